/- strings.Builder's copyCheck and String, for the evaluator. -/
import Derived.Test.YtcandpiafgicbaaGreatDoorEv3
import Derived.Test.YtcandpiafgicbaaGreatDoorRows
import Derived.Lib.UnsafeStr
import Derived.Shelf.RegionOpenPlain
import Derived.Lib.Builder
import Derived.Lib.Walk
import Derived.WalkKit
import Derived.Laws.Externs
import Derived.Laws.IdiomCopy
namespace Go.Proofs.YtcandpiafgicbaaGreatDoor
open Go.RowKit Go.Proofs.YtcandpiafgicbaaGreatDoor.Ev
open Go hiding Obj
set_option linter.unusedVariables false
set_option linter.unusedSimpArgs false
set_option maxHeartbeats 2000000
set_option maxRecDepth 100000
set_option linter.unusedSectionVars false
variable [Gl]
theorem liesAt_off {P : Program} {e : TypeId} (hc : P.cellsOf e = 1) (count off n : Nat) (hn : off + n ≤ count) : liesAt P P.depth e count off e n = true := by
  have hd : P.depth = (2 * (P.types.size + Made.depth) + 1) + 1 := rfl
  rw [hd]
  simp only [liesAt, Bool.or_eq_true]
  left
  rw [hd]
  simp [rowAt, hc, hn, sameLayout, Nat.mod_one]
/-- unsafe.String over bytes of a row. -/
theorem run_unsafeString_off {P : Program} (w : World) (pt it ty e : TypeId) (hp : P.underlying pt = some (.pointer e)) (hc : P.cellsOf e = 1) (g o cells : Nat) (hsh : w.shape? g = some (e, cells)) (l : List UInt8) (h0 : l ≠ []) (hn : o + l.length ≤ cells) (h63 : l.length ≤ 9223372036854775807)
    (hcell : ∀ j x, l[j]? = some x → w.cell? ((⟨g, o, none⟩ : Addr).add j) = some (.int .u8 x.toNat)) :
    (Builtin.unsafeString_ #[pt, it] ty #[.pointer (some ⟨g, o, none⟩), .int .i64 l.length]).run P w = .ok (.string ⟨l.toArray⟩) (w.freeze ⟨g, o, none⟩ l.length) := by
  have hl : l.length ≠ 0 := by simpa using h0
  have hlb := Lib.run_loadBytes (P := P) w l ⟨g, o, none⟩ .empty hcell
  have hlies := liesAt_off (P := P) hc (cells / P.cellsOf e) o l.length (by rw [hc]; simpa using hn)
  have h63' : ¬ (9223372036854775807 : Int) < (l.length : Int) := by omega
  have hdef : Builtin.unsafeString_ #[pt, it] ty #[.pointer (some ⟨g, o, none⟩), .int .i64 l.length] =
      (do
        let n ← asInt (.int .i64 l.length)
        if n < 0 then runtimePanic (.error "unsafe.String: len out of range")
        if n > IntKind.i64.max then unsupported (.unsafePointer "String: a length above the largest int")
        if n = 0 then pure (.string .empty)
        else if ← variablesAt ⟨g, o, none⟩ (← elemOf pt) n.toNat then do
          let s ← loadBytes ⟨g, o, none⟩ .empty n.toNat
          freeze ⟨g, o, none⟩ n.toNat
          pure (.string s)
        else unsupported (.unsafePointer "String: not so many bytes at ptr")) := rfl
  rw [hdef]
  have hmax : IntKind.i64.max = 9223372036854775807 := rfl
  have hneg : ¬ (l.length : Int) < 0 := by omega
  simp [asInt, asIntOf, hmax, h63', hneg, hl, variablesAt, hsh, elemOf, run_underlying hp, hlies, hlb]
theorem chkUsed (b : Nat) (w : World) (h0 : w.cell? ⟨b, 0, none⟩ = some (.pointer (some ⟨b, 0, none⟩))) :
    Calls Tryz.prog 48 #[.pointer (some ⟨b, 0, none⟩)] w fun e w' => e = .returned (.tuple #[]) ∧ w' = w := by
  obtain ⟨j, hj, _⟩ := Option.map_eq_some_iff.1 (show (Tryz.prog.info? 51).map (·.size) = some 2 by kernel_rfl)
  go_enter Tryz.func48, Tryz.ntmps48
  go_wp2
  rw [Lib.run_neq_ptr_same w _ Tryz.underlying49 hj]
  go_wp2
  go_end0
  exact ⟨rfl, rfl⟩
theorem chkFresh (b : Nat) (w : World) (h0 : w.cell? ⟨b, 0, none⟩ = some (.pointer none)) (hsh : w.shape? b = some (51, 2)) (hfz : w.frozen? ⟨b, 0, none⟩ = false) :
    Calls Tryz.prog 48 #[.pointer (some ⟨b, 0, none⟩)] w fun e w' => e = .returned (.tuple #[]) ∧ w' = w.setCell ⟨b, 0, none⟩ (.pointer (some ⟨b, 0, none⟩)) := by
  obtain ⟨j, hj, hjs⟩ := Option.map_eq_some_iff.1 (show (Tryz.prog.info? 51).map (·.size) = some 2 by kernel_rfl)
  go_enter Tryz.func48, Tryz.ntmps48
  go_wp2
  rw [Lib.run_to_unsafe w ⟨b, 0, none⟩ Tryz.underlying49 Tryz.underlying143 hj (by rw [hjs]; decide) hsh (Nat.zero_lt_succ 1)]
  simp only [Result.andThen]
  rw [Oper.upon_value]
  go_wp2
  rw [run_callFunc_extern Tryz.func84 (by kernel_rfl) (by kernel_rfl) (by kernel_rfl) (e := Extern.AbiNoEscape.same) (by kernel_rfl)]
  rw [Lib.run_noEscape]
  simp only [Result.andThen]
  rw [Oper.upon_value]
  go_wp2
  rw [Lib.run_from_unsafe w ⟨b, 0, none⟩ Tryz.underlying143 Tryz.underlying49 hj hsh (by kernel_rfl)]
  simp only [Result.andThen]
  rw [Oper.upon_value]
  go_wp2
  go_end0
  exact ⟨rfl, rfl⟩
theorem strAtW (b g o cap cells : Nat) (l : List UInt8) (w : World) (c1 : w.cell? ⟨b, 1, none⟩ = some (.slice (some ⟨g, o, none⟩) l.length cap)) (hsh : w.shape? g = some (5, cells)) (h0 : l ≠ []) (hn : o + l.length ≤ cells) (h63 : l.length ≤ 9223372036854775807) (hc0 : cap ≠ 0)
    (hcell : ∀ j x, l[j]? = some x → w.cell? ((⟨g, o, none⟩ : Addr).add j) = some (.int .u8 x.toNat)) :
    Calls Tryz.prog 22 #[.pointer (some ⟨b, 0, none⟩)] w fun e w' => e = .returned (.string ⟨l.toArray⟩) ∧ w' = w.drew.freeze ⟨g, o, none⟩ l.length := by
  have c1' : w.drew.cell? ⟨b, 1, none⟩ = some (.slice (some ⟨g, o, none⟩) l.length cap) := c1
  have hSD : (Builtin.unsafeSliceData_ #[37] 105 #[.slice (some ⟨g, o, none⟩) l.length cap]).run Tryz.prog w.drew = .ok (.pointer (some ⟨g, o, none⟩)) w.drew := Lib.run_unsafeSliceData_row _ _ _ _ _ _ hc0
  have hUS : (Builtin.unsafeString_ #[105, 3] 9 #[.pointer (some ⟨g, o, none⟩), .int .i64 l.length]).run Tryz.prog w.drew = .ok (.string ⟨l.toArray⟩) (w.drew.freeze ⟨g, o, none⟩ l.length) :=
    run_unsafeString_off w.drew _ _ _ 5 Tryz.underlying105 (by kernel_rfl) g o cells hsh l h0 hn h63 hcell
  clear hc0 hcell h0 hn h63 hsh
  generalize l.length = n at *
  have mixed : Tryz.prog.follows .mixedOrders = true := by kernel_rfl
  go_enter Tryz.func22, Tryz.ntmps22
  go_wp2
  go_region_o
  all_goals (go_wp2; go_ret; exact ⟨rfl, rfl⟩)
theorem strNilW (b : Nat) (w : World) (c1 : w.cell? ⟨b, 1, none⟩ = some (.slice none 0 0)) :
    Calls Tryz.prog 22 #[.pointer (some ⟨b, 0, none⟩)] w fun e w' => e = .returned (.string .empty) ∧ w' = w.drew := by
  have c1' : w.drew.cell? ⟨b, 1, none⟩ = some (.slice none 0 0) := c1
  have hSD : (Builtin.unsafeSliceData_ #[37] 105 #[.slice none 0 0]).run Tryz.prog w.drew = .ok (.pointer none) w.drew := rfl
  have hUS : (Builtin.unsafeString_ #[105, 3] 9 #[.pointer none, .int .i64 0]).run Tryz.prog w.drew = .ok (.string .empty) w.drew := Lib.run_unsafeString_none w.drew _ _ _ none
  have mixed : Tryz.prog.follows .mixedOrders = true := by kernel_rfl
  go_enter Tryz.func22, Tryz.ntmps22
  go_wp2
  go_region_o
  all_goals (go_wp2; go_ret; exact ⟨rfl, rfl⟩)
/-- copyCheck. -/
noncomputable def bldChk (args : List Value) (S : St) : Option (Value × St) :=
  match args with
  | [.pointer (some ⟨b, 0, none⟩)] =>
    bif Nat.beq (b % 2) 0 then
      match S.get b with
      | some (.cells [.pointer none, c1] e sz) => bif Nat.beq e 51 then some (.tuple ⟨[]⟩, S.set b (.cells [.pointer (some ⟨b, 0, none⟩), c1] e sz)) else none
      | some (.cells [.pointer (some ⟨b', 0, none⟩), c1] e sz) => bif Nat.beq b b' then some (.tuple ⟨[]⟩, S) else none
      | _ => none
    else none
  | _ => none
theorem ptrArg {r : Ren} {b : Nat} {args' : List Value} (h : VRs r [.pointer (some ⟨b, 0, none⟩)] args') : args' = [.pointer (some ⟨r.μ b, 0 + r.δ b, none⟩)] ∧ b < r.n := by
  obtain ⟨p, rfl, hp⟩ := VRs.one' h
  cases hp with
  | sc _ hsc => simp [scalar] at hsc
  | ptr _ _ hb => exact ⟨rfl, hb⟩
theorem bldChk_ok {args : List Value} {S S' : St} {v : Value} (h : bldChk args S = some (v, S')) {r : Ren} {w : World} {args' : List Value} (hr : Rel r S w) (ha : VRs r args args') :
    Calls Tryz.prog 48 ⟨args'⟩ w fun e w' => ∃ r' v', e = .returned v' ∧ Fr r S w r' S' w' ∧ VR r' v v' := by
  unfold bldChk at h
  split at h
  case h_2 => cases h
  rename_i b
  obtain ⟨rfl, hbn⟩ := ptrArg ha
  cases hev : Nat.beq (b % 2) 0 with
  | false => rw [hev] at h; cases h
  | true =>
    rw [hev] at h
    simp only [cond_true] at h
    have hev := beq0 hev
    split at h
    case h_3 => cases h
    · rename_i c1 e sz hg
      cases hT : Nat.beq e 51 with
      | false => rw [hT] at h; cases h
      | true =>
        rw [hT] at h
        simp only [cond_true, Option.some.injEq, Prod.mk.injEq] at h
        obtain ⟨rfl, rfl⟩ := h
        obtain rfl := beq0 hT
        obtain ⟨_, hmk, hcs, _, he⟩ := hr.objs _ _ hg
        obtain ⟨hd, hsh⟩ := he hev
        obtain ⟨u, u1, u2, _, u4⟩ := hcs 0 _ rfl
        have u2 : u = .pointer none := by cases u2; rfl
        subst u2
        rw [hd] at u1 u4 ⊢
        refine (chkFresh (r.μ b) w u1 hsh u4).mono ?_
        rintro e w' ⟨rfl, rfl⟩
        have hw := hr.write hg (o := 0) (xs := [.pointer (some ⟨b, 0, none⟩)]) (xs' := [.pointer (some ⟨r.μ b, 0 + r.δ b, none⟩)]) (VRs.cons (VR.ptr b 0 hbn) .nil) (by intro y hy; simp at hy; subst hy; rfl) (by simp)
        rw [hd] at hw
        exact ⟨r, _, rfl, hw, .tuple .nil⟩
    · rename_i b' c1 e sz hg
      cases hT : Nat.beq b b' with
      | false => rw [hT] at h; cases h
      | true =>
        rw [hT] at h
        simp only [cond_true, Option.some.injEq, Prod.mk.injEq] at h
        obtain ⟨rfl, rfl⟩ := h
        obtain rfl := beq0 hT
        obtain ⟨_, hmk, hcs, _, he⟩ := hr.objs _ _ hg
        obtain ⟨hd, hsh⟩ := he hev
        obtain ⟨u, u1, u2, _, u4⟩ := hcs 0 _ rfl
        have u2 : u = .pointer (some ⟨r.μ b, 0 + r.δ b, none⟩) := by
          cases u2 with
          | sc _ hsc => simp [scalar] at hsc
          | ptr _ _ _ => rfl
        subst u2
        rw [hd] at u1 ⊢
        refine (chkUsed (r.μ b) w u1).mono ?_
        rintro e w' ⟨rfl, rfl⟩
        exact ⟨r, _, rfl, Fr.refl hr, .tuple .nil⟩
/-- Bytes of cells. -/
noncomputable def bytesOf : List Value → Option (List UInt8)
  | [] => some []
  | .int .u8 (.ofNat m) :: t => bif Nat.blt m 256 then (match bytesOf t with | some l => some (UInt8.ofNat m :: l) | none => none) else none
  | _ => none
theorem bytesOf_spec : ∀ {cs : List Value} {l : List UInt8}, bytesOf cs = some l → cs = l.map fun x => .int .u8 (x.toNat : Int)
  | [], l, h => by
    simp only [bytesOf, Option.some.injEq] at h
    subst h
    rfl
  | v :: t, l, h => by
    unfold bytesOf at h
    split at h
    · rename_i e; cases e
    · rename_i m t' e
      injection e with e1 e2
      subst e1 e2
      cases hb : Nat.blt m 256 with
      | false => rw [hb] at h; cases h
      | true =>
        rw [hb] at h
        simp only [cond_true] at h
        split at h
        case h_2 => cases h
        rename_i l' hl
        simp only [Option.some.injEq] at h
        subst h
        have hm : m < 256 := by simpa [Nat.blt_eq] using hb
        have e : (UInt8.ofNat m).toNat = m := by simp; omega
        rw [List.map_cons, ← bytesOf_spec hl, e]
        rfl
    · cases h
/-- Bytes that a string shares are not looked at any more. -/
theorem Fr.froze {r : Ren} {S : St} {w : World} (h : Rel r S w) {c : Nat} {oc : Ev.Obj} (hg : S.get c = some oc) (ho : oc.owns = true) (off n : Nat) : Fr r S w r (S.del c) (w.freeze ⟨r.μ c, off, none⟩ n) := by
  have hold : ∀ k, k ≠ r.μ c → (w.freeze ⟨r.μ c, off, none⟩ n).heap[k]? = w.heap[k]? := fun k hk => by
    unfold World.freeze
    split
    · rfl
    · simp only [Array.getElem?_modify]
      rw [if_neg (fun e => hk e.symm)]
  have hrest : (w.freeze ⟨r.μ c, off, none⟩ n).heap.size = w.heap.size ∧ (w.freeze ⟨r.μ c, off, none⟩ n).os = w.os ∧ (w.freeze ⟨r.μ c, off, none⟩ n).tape = w.tape ∧ (w.freeze ⟨r.μ c, off, none⟩ n).output = w.output := by
    unfold World.freeze
    split
    · exact ⟨rfl, rfl, rfl, rfl⟩
    · exact ⟨by simp, rfl, rfl, rfl⟩
  obtain ⟨s1, s2, s3, s4⟩ := hrest
  exact Fr.mk' h r.le_refl h.n h.even (by omega) (fun i o hi => .inl ⟨(St.get_del hi).2, fun how => hold _ fun e => (St.get_del hi).1 (h.inj _ _ _ _ (St.get_del hi).2 hg how ho e)⟩)
    (fun k _ hno => hold k fun e => hno ⟨c, oc, hg, ho, e.symm⟩) s2 s3 s4
/-- String. -/
noncomputable def bldStr (args : List Value) (S : St) : Option (Value × St) :=
  match args with
  | [.pointer (some ⟨b, 0, none⟩)] =>
    match S.get b with
    | some (.cells [_, .slice none 0 0] _ _) => bif Nat.beq (b % 2) 0 then some (.string .empty, S) else none
    | some (.cells [_, .slice (some ⟨c, o, none⟩) n k] _ _) =>
      match S.get c with
      | some (.cells xs e sz) =>
        bif Nat.beq e 5 && (Nat.beq (b % 2) 0 && (!(Nat.beq n 0) && (Nat.beq (c % 2) 1 && (Nat.beq k o && (Nat.blt k KB && (Nat.beq sz 1 && (Nat.beq ((xs.drop o).take n).length n && Nat.ble n 1000000))))))) then
          (match bytesOf ((xs.drop o).take n) with | some l => some (.string ⟨l.toArray⟩, S.del c) | none => none)
        else none
      | _ => none
    | _ => none
  | _ => none
theorem bldStr_ok {args : List Value} {S S' : St} {v : Value} (h : bldStr args S = some (v, S')) {r : Ren} {w : World} {args' : List Value} (hr : Rel r S w) (ha : VRs r args args') :
    Calls Tryz.prog 22 ⟨args'⟩ w fun e w' => ∃ r' v', e = .returned v' ∧ Fr r S w r' S' w' ∧ VR r' v v' := by
  unfold bldStr at h
  split at h
  case h_2 => cases h
  rename_i b
  obtain ⟨rfl, hbn⟩ := ptrArg ha
  split at h
  case h_3 => cases h
  · rename_i x0 eb szb hb
    cases hev : Nat.beq (b % 2) 0 with
    | false => rw [hev] at h; cases h
    | true =>
      rw [hev] at h
      simp only [cond_true, Option.some.injEq, Prod.mk.injEq] at h
      obtain ⟨rfl, rfl⟩ := h
      obtain ⟨_, _, hcsb, _, hevb⟩ := hr.objs _ _ hb
      obtain ⟨hd, _⟩ := hevb (beq0 hev)
      obtain ⟨u, u1, u2, _, _⟩ := hcsb 1 _ rfl
      have u2 : u = .slice none 0 0 := by cases u2; rfl
      subst u2
      rw [hd] at u1 ⊢
      refine (strNilW (r.μ b) w u1).mono ?_
      rintro e w' ⟨rfl, rfl⟩
      exact ⟨r, _, rfl, Fr.drew hr, .sc _ rfl⟩
  rename_i x0 c o n k eb szb hb
  split at h
  case h_2 => cases h
  rename_i xs e sz hc
  cases hk : (Nat.beq e 5 && (Nat.beq (b % 2) 0 && (!(Nat.beq n 0) && (Nat.beq (c % 2) 1 && (Nat.beq k o && (Nat.blt k KB && (Nat.beq sz 1 && (Nat.beq ((xs.drop o).take n).length n && Nat.ble n 1000000)))))))) with
  | false => rw [hk] at h; cases h
  | true =>
    rw [hk] at h
    simp only [cond_true] at h
    simp only [Bool.and_eq_true, Bool.not_eq_true'] at hk
    obtain ⟨k1, k2, k3, k4, k5, k6, k7, k8, k9⟩ := hk
    obtain rfl := beq0 k1
    have k2 := beq0 k2
    have k3 := nbeq0 k3
    have k4 := beq0 k4
    obtain rfl := beq0 k5
    have k6 : k < KB := by simpa [Nat.blt_eq] using k6
    obtain rfl := beq0 k7
    have k8 := beq0 k8
    have k9 := ble0 k9
    split at h
    case h_2 => cases h
    rename_i l hl
    simp only [Option.some.injEq, Prod.mk.injEq] at h
    obtain ⟨rfl, rfl⟩ := h
    have hsp := bytesOf_spec hl
    have hll : l.length = n := by rw [hsp, List.length_map] at k8; exact k8
    subst hll
    obtain ⟨_, _, hcsb, _, hevb⟩ := hr.objs _ _ hb
    obtain ⟨hd, _⟩ := hevb k2
    obtain ⟨_, hmk, hcc, hodd, _⟩ := hr.objs _ _ hc
    obtain ⟨u, u1, u2, _, _⟩ := hcsb 1 _ rfl
    obtain ⟨C, lo, hi, hC, _⟩ := hmk
    have hlen : k + l.length ≤ xs.length := by
      rw [List.length_take, List.length_drop] at k8
      omega
    have hkap := (hodd k4).1
    have hcell : ∀ j x, l[j]? = some x → w.cell? ⟨r.μ c, k + r.δ c + j, none⟩ = some (.int .u8 x.toNat) := fun j x hx => by
      have e1 : ((xs.drop k).take l.length)[j]? = some (.int .u8 (x.toNat : Int)) := by rw [hsp]; simp [hx]
      have hj := (List.getElem?_eq_some_iff.1 hx).1
      rw [List.getElem?_take_of_lt hj, List.getElem?_drop] at e1
      obtain ⟨z, g1, g2, _, _⟩ := hcc _ _ e1
      have g2 : z = .int .u8 (x.toNat : Int) := by cases g2; rfl
      subst g2
      rw [show k + r.δ c + j = k + j + r.δ c by omega]
      exact g1
    have hsh : w.shape? (r.μ c) = some (5, C.size) := by unfold World.shape?; rw [hC]
    have hfit : k + r.δ c + l.length ≤ C.size := by
      have hlt : l.length - 1 < l.length := by omega
      have := hcell (l.length - 1) _ (List.getElem?_eq_getElem hlt)
      unfold World.cell? at this
      rw [hC] at this
      have := (Array.getElem?_eq_some_iff.1 (show C[k + r.δ c + (l.length - 1)]? = _ from this)).1
      omega
    have hu : ∃ cap, cap ≠ 0 ∧ u = .slice (some ⟨r.μ c, k + r.δ c, none⟩) l.length cap := by
      cases u2 with
      | sc _ hsc => simp [scalar] at hsc
      | slE _ _ _ _ _ he => omega
      | slO _ _ _ _ _ _ _ _ _ hx =>
        obtain ⟨rfl, rfl⟩ : _ ∧ _ := hx.resolve_right (by omega)
        exact ⟨_, by omega, rfl⟩
      | slK => omega
    obtain ⟨cap, hcap, rfl⟩ := hu
    rw [hd] at u1 ⊢
    refine (strAtW (r.μ b) (r.μ c) (k + r.δ c) cap C.size l w u1 hsh (by intro e; rw [e] at k3; exact k3 rfl) hfit (by omega) hcap fun j x hx => ?_).mono ?_
    · have e : ((⟨r.μ c, k + r.δ c, none⟩ : Addr).add j) = ⟨r.μ c, k + r.δ c + j, none⟩ := by
        unfold Addr.add
        by_cases hj : j = 0
        · subst hj; simp
        · simp [hj]
      rw [e]
      exact hcell j x hx
    · rintro e w' ⟨rfl, rfl⟩
      exact ⟨r, _, rfl, (Fr.drew hr).trans (Fr.froze (Fr.drew hr).rel hc rfl _ _), .sc _ rfl⟩
end Go.Proofs.YtcandpiafgicbaaGreatDoor
