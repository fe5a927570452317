/- strings.Builder's copyCheck and String, for the evaluator. -/
import Derived.Test.YtigkndbkaagboaaGreatDoorZG2
import Derived.Test.YtigkndbkaagboaaGreatDoorRows
import Derived.Lib.UnsafeStr
import Derived.Shelf.RegionOpenPlain
import Derived.Lib.Builder
import Derived.Lib.Walk
import Derived.WalkKit
import Derived.Laws.Externs
import Derived.Laws.IdiomCopy
import Derived.Test.YtigkndbkaagboaaGreatDoorTeS
import Derived.Lib.AppendIntMem
import Derived.Shelf.Strings.Builder1
import Derived.Shelf.Small.Bits
import Derived.Shelf.Small.Strs
import Derived.Shelf.Small.Wraps
import Derived.Shelf.Utf8.RuneCount
import Derived.Shelf.Strconv.Itoa0
import Derived.Shelf.Strconv.Itoa1
import Derived.Shelf.LaysM
import Derived.Shelf.Strconv.Itoa2
import Derived.Shelf.Strconv.Itoa3
import Derived.Shelf.Strings.Search1
import Derived.Shelf.Strings.Search2
import Derived.Shelf.Strings.Search3
import Derived.Shelf.Strings.Count
import Derived.Shelf.Strings.Shaped
import Derived.Shelf.Strings.Prefix
import Derived.Shelf.Strings.Split
import Derived.Shelf.Strings.SplitShaped
import Derived.Shelf.Unicode.Decode
import Derived.Shelf.Strings.RuneCount
import Derived.Shelf.Strings.Explode
import Derived.Shelf.Bits.Mul64
import Derived.Shelf.Unicode.DecodeSlow
import Derived.Shelf.Unicode.DecodeAny
import Derived.Shelf.Slices.Turned
import Derived.Ground.Names2Prog
import Derived.Shelf.Slices.Clone
import Derived.Shelf.Slices.SearchI
import Derived.Ground.SlgnProg
import Derived.Shelf.SlicesE.Clone
import Derived.Ground.SlsfProg
import Derived.Shelf.SlSortCmp.Insertion
import Derived.Shelf.SlSortCmp.SiftDown1
import Derived.Shelf.SlSortCmp.Insertion1
import Derived.Shelf.SlSortCmp.Median1
import Derived.Shelf.SlSortCmp.Pivot1
import Derived.Shelf.SlSortCmp.ReverseRange1
import Derived.Shelf.SlIterI.Collect
import Derived.Ground.GgzProg
import Derived.Test.YtigkndbkaagboaaGreatDoorProg
import Derived.RangeFuncBox
import Derived.RangeFuncLeaves
import Derived.RangeFuncBound
import Derived.OwnWalkIn
import Derived.TacticsInMore
import Derived.LoopNIn
import Derived.LoopIn
import Derived.Sort.OwnSorted
import Derived.Shelf.Abstract
import Derived.Maps.AppendAt
import Derived.Maps.RangeRun
import Derived.Test.YtigkndbkaagboaaGreatDoorMem
import Derived.Test.YtigkndbkaagboaaGreatDoorReg
import Derived.Test.YtigkndbkaagboaaGreatDoorChecked
section
namespace Go.Proofs.YtigkndbkaagboaaGreatDoor
open Go.RowKit Go.Proofs.YtigkndbkaagboaaGreatDoor.Ev
open Go hiding Obj
set_option linter.unusedVariables false
set_option linter.unusedSimpArgs false
set_option maxHeartbeats 2000000
set_option maxRecDepth 100000
set_option linter.unusedSectionVars false
variable [Gl]
theorem liesAt_off {P : Program} {e : TypeId} (hc : P.cellsOf e = 1) (count off n : Nat) (hn : off + n ≤ count) : liesAt P P.depth e count off e n = true := by
  have hd : P.depth = (2 * (P.types.size + Made.depth) + 1) + 1 := rfl
  rw [hd]
  simp only [liesAt, Bool.or_eq_true]
  left
  rw [hd]
  simp [rowAt, hc, hn, sameLayout, Nat.mod_one]
/-- unsafe.String over bytes of a row. -/
theorem run_unsafeString_off {P : Program} (w : World) (pt it ty e : TypeId) (hp : P.underlying pt = some (.pointer e)) (hc : P.cellsOf e = 1) (g o cells : Nat) (hsh : w.shape? g = some (e, cells)) (l : List UInt8) (h0 : l ≠ []) (hn : o + l.length ≤ cells) (h63 : l.length ≤ 9223372036854775807)
    (hcell : ∀ j x, l[j]? = some x → w.cell? ((⟨g, o, none⟩ : Addr).add j) = some (.int .u8 x.toNat)) :
    (Builtin.unsafeString_ #[pt, it] ty #[.pointer (some ⟨g, o, none⟩), .int .i64 l.length]).run P w = .ok (.string ⟨l.toArray⟩) (w.freeze ⟨g, o, none⟩ l.length) := by
  have hl : l.length ≠ 0 := by simpa using h0
  have hlb := Lib.run_loadBytes (P := P) w l ⟨g, o, none⟩ .empty hcell
  have hlies := liesAt_off (P := P) hc (cells / P.cellsOf e) o l.length (by rw [hc]; simpa using hn)
  have h63' : ¬ (9223372036854775807 : Int) < (l.length : Int) := by omega
  have hdef : Builtin.unsafeString_ #[pt, it] ty #[.pointer (some ⟨g, o, none⟩), .int .i64 l.length] =
      (do
        let n ← asInt (.int .i64 l.length)
        if n < 0 then runtimePanic (.error "unsafe.String: len out of range")
        if n > IntKind.i64.max then unsupported (.unsafePointer "String: a length above the largest int")
        if n = 0 then pure (.string .empty)
        else if ← variablesAt ⟨g, o, none⟩ (← elemOf pt) n.toNat then do
          let s ← loadBytes ⟨g, o, none⟩ .empty n.toNat
          freeze ⟨g, o, none⟩ n.toNat
          pure (.string s)
        else unsupported (.unsafePointer "String: not so many bytes at ptr")) := rfl
  rw [hdef]
  have hmax : IntKind.i64.max = 9223372036854775807 := rfl
  have hneg : ¬ (l.length : Int) < 0 := by omega
  simp [asInt, asIntOf, hmax, h63', hneg, hl, variablesAt, hsh, elemOf, run_underlying hp, hlies, hlb]
theorem chkUsed (b : Nat) (w : World) (h0 : w.cell? ⟨b, 0, none⟩ = some (.pointer (some ⟨b, 0, none⟩))) :
    Calls Tryz.prog 107 #[.pointer (some ⟨b, 0, none⟩)] w fun e w' => e = .returned (.tuple #[]) ∧ w' = w := by
  obtain ⟨j, hj, _⟩ := Option.map_eq_some_iff.1 (show (Tryz.prog.info? 125).map (·.size) = some 2 by kernel_rfl)
  go_enter Tryz.func107, Tryz.ntmps107
  go_wp2
  rw [Lib.run_neq_ptr_same w _ Tryz.underlying123 hj]
  go_wp2
  go_end0
  exact ⟨rfl, rfl⟩
theorem chkFresh (b : Nat) (w : World) (h0 : w.cell? ⟨b, 0, none⟩ = some (.pointer none)) (hsh : w.shape? b = some (125, 2)) (hfz : w.frozen? ⟨b, 0, none⟩ = false) :
    Calls Tryz.prog 107 #[.pointer (some ⟨b, 0, none⟩)] w fun e w' => e = .returned (.tuple #[]) ∧ w' = w.setCell ⟨b, 0, none⟩ (.pointer (some ⟨b, 0, none⟩)) := by
  obtain ⟨j, hj, hjs⟩ := Option.map_eq_some_iff.1 (show (Tryz.prog.info? 125).map (·.size) = some 2 by kernel_rfl)
  go_enter Tryz.func107, Tryz.ntmps107
  go_wp2
  rw [Lib.run_to_unsafe w ⟨b, 0, none⟩ Tryz.underlying123 Tryz.underlying222 hj (by rw [hjs]; decide) hsh (Nat.zero_lt_succ 1)]
  simp only [Result.andThen]
  rw [Oper.upon_value]
  go_wp2
  rw [run_callFunc_extern Tryz.func146 (by kernel_rfl) (by kernel_rfl) (by kernel_rfl) (e := Extern.AbiNoEscape.same) (by kernel_rfl)]
  rw [Lib.run_noEscape]
  simp only [Result.andThen]
  rw [Oper.upon_value]
  go_wp2
  rw [Lib.run_from_unsafe w ⟨b, 0, none⟩ Tryz.underlying222 Tryz.underlying123 hj hsh (by kernel_rfl)]
  simp only [Result.andThen]
  rw [Oper.upon_value]
  go_wp2
  go_end0
  exact ⟨rfl, rfl⟩
theorem strAtW (b g o cap cells : Nat) (l : List UInt8) (w : World) (c1 : w.cell? ⟨b, 1, none⟩ = some (.slice (some ⟨g, o, none⟩) l.length cap)) (hsh : w.shape? g = some (5, cells)) (h0 : l ≠ []) (hn : o + l.length ≤ cells) (h63 : l.length ≤ 9223372036854775807) (hc0 : cap ≠ 0)
    (hcell : ∀ j x, l[j]? = some x → w.cell? ((⟨g, o, none⟩ : Addr).add j) = some (.int .u8 x.toNat)) :
    Calls Tryz.prog 66 #[.pointer (some ⟨b, 0, none⟩)] w fun e w' => e = .returned (.string ⟨l.toArray⟩) ∧ w' = w.drew.freeze ⟨g, o, none⟩ l.length := by
  have c1' : w.drew.cell? ⟨b, 1, none⟩ = some (.slice (some ⟨g, o, none⟩) l.length cap) := c1
  have hSD : (Builtin.unsafeSliceData_ #[65] 176 #[.slice (some ⟨g, o, none⟩) l.length cap]).run Tryz.prog w.drew = .ok (.pointer (some ⟨g, o, none⟩)) w.drew := Lib.run_unsafeSliceData_row _ _ _ _ _ _ hc0
  have hUS : (Builtin.unsafeString_ #[176, 3] 9 #[.pointer (some ⟨g, o, none⟩), .int .i64 l.length]).run Tryz.prog w.drew = .ok (.string ⟨l.toArray⟩) (w.drew.freeze ⟨g, o, none⟩ l.length) :=
    run_unsafeString_off w.drew _ _ _ 5 Tryz.underlying176 (by kernel_rfl) g o cells hsh l h0 hn h63 hcell
  clear hc0 hcell h0 hn h63 hsh
  generalize l.length = n at *
  have mixed : Tryz.prog.follows .mixedOrders = true := by kernel_rfl
  go_enter Tryz.func66, Tryz.ntmps66
  go_wp2
  go_region_o
  all_goals (go_wp2; go_ret; exact ⟨rfl, rfl⟩)
theorem strNilW (b : Nat) (w : World) (c1 : w.cell? ⟨b, 1, none⟩ = some (.slice none 0 0)) :
    Calls Tryz.prog 66 #[.pointer (some ⟨b, 0, none⟩)] w fun e w' => e = .returned (.string .empty) ∧ w' = w.drew := by
  have c1' : w.drew.cell? ⟨b, 1, none⟩ = some (.slice none 0 0) := c1
  have hSD : (Builtin.unsafeSliceData_ #[65] 176 #[.slice none 0 0]).run Tryz.prog w.drew = .ok (.pointer none) w.drew := rfl
  have hUS : (Builtin.unsafeString_ #[176, 3] 9 #[.pointer none, .int .i64 0]).run Tryz.prog w.drew = .ok (.string .empty) w.drew := Lib.run_unsafeString_none w.drew _ _ _ none
  have mixed : Tryz.prog.follows .mixedOrders = true := by kernel_rfl
  go_enter Tryz.func66, Tryz.ntmps66
  go_wp2
  go_region_o
  all_goals (go_wp2; go_ret; exact ⟨rfl, rfl⟩)
/-- copyCheck. -/
noncomputable def bldChk (args : List Value) (S : St) : Option (Value × St) :=
  match args with
  | [.pointer (some ⟨b, 0, none⟩)] =>
    bif Nat.beq (b % 2) 0 then
      match S.get b with
      | some (.cells [.pointer none, c1] e sz) => bif Nat.beq e 125 then some (.tuple ⟨[]⟩, S.set b (.cells [.pointer (some ⟨b, 0, none⟩), c1] e sz)) else none
      | some (.cells [.pointer (some ⟨b', 0, none⟩), c1] e sz) => bif Nat.beq b b' then some (.tuple ⟨[]⟩, S) else none
      | _ => none
    else none
  | _ => none
theorem ptrArg {r : Ren} {b : Nat} {args' : List Value} (h : VRs r [.pointer (some ⟨b, 0, none⟩)] args') : args' = [.pointer (some ⟨r.μ b, 0 + r.δ b, none⟩)] ∧ b < r.n := by
  obtain ⟨p, rfl, hp⟩ := VRs.one' h
  cases hp with
  | sc _ hsc => simp [scalar] at hsc
  | ptr _ _ hb => exact ⟨rfl, hb⟩
theorem bldChk_ok {args : List Value} {S S' : St} {v : Value} (h : bldChk args S = some (v, S')) {r : Ren} {w : World} {args' : List Value} (hr : Rel r S w) (ha : VRs r args args') :
    Calls Tryz.prog 107 ⟨args'⟩ w fun e w' => ∃ r' v', e = .returned v' ∧ Fr r S w r' S' w' ∧ VR r' v v' := by
  unfold bldChk at h
  split at h
  case h_2 => cases h
  rename_i b
  obtain ⟨rfl, hbn⟩ := ptrArg ha
  cases hev : Nat.beq (b % 2) 0 with
  | false => rw [hev] at h; cases h
  | true =>
    rw [hev] at h
    simp only [cond_true] at h
    have hev := beq0 hev
    split at h
    case h_3 => cases h
    · rename_i c1 e sz hg
      cases hT : Nat.beq e 125 with
      | false => rw [hT] at h; cases h
      | true =>
        rw [hT] at h
        simp only [cond_true, Option.some.injEq, Prod.mk.injEq] at h
        obtain ⟨rfl, rfl⟩ := h
        obtain rfl := beq0 hT
        obtain ⟨_, hmk, hcs, _, he⟩ := hr.objs _ _ hg
        obtain ⟨hd, hsh⟩ := he hev
        obtain ⟨u, u1, u2, _, u4⟩ := hcs 0 _ rfl
        have u2 : u = .pointer none := by cases u2; rfl
        subst u2
        rw [hd] at u1 u4 ⊢
        refine (chkFresh (r.μ b) w u1 hsh u4).mono ?_
        rintro e w' ⟨rfl, rfl⟩
        have hw := hr.write hg (o := 0) (xs := [.pointer (some ⟨b, 0, none⟩)]) (xs' := [.pointer (some ⟨r.μ b, 0 + r.δ b, none⟩)]) (VRs.cons (VR.ptr b 0 hbn) .nil) (by intro y hy; simp at hy; subst hy; rfl) (by simp)
        rw [hd] at hw
        exact ⟨r, _, rfl, hw, .tuple .nil⟩
    · rename_i b' c1 e sz hg
      cases hT : Nat.beq b b' with
      | false => rw [hT] at h; cases h
      | true =>
        rw [hT] at h
        simp only [cond_true, Option.some.injEq, Prod.mk.injEq] at h
        obtain ⟨rfl, rfl⟩ := h
        obtain rfl := beq0 hT
        obtain ⟨_, hmk, hcs, _, he⟩ := hr.objs _ _ hg
        obtain ⟨hd, hsh⟩ := he hev
        obtain ⟨u, u1, u2, _, u4⟩ := hcs 0 _ rfl
        have u2 : u = .pointer (some ⟨r.μ b, 0 + r.δ b, none⟩) := by
          cases u2 with
          | sc _ hsc => simp [scalar] at hsc
          | ptr _ _ _ => rfl
        subst u2
        rw [hd] at u1 ⊢
        refine (chkUsed (r.μ b) w u1).mono ?_
        rintro e w' ⟨rfl, rfl⟩
        exact ⟨r, _, rfl, Fr.refl hr, .tuple .nil⟩
/-- Bytes of cells. -/
noncomputable def bytesOf : List Value → Option (List UInt8)
  | [] => some []
  | .int .u8 (.ofNat m) :: t => bif Nat.blt m 256 then (match bytesOf t with | some l => some (UInt8.ofNat m :: l) | none => none) else none
  | _ => none
theorem bytesOf_spec : ∀ {cs : List Value} {l : List UInt8}, bytesOf cs = some l → cs = l.map fun x => .int .u8 (x.toNat : Int)
  | [], l, h => by
    simp only [bytesOf, Option.some.injEq] at h
    subst h
    rfl
  | v :: t, l, h => by
    unfold bytesOf at h
    split at h
    · rename_i e; cases e
    · rename_i m t' e
      injection e with e1 e2
      subst e1 e2
      cases hb : Nat.blt m 256 with
      | false => rw [hb] at h; cases h
      | true =>
        rw [hb] at h
        simp only [cond_true] at h
        split at h
        case h_2 => cases h
        rename_i l' hl
        simp only [Option.some.injEq] at h
        subst h
        have hm : m < 256 := by simpa [Nat.blt_eq] using hb
        have e : (UInt8.ofNat m).toNat = m := by simp; omega
        rw [List.map_cons, ← bytesOf_spec hl, e]
        rfl
    · cases h
/-- Bytes that a string shares are not looked at any more. -/
theorem Fr.froze {r : Ren} {S : St} {w : World} (h : Rel r S w) {c : Nat} {oc : Ev.Obj} (hg : S.get c = some oc) (ho : oc.owns = true) (off n : Nat) : Fr r S w r (S.del c) (w.freeze ⟨r.μ c, off, none⟩ n) := by
  have hold : ∀ k, k ≠ r.μ c → (w.freeze ⟨r.μ c, off, none⟩ n).heap[k]? = w.heap[k]? := fun k hk => by
    unfold World.freeze
    split
    · rfl
    · simp only [Array.getElem?_modify]
      rw [if_neg (fun e => hk e.symm)]
  have hrest : (w.freeze ⟨r.μ c, off, none⟩ n).heap.size = w.heap.size ∧ (w.freeze ⟨r.μ c, off, none⟩ n).os = w.os ∧ (w.freeze ⟨r.μ c, off, none⟩ n).tape = w.tape ∧ (w.freeze ⟨r.μ c, off, none⟩ n).output = w.output := by
    unfold World.freeze
    split
    · exact ⟨rfl, rfl, rfl, rfl⟩
    · exact ⟨by simp, rfl, rfl, rfl⟩
  obtain ⟨s1, s2, s3, s4⟩ := hrest
  exact Fr.mk' h r.le_refl h.n h.even (by omega) (fun i o hi => .inl ⟨(St.get_del hi).2, fun how => hold _ fun e => (St.get_del hi).1 (h.inj _ _ _ _ (St.get_del hi).2 hg how ho e)⟩)
    (fun k _ hno => hold k fun e => hno ⟨c, oc, hg, ho, e.symm⟩) s2 s3 s4
/-- String. -/
noncomputable def bldStr (args : List Value) (S : St) : Option (Value × St) :=
  match args with
  | [.pointer (some ⟨b, 0, none⟩)] =>
    match S.get b with
    | some (.cells [_, .slice none 0 0] _ _) => bif Nat.beq (b % 2) 0 then some (.string .empty, S) else none
    | some (.cells [_, .slice (some ⟨c, o, none⟩) n k] _ _) =>
      match S.get c with
      | some (.cells xs e sz) =>
        bif Nat.beq e 5 && (Nat.beq (b % 2) 0 && (!(Nat.beq n 0) && (Nat.beq (c % 2) 1 && (Nat.beq k o && (Nat.blt k KB && (Nat.beq sz 1 && (Nat.beq ((xs.drop o).take n).length n && Nat.ble n 1000000))))))) then
          (match bytesOf ((xs.drop o).take n) with | some l => some (.string ⟨l.toArray⟩, S.del c) | none => none)
        else none
      | _ => none
    | _ => none
  | _ => none
theorem bldStr_ok {args : List Value} {S S' : St} {v : Value} (h : bldStr args S = some (v, S')) {r : Ren} {w : World} {args' : List Value} (hr : Rel r S w) (ha : VRs r args args') :
    Calls Tryz.prog 66 ⟨args'⟩ w fun e w' => ∃ r' v', e = .returned v' ∧ Fr r S w r' S' w' ∧ VR r' v v' := by
  unfold bldStr at h
  split at h
  case h_2 => cases h
  rename_i b
  obtain ⟨rfl, hbn⟩ := ptrArg ha
  split at h
  case h_3 => cases h
  · rename_i x0 eb szb hb
    cases hev : Nat.beq (b % 2) 0 with
    | false => rw [hev] at h; cases h
    | true =>
      rw [hev] at h
      simp only [cond_true, Option.some.injEq, Prod.mk.injEq] at h
      obtain ⟨rfl, rfl⟩ := h
      obtain ⟨_, _, hcsb, _, hevb⟩ := hr.objs _ _ hb
      obtain ⟨hd, _⟩ := hevb (beq0 hev)
      obtain ⟨u, u1, u2, _, _⟩ := hcsb 1 _ rfl
      have u2 : u = .slice none 0 0 := by cases u2; rfl
      subst u2
      rw [hd] at u1 ⊢
      refine (strNilW (r.μ b) w u1).mono ?_
      rintro e w' ⟨rfl, rfl⟩
      exact ⟨r, _, rfl, Fr.drew hr, .sc _ rfl⟩
  rename_i x0 c o n k eb szb hb
  split at h
  case h_2 => cases h
  rename_i xs e sz hc
  cases hk : (Nat.beq e 5 && (Nat.beq (b % 2) 0 && (!(Nat.beq n 0) && (Nat.beq (c % 2) 1 && (Nat.beq k o && (Nat.blt k KB && (Nat.beq sz 1 && (Nat.beq ((xs.drop o).take n).length n && Nat.ble n 1000000)))))))) with
  | false => rw [hk] at h; cases h
  | true =>
    rw [hk] at h
    simp only [cond_true] at h
    simp only [Bool.and_eq_true, Bool.not_eq_true'] at hk
    obtain ⟨k1, k2, k3, k4, k5, k6, k7, k8, k9⟩ := hk
    obtain rfl := beq0 k1
    have k2 := beq0 k2
    have k3 := nbeq0 k3
    have k4 := beq0 k4
    obtain rfl := beq0 k5
    have k6 : k < KB := by simpa [Nat.blt_eq] using k6
    obtain rfl := beq0 k7
    have k8 := beq0 k8
    have k9 := ble0 k9
    split at h
    case h_2 => cases h
    rename_i l hl
    simp only [Option.some.injEq, Prod.mk.injEq] at h
    obtain ⟨rfl, rfl⟩ := h
    have hsp := bytesOf_spec hl
    have hll : l.length = n := by rw [hsp, List.length_map] at k8; exact k8
    subst hll
    obtain ⟨_, _, hcsb, _, hevb⟩ := hr.objs _ _ hb
    obtain ⟨hd, _⟩ := hevb k2
    obtain ⟨_, hmk, hcc, hodd, _⟩ := hr.objs _ _ hc
    obtain ⟨u, u1, u2, _, _⟩ := hcsb 1 _ rfl
    obtain ⟨C, lo, hi, hC, _⟩ := hmk
    have hlen : k + l.length ≤ xs.length := by
      rw [List.length_take, List.length_drop] at k8
      omega
    have hkap := (hodd k4).1
    have hcell : ∀ j x, l[j]? = some x → w.cell? ⟨r.μ c, k + r.δ c + j, none⟩ = some (.int .u8 x.toNat) := fun j x hx => by
      have e1 : ((xs.drop k).take l.length)[j]? = some (.int .u8 (x.toNat : Int)) := by rw [hsp]; simp [hx]
      have hj := (List.getElem?_eq_some_iff.1 hx).1
      rw [List.getElem?_take_of_lt hj, List.getElem?_drop] at e1
      obtain ⟨z, g1, g2, _, _⟩ := hcc _ _ e1
      have g2 : z = .int .u8 (x.toNat : Int) := by cases g2; rfl
      subst g2
      rw [show k + r.δ c + j = k + j + r.δ c by omega]
      exact g1
    have hsh : w.shape? (r.μ c) = some (5, C.size) := by unfold World.shape?; rw [hC]
    have hfit : k + r.δ c + l.length ≤ C.size := by
      have hlt : l.length - 1 < l.length := by omega
      have := hcell (l.length - 1) _ (List.getElem?_eq_getElem hlt)
      unfold World.cell? at this
      rw [hC] at this
      have := (Array.getElem?_eq_some_iff.1 (show C[k + r.δ c + (l.length - 1)]? = _ from this)).1
      omega
    have hu : ∃ cap, cap ≠ 0 ∧ u = .slice (some ⟨r.μ c, k + r.δ c, none⟩) l.length cap := by
      cases u2 with
      | sc _ hsc => simp [scalar] at hsc
      | slE _ _ _ _ _ he => omega
      | slO _ _ _ _ _ _ _ _ _ hx =>
        obtain ⟨rfl, rfl⟩ : _ ∧ _ := hx.resolve_right (by omega)
        exact ⟨_, by omega, rfl⟩
      | slK => omega
    obtain ⟨cap, hcap, rfl⟩ := hu
    rw [hd] at u1 ⊢
    refine (strAtW (r.μ b) (r.μ c) (k + r.δ c) cap C.size l w u1 hsh (by intro e; rw [e] at k3; exact k3 rfl) hfit (by omega) hcap fun j x hx => ?_).mono ?_
    · have e : ((⟨r.μ c, k + r.δ c, none⟩ : Addr).add j) = ⟨r.μ c, k + r.δ c + j, none⟩ := by
        unfold Addr.add
        by_cases hj : j = 0
        · subst hj; simp
        · simp [hj]
      rw [e]
      exact hcell j x hx
    · rintro e w' ⟨rfl, rfl⟩
      exact ⟨r, _, rfl, (Fr.drew hr).trans (Fr.froze (Fr.drew hr).rel hc rfl _ _), .sc _ rfl⟩
end Go.Proofs.YtigkndbkaagboaaGreatDoor
end
section
namespace Go.Proofs.YtigkndbkaagboaaGreatDoor
open Go.RowKit Go.Sort
set_option linter.unusedVariables false
set_option maxHeartbeats 4000000
set_option maxRecDepth 100000
theorem formatUI (u : Nat) (hu : u < 18446744073709551616) (w : World) (hp : Pow w) :
    Calls Tryz.prog 199 #[.int .u64 u, .int .i64 10] w fun e w' => e = .returned (.string (tb (Lib.decDigits u))) ∧ Mod (fun _ => False) w w' := by
  by_cases hs : u < 100
  · have hz : (u : Int) < 100 := by omega
    have hc : IntKind.i64.wrap (u : Int) = u := by rw [IntKind.wrap_i64]; omega
    go_enter Tryz.func199, Tryz.ntmps199
    go_wp2_with fail
    refine (Tryz.internal_strconv_small u hs w).mono ?_
    rintro e w1 ⟨rfl, rfl⟩
    go_wp2_with fail
    go_ret
    exact ⟨rfl, Mod.refl _ _⟩
  · have hz : ¬ (u : Int) < 100 := by omega
    have hnd20 : Lib.nDigits u ≤ 20 := by have := Lib.numDigits_eq u (by omega) hu; split at this <;> omega
    have hal : Tryz.prog.arrayLen 374 = 24 := by kernel_rfl
    have hsl1 : ∀ W, (Instr.sliceAt 374 (.pointer (some ⟨w.heap.size, 0, none⟩)) none (some (.int .i64 (Lib.nDigits u : Int))) none).run Tryz.prog W = .ok (.slice (some ⟨w.heap.size, 0, none⟩) (Lib.nDigits u) 24) W := fun W => by
      rw [run_sliceAt_array_h W 374 ⟨w.heap.size, 0, none⟩ (by kernel_rfl) .i64 (Lib.nDigits u : Int) (by omega) (by rw [hal]; omega)]
      rw [show Tryz.prog.elem 374 = 5 by kernel_rfl, hal]
      go_simp
    have hH0 := Lib.holds_zero0 w 374 (Lib.nDigits u) (by omega)
    have hfmt := Tryz.internal_strconv_formatBase10 w.heap.size 0 24 u (Array.replicate (Lib.nDigits u) 0) (w.alloc (.cells Lib.zeros24 374)) hH0 (by rw [Array.size_replicate]; exact Lib.lt_pow_nDigits u) hu (by rw [Array.size_replicate]; omega)
    rw [Array.size_replicate] at hfmt
    have hdig := Any.internal_strconv_numDigits { Tryz.laysM171 with } u (by omega) hu (w.alloc (.cells Lib.zeros24 374)) (Lib.tabIs_alloc hp _)
    have HH0 := Lib.hid hH0
    have HM := Lib.hid ((Mod.refl (fun _ => False) w).alloc (.cells Lib.zeros24 374))
    have HDG := Lib.hid hdig
    have HFM := Lib.hid hfmt
    clear hH0 hal hfmt hdig
    go_enter Tryz.func199, Tryz.ntmps199
    go_wp2_with fail
    refine HDG.out.mono ?_
    rintro e w1 ⟨rfl, rfl⟩
    go_wp2_with fail
    refine HFM.out.mono ?_
    rintro e w1 ⟨rfl, k, v', dk, rfl, hF⟩
    have hcv : (convert 65 9 (.slice (some ⟨w.heap.size, 0, none⟩) (Lib.nDigits u) 24)).run Tryz.prog ((putRow (fun (b : UInt8) => Value.int .u8 (b.toNat : Int)) (w.alloc (.cells Lib.zeros24 374)) w.heap.size 0 dk).drewN k) = .ok (.string (tb (Lib.decDigits u))) ((putRow (fun (b : UInt8) => Value.int .u8 (b.toNat : Int)) (w.alloc (.cells Lib.zeros24 374)) w.heap.size 0 dk).drewN k) := by
      have h := run_convert_bytes_back (P := Tryz.prog) ((putRow (fun (b : UInt8) => Value.int .u8 (b.toNat : Int)) (w.alloc (.cells Lib.zeros24 374)) w.heap.size 0 dk).drewN k) 65 9 5 ⟨w.heap.size, 0, none⟩ 24 (Lib.decDigits u) Tryz.underlying65 Tryz.underlying5 Tryz.underlying9 (fun j hj => by
        rw [Lib.row_is_numeral hF j hj, Lib.add_plain, World.cell?_drewN]
        exact cell?_putRow (fun (b : UInt8) => Value.int .u8 (b.toNat : Int)) _ w.heap.size 0 _ dk HH0.out (by rw [hF.size, Array.size_replicate]) j (by rw [hF.size]; rw [Lib.decDigits_length] at hj; exact hj))
      rw [Lib.decDigits_length] at h
      exact h
    have hfin : ∃ os, (putRow (fun (b : UInt8) => Value.int .u8 (b.toNat : Int)) (w.alloc (.cells Lib.zeros24 374)) w.heap.size 0 dk).drewN k = grow (w.drewN k) os := Lib.fin_at w (.cells Lib.zeros24 374) dk k 0
    have HFIN := Lib.hid hfin
    clear hfin hF
    go_wp2_with fail
    go_ret
    obtain ⟨os, eo⟩ := HFIN.out
    refine ⟨rfl, ?_⟩
    rw [eo]
    exact Mod.ofBelow (Lib.below_grow _ _ (Nat.le_refl _) _ _)
theorem formatUW (u : Nat) (hu : u < 18446744073709551616) (w : World) (hp : Pow w) :
    Calls Tryz.prog 156 #[.int .u64 u, .int .i64 10] w fun e w' => e = .returned (.string (tb (Lib.decDigits u))) ∧ Mod (fun _ => False) w w' := by
  have HF := Lib.hid (formatUI u hu w hp)
  go_enter Tryz.func156, Tryz.ntmps156
  go_wp2_with fail
  refine HF.out.mono ?_
  rintro e w1 ⟨rfl, m⟩
  go_wp2_with fail
  go_ret
  exact ⟨rfl, m⟩
end Go.Proofs.YtigkndbkaagboaaGreatDoor
end
section
namespace Go.Proofs
open Go.Shelf
def Tryz.apLays_ren : Go.Shelf.Ren := ⟨fun | 11 => 493 | n => n, fun | 24 => 36 | 26 => 3 | 28 => 586 | 0 => 0 | 33 => 64 | 4 => 4 | n => n, fun | n => n⟩
theorem Tryz.apLays : Go.Proofs.SlLaysZI.n11 Tryz.prog Tryz.apLays_ren := {
  mixed := by kernel_rfl
  f11 := ⟨Tryz.f493.name, by decide, Tryz.func493.trans (congrArg some (by kernel_rfl))⟩
  t0 := Tryz.underlying0
  a0 := Tryz.isAgg0
  z0 := Tryz.sizeOf0
  v0 := Tryz.zeroValue0
  t24 := Tryz.underlying36
  a24 := Tryz.isAgg36
  z24 := Tryz.sizeOf36
  v24 := Tryz.zeroValue36
  t26 := Tryz.underlying3
  a26 := Tryz.isAgg3
  z26 := Tryz.sizeOf3
  v26 := Tryz.zeroValue3
  t28 := Tryz.underlying586
  a28 := Tryz.isAgg586
  z28 := Tryz.sizeOf586
  v28 := Tryz.zeroValue586
  i26 := by kernel_rfl }
end Go.Proofs
end
section
namespace Go.Proofs.YtigkndbkaagboaaGreatDoor
open Go.RowKit Go.Shelf Go.Maps Go.Sort
set_option linter.unusedVariables false
set_option maxHeartbeats 2000000
set_option maxRecDepth 100000
attribute [local go_sem] Oper.semAt_some
/-- A slice value that holds integers. -/
def IntsAt (W : World) (sv : Value) (zs : List Int) : Prop :=
  (sv = .slice none 0 0 ∧ zs = []) ∨ ∃ b off cap, sv = .slice (some ⟨b, off, none⟩) zs.length cap ∧ b < W.heap.size ∧ ∀ j, j < zs.length → W.cell? ⟨b, off + j, none⟩ = some (.int .i64 (zs[j]?.getD 0))
theorem take_snoc (zs : List Int) {k : Nat} (h : k < zs.length) : zs.take (k + 1) = zs.take k ++ [zs[k]?.getD 0] := by
  rw [List.take_succ_eq_append_getElem h]
  simp [h]
theorem values1 (n : Nat) (hn : 1 ≤ n) (l Bs Bo b off cap : Nat) (zs : List Int) (hreach : zs.length * 8 ≤ 140737488351232) (J : List Int → World → Prop)
    (hc : ∀ pre W, J pre W → ∀ j, j < zs.length → W.cell? ⟨b, off + j, none⟩ = some (.int .i64 (zs[j]?.getD 0)))
    (hY : ∀ pre x W, J pre W → pre.length < zs.length → YieldAt Fence.wide (n - 1) Tryz.prog l #[.int .i64 x] W fun e W' => e = .returned (.bool true) ∧ J (pre ++ [x]) W')
    (W : World) (hBs : W.cell? ⟨Bs, Bo, none⟩ = some (.slice (some ⟨b, off, none⟩) zs.length cap)) (h0 : J [] W) :
    CallsIn Fence.wide n Tryz.prog 491 #[.func (.yield l) #[] #[], .pointer (some ⟨Bs, Bo, none⟩)] W fun e W' => (∃ v, e = .returned v) ∧ J zs W' := by
  refine callsIn_of_wp Tryz.func491 rfl trivial ?_ rfl
  simp only [Tryz.ntmps491, List.size_toArray, List.length_cons, List.length_nil, Nat.reduceAdd, Nat.reduceSub, Array.replicate_succ, Array.replicate_zero, List.push_toArray, List.append_toArray, List.nil_append, List.cons_append]
  gi_wp2
  gi_loopw [7] (fun i wr => ∃ k : Nat, k ≤ zs.length ∧ i = .int .i64 k ∧ J (zs.take k) wr)
    (fun i _ => zs.length - (intOf i).toNat)
  case atStart => exact ⟨0, Nat.zero_le _, rfl, h0⟩
  case round =>
    obtain ⟨k, hk, rfl, hJs⟩ := hrel
    by_cases hlt : k < zs.length
    · have hcx' := hc _ _ hJs k hlt
      have htk := take_snoc zs hlt
      generalize zs[k]?.getD 0 = z at hcx' htk
      obtain ⟨fn, tmps, assign, body, hy, hR⟩ := hY _ z wr hJs (by rw [List.length_take]; omega)
      gi_wp2
      refine hR.mono ?_
      rintro e W3 ⟨rfl, hJ3⟩
      gi_wp2
      go_roundw
      case rel => exact ⟨k + 1, by omega, by simp, by rw [htk]; exact hJ3⟩
      case measure => simp [intOf]; omega
    · obtain rfl : k = zs.length := by omega
      gi_wp2
      go_end0
      exact ⟨⟨_, rfl⟩, by simpa using hJs⟩
theorem values1_nil (n : Nat) (l Bs Bo : Nat) (J : List Int → World → Prop) (W : World) (hBs : W.cell? ⟨Bs, Bo, none⟩ = some (.slice none 0 0)) (h0 : J [] W) :
    CallsIn Fence.wide n Tryz.prog 491 #[.func (.yield l) #[] #[], .pointer (some ⟨Bs, Bo, none⟩)] W fun e W' => (∃ v, e = .returned v) ∧ J [] W' := by
  refine callsIn_of_wp Tryz.func491 rfl trivial ?_ rfl
  simp only [Tryz.ntmps491, List.size_toArray, List.length_cons, List.length_nil, Nat.reduceAdd, Nat.reduceSub, Array.replicate_succ, Array.replicate_zero, List.push_toArray, List.append_toArray, List.nil_append, List.cons_append]
  gi_wp2
  gi_loopw [7] (fun i wr => i = .int .i64 0 ∧ J [] wr) (fun _ _ => 0)
  case atStart => exact ⟨rfl, h0⟩
  case round =>
    obtain ⟨rfl, hJs⟩ := hrel
    gi_wp2
    go_end0
    exact ⟨⟨_, rfl⟩, hJs⟩
theorem appendSeqW (n : Nat) (hn : 2 ≤ n) (sv : Value) (zs : List Int) (Bs Bo : Nat) (hN : zs.length ≤ 1000) (w : World) (hBl : Bs < w.heap.size) (hBs : w.cell? ⟨Bs, Bo, none⟩ = some sv) (hI : IntsAt w sv zs) :
    CallsIn Fence.wide n Tryz.prog 493 #[.slice none 0 0, .func (.func 491) #[] #[.pointer (some ⟨Bs, Bo, none⟩)]] w fun e w' => ∃ v, e = .returned v ∧ w'.ownsRow w.heap.size 3 1 v zs.length (zs.map (Value.int .i64)) ∧ (v = .slice none 0 0 ↔ zs = []) ∧ Below w.heap.size w w' := by
  have h1 : 1 ≤ n := by omega
  have eg : ∀ args w, (callFunc 491 args).run Tryz.prog w = .ok (.enter 491 args) w := enters_of Tryz.func491 (by kernel_rfl) rfl
  refine callsIn_of_wp_marks Tryz.func493 rfl trivial ?_ rfl
  simp only [Tryz.ntmps493, List.size_toArray, List.length_cons, List.length_nil, Nat.reduceAdd, Nat.reduceSub, Array.replicate_succ, Array.replicate_zero, List.push_toArray, List.append_toArray, List.nil_append, List.cons_append]
  gi_wp2
  refine wpIn_rangeFunc ?_
  intro fn hfn
  rw [show Fence.wide.round = none from rfl]
  obtain ⟨W0, hW0⟩ : ∃ W0, w.alloc (.cells #[.slice none 0 0] 36) = W0 := ⟨_, rfl⟩
  have hs0 : W0.heap.size = w.heap.size + 1 := by rw [← hW0]; simp
  have hv0 : W0.heap[w.heap.size]? = some (.cells #[.slice none 0 0] 36 (0, 0)) := by rw [← hW0]; exact World.alloc_heap_new w _
  have hb0 : Below w.heap.size w W0 := by rw [← hW0]; exact (Below.refl _ w).alloc (Nat.le_refl _) _
  rw [hW0]
  generalize hlb : #[Value.pointer (some ⟨Bs, Bo, none⟩)] = lb at *
  obtain ⟨W1, hW1⟩ : ∃ W1, (W0.alloc (.deferred (some []))).alloc (.loop (AnyZI.apRec Tryz.apLays_ren fn (.func (.func 491) #[] lb) w.heap.size W0.heap.size .ready none)) = W1 := ⟨_, rfl⟩
  have hold : ∀ k, k < W0.heap.size → W1.heap[k]? = W0.heap[k]? := fun k hk => by
    rw [← hW1]; exact (Below.heap_alloc _ _ k (by simp; omega)).trans (Below.heap_alloc _ _ k hk)
  have hb1 : Below w.heap.size w W1 := by rw [← hW1]; exact (hb0.alloc hb0.size _).alloc (by have := hb0.size; simp; omega) _
  have hs1 : W1.heap.size = W0.heap.size + 2 := by rw [← hW1]; simp
  have hM : AnyZI.ApAt Tryz.apLays_ren w fn (.func (.func 491) #[] lb) w.heap.size (W0.heap.size + 1) W0.heap.size [] W1 :=
    ⟨⟨_, (hold w.heap.size (by omega)).trans hv0, ⟨rfl, .inl ⟨rfl, rfl⟩⟩, by simp⟩,
     by rw [← hW1]; have := World.alloc_heap_new (W0.alloc (.deferred (some []))) (.loop (AnyZI.apRec Tryz.apLays_ren fn (.func (.func 491) #[] lb) w.heap.size W0.heap.size .ready none)); rwa [World.size_alloc] at this,
     by rw [← hW1]; exact (Below.heap_alloc _ _ _ (by simp)).trans (World.alloc_heap_new W0 _), hb1⟩
  refine ⟨W0.heap.size + 1, [{ target := .collected W0.heap.size, args := #[] }], W1, { target := .fn (.func 491) lb, args := #[.func (.yield (W0.heap.size + 1)) #[] #[]] }, W1, 491,
    #[.func (.yield (W0.heap.size + 1)) #[] #[]] ++ lb, W1, ?_, ?_, ?_, ?_, fun _ => h1, ?_⟩
  · rw [← hW1]; exact run_enterLoop_outer _ _ _ _ _
  · simp [resolve, go_sem]
  · intro f' hf'; trivial
  · simp [invoke, go_sem, eg]
  · have hrounds : ∀ pre x W, AnyZI.ApAt Tryz.apLays_ren w fn (.func (.func 491) #[] lb) w.heap.size (W0.heap.size + 1) W0.heap.size pre W → pre.length < zs.length → YieldAt Fence.wide (n - 1 - 1) Tryz.prog (W0.heap.size + 1) #[.int .i64 x] W fun e W' => e = .returned (.bool true) ∧ AnyZI.ApAt Tryz.apLays_ren w fn (.func (.func 491) #[] lb) w.heap.size (W0.heap.size + 1) W0.heap.size (pre ++ [x]) W' := fun pre x W hJ hl =>
      (AnyZI.apYield Tryz.apLays Fence.wide (n - 1 - 1) w fn hfn _ w.heap.size (W0.heap.size + 1) W0.heap.size (by omega) (by omega) (by omega) (Nat.le_refl _) (by omega) zs.length (by simp only [maxLen]; omega) (by omega) pre x W hJ hl).mono fun _ _ ⟨h1, h2, _⟩ => ⟨h1, h2⟩
    have hcell : ∀ pre W, AnyZI.ApAt Tryz.apLays_ren w fn (.func (.func 491) #[] lb) w.heap.size (W0.heap.size + 1) W0.heap.size pre W → ∀ p : Addr, p.block < w.heap.size → W.cell? p = w.cell? p := fun pre W h p hp => h.below.cell hp
    have hval : CallsIn Fence.wide (n - 1) Tryz.prog 491 (#[.func (.yield (W0.heap.size + 1)) #[] #[]] ++ lb) W1 fun e W' => (∃ v, e = .returned v) ∧ AnyZI.ApAt Tryz.apLays_ren w fn (.func (.func 491) #[] lb) w.heap.size (W0.heap.size + 1) W0.heap.size zs W' := by
      subst hlb
      rcases hI with ⟨rfl, rfl⟩ | ⟨b, off, cap, rfl, hb, hcs⟩
      · exact values1_nil (n - 1) _ Bs Bo _ W1 ((hcell _ _ hM _ hBl).trans hBs) hM
      · exact values1 (n - 1) (by omega) _ Bs Bo b off cap zs (by omega) _ (fun pre W hJ j hj => (hcell _ _ hJ _ hb).trans (hcs j hj)) hrounds W1 ((hcell _ _ hM _ hBl).trans hBs) hM
    refine hval.mono ?_
    rintro e W2 ⟨⟨v0, rfl⟩, h2⟩
    obtain ⟨v, hv, hrow, hnil⟩ := h2.box
    have hend := run_endLoop (P := Tryz.prog) h2.L (by simp [AnyZI.apRec])
    obtain ⟨W3, hW3⟩ : ∃ W3, W2.putObj (W0.heap.size + 1) (.loop { AnyZI.apRec Tryz.apLays_ren fn (.func (.func 491) #[] lb) w.heap.size W0.heap.size .ready none with state := .exhausted }) = W3 := ⟨_, rfl⟩
    rw [hW3] at hend
    have hg3 : W2.grownBy W3 (some (W0.heap.size + 1)) := by rw [← hW3]; exact grownBy_putObj_a _ _ _
    have hv3 : W3.heap[w.heap.size]? = some (.cells #[v] 36 (0, 0)) := by rw [← hW3]; exact (World.putObj_heap_other (by omega)).trans hv
    have hK3 : W3.heap[W0.heap.size]? = some (.deferred (some [])) := by rw [← hW3]; exact (World.putObj_heap_other (by omega)).trans h2.K
    have hrow3 := hrow.kept hg3 (ownsRow_ne_a hrow h2.L (fun cur e => by cases e))
    have hb3 : Below w.heap.size w W3 := h2.below.grown hg3 h2.below.size (fun k e => by cases e; omega)
    obtain ⟨hc3, hf3⟩ := cell_of_box_a hv3
    clear hW3
    refine ⟨none, W3, hend, ?_⟩
    gi_wp2
    rw [← hs0]
    refine ⟨by simp, .inl ⟨_, _, rfl, run_takeDeferred hK3, ?_⟩⟩
    exact ⟨_, results_tmp rfl _ _ _, v, rfl, hrow3.kept (grownBy_putObj_a _ _ _) (ownsRow_ne_a hrow3 hK3 (fun cur e => by cases e)), hnil, hb3.grown (grownBy_putObj_a _ _ _) hb3.size (fun k e => by cases e; omega)⟩
end Go.Proofs.YtigkndbkaagboaaGreatDoor
end
section
namespace Go.Proofs.YtigkndbkaagboaaGreatDoor
open Go.RowKit Go.Shelf Go.Maps
set_option linter.unusedVariables false
set_option maxHeartbeats 4000000
set_option maxRecDepth 100000
attribute [local go_sem] Oper.semAt_some
abbrev NoB : Nat → Prop := fun _ => False
abbrev encI1 (b : Nat × Nat) : Value := .pointer (some ⟨b.1, b.2, none⟩)
theorem In_info : (Tryz.prog.info? 304).map (fun i => (i.zero, i.size, i.bytes)) = some (some (.pointer none), 1, 8) := by kernel_rfl
/-- At most one thing in a map. -/
def One1 (es : Array MapEntry) (clock : Nat) (l : List (Nat × Nat)) : Prop := (es = #[] ∧ l = []) ∨ ∃ (k : Value) (b : Nat × Nat) (bo : Nat), es = #[{ key := k, val := encI1 b, born := bo }] ∧ bo < clock ∧ l = [b]
theorem vals1_in (F : Fence) (n : Nat) (hf : F.fn 394) (hro : F.round = none) (hn : 1 ≤ n) (l Bm Bo ib : Nat) (es : Array MapEntry) (clock : Nat) (xs : List (Nat × Nat)) (hone : One1 es clock xs) (J Jx : List (Nat × Nat) → World → Prop)
    (hY : ∀ pre x W, J pre W → pre.length < 1 → YieldAt F (n - 1) Tryz.prog l #[encI1 x] W fun e W' =>
      (e = .returned (.bool true) ∧ J (pre ++ [x]) W' ∧ KeepsWalks W W') ∨ (e = .returned (.bool false) ∧ Jx (pre ++ [x]) W'))
    (W : World) (hJ : AbidesFrom W.heap.size J) (hm : W.cell? ⟨Bm, Bo, none⟩ = some (.map (some ib))) (hb : W.heap[ib]? = some (.map es clock)) (h0 : J [] W) :
    CallsIn F n Tryz.prog 394 #[.func (.yield l) #[] #[], .pointer (some ⟨Bm, Bo, none⟩)] W fun e W' => (∃ v, e = .returned v) ∧
      ((∃ ys, ys = xs ∧ J ys W') ∨ (∃ pre, pre <+: xs ∧ Jx pre W')) := by
  have hbl : ib < W.heap.size := (Array.getElem?_eq_some_iff.1 hb).1
  have hrg := run_range_map (P := Tryz.prog) W 301 279 304 ib es clock (by kernel_rfl) hb
  obtain ⟨W1, hW1⟩ : ∃ W1, W.alloc (.mapIter (some ib) clock #[] clock) = W1 := ⟨_, rfl⟩
  have hr1 : W1.heap[W.heap.size]? = some (.mapIter (some ib) clock #[] clock) := hW1 ▸ World.alloc_heap_new W _
  have hb1 : W1.heap[ib]? = some (.map es clock) := hW1 ▸ (Below.heap_alloc _ _ _ hbl).trans hb
  have hg1 : W.grownBy W1 none := hW1 ▸ World.grownBy_alloc W _ none
  rw [hW1] at hrg
  have hJ1 : J [] W1 := hJ [] W W1 none h0 hg1 (fun r e => by cases e)
  obtain ⟨R, hR⟩ : ∃ R, W.heap.size = R := ⟨_, rfl⟩
  rw [hR] at hrg hr1 hJ
  clear hW1 hb
  rcases hone with ⟨rfl, rfl⟩ | ⟨k, b, bo, rfl, hlt, rfl⟩
  · have hnx : ∀ ty, (Instr.next (.pointer (some ⟨R, 0, none⟩)) false ty).run Tryz.prog W1 = .ok (.tuple #[.bool false]) W1 := fun ty => by
      rcases run_next_at (P := Tryz.prog) W1 ty R ib clock clock #[] #[] clock hr1 hb1 (fun x hx => by simp at hx) (Nat.le_refl _) with ⟨-, h⟩ | ⟨e, he, -⟩
      · exact h
      · simp [leftOf] at he
    refine callsIn_of_wp Tryz.func394 rfl hf ?_ hro
    simp only [Tryz.ntmps394, List.size_toArray, List.length_cons, List.length_nil, Nat.reduceAdd, Nat.reduceSub, Array.replicate_succ, Array.replicate_zero, List.push_toArray, List.append_toArray, List.nil_append, List.cons_append]
    gi_wp2
    refine wpIn_loop_rounds 1 ?_
    rw [roundsIn_succ]
    gi_wp2
    go_end0
    exact ⟨⟨_, rfl⟩, .inl ⟨[], rfl, hJ1⟩⟩
  · have hnx : ∃ W2 : World, (∀ ty, (Instr.next (.pointer (some ⟨R, 0, none⟩)) false ty).run Tryz.prog W1 = .ok (.tuple #[.bool true, k, encI1 b]) W2) ∧ W2.heap[R]? = some (.mapIter (some ib) clock #[bo] clock) ∧ W2.heap[ib]? = some (.map #[{ key := k, val := encI1 b, born := bo }] clock) ∧ W1.grownBy W2 (some R) := by
      rcases run_next_at (P := Tryz.prog) W1 0 R ib clock clock #[] #[{ key := k, val := encI1 b, born := bo }] clock hr1 hb1 (fun x hx => by simp at hx; subst hx; exact hlt) (Nat.le_refl _) with ⟨h, -⟩ | ⟨e, he, w1, hw1, h⟩
      · simp [leftOf] at h
      · have he' : e = { key := k, val := encI1 b, born := bo } := by simpa [leftOf] using he
        subst he'
        have hr1' : w1.heap[R]? = some (.mapIter (some ib) clock #[] clock) := by rcases hw1 with rfl | rfl <;> exact hr1
        have hb1' : w1.heap[ib]? = some (.map #[{ key := k, val := encI1 b, born := bo }] clock) := by rcases hw1 with rfl | rfl <;> exact hb1
        have hset := MapKept.heap_set (o' := .mapIter (some ib) clock (#[].push bo) clock) hr1'
        have hne : ib ≠ R := fun e => by rw [e, hr1] at hb1; cases hb1
        refine ⟨_, fun ty => h, hset.1, (hset.2 ib hne).trans hb1', ?_⟩
        rcases hw1 with rfl | rfl <;> exact ⟨rfl, rfl, rfl, by simp [ChangeMaps.setBlock], fun i _ hi => hset.2 i (fun e1 => hi (by rw [e1]))⟩
    obtain ⟨W2, hnx, hr2, hb2, hg2⟩ := hnx
    have hen := run_entry_at (P := Tryz.prog) W2 R ib clock #[] #[{ key := k, val := encI1 b, born := bo }] clock { key := k, val := encI1 b, born := bo } hr2 hb2 (by simp) (by simp)
    have hJ2 : J [] W2 := hJ [] W1 W2 (some R) hJ1 hg2 (fun r e => by cases e; exact ⟨Nat.le_refl _, _, hr1, rfl⟩)
    obtain ⟨fn, tmps, assign, body, hy, hRd⟩ := hY [] b W2 hJ2 (by simp)
    refine callsIn_of_wp Tryz.func394 rfl hf ?_ hro
    simp only [Tryz.ntmps394, List.size_toArray, List.length_cons, List.length_nil, Nat.reduceAdd, Nat.reduceSub, Array.replicate_succ, Array.replicate_zero, List.push_toArray, List.append_toArray, List.nil_append, List.cons_append]
    gi_wp2
    refine wpIn_loop_rounds 2 ?_
    rw [roundsIn_succ]
    gi_wp2
    refine hRd.mono ?_
    rintro e W3 (⟨rfl, hJ3, hk3⟩ | ⟨rfl, hJx3⟩)
    · have hr3 := hk3.same R _ hr2 rfl
      have hb3 := hk3.same ib _ hb2 rfl
      have hnx3 : ∀ ty, (Instr.next (.pointer (some ⟨R, 0, none⟩)) false ty).run Tryz.prog W3 = .ok (.tuple #[.bool false]) W3 := fun ty => by
        rcases run_next_at (P := Tryz.prog) W3 ty R ib clock clock #[bo] #[{ key := k, val := encI1 b, born := bo }] clock hr3 hb3 (fun x hx => by simp at hx; subst hx; exact hlt) (Nat.le_refl _) with ⟨-, h⟩ | ⟨e, he, -⟩
        · exact h
        · simp [leftOf] at he
      clear hnx hen
      gi_wp2
      rw [roundsIn_succ]
      gi_wp2
      go_end0
      exact ⟨⟨_, rfl⟩, .inl ⟨[b], rfl, hJ3⟩⟩
    · gi_wp2
      refine bodyPost_ret (results_none rfl _ _ _) rfl ?_
      exact ⟨⟨_, rfl⟩, .inr ⟨[b], ⟨[], rfl⟩, hJx3⟩⟩
theorem vals_stops (F : Fence) (n : Nat) (hf : F.fn 394) (hro : F.round = none) (hn : 1 ≤ n) (Bm Bo ib : Nat) (es : Array MapEntry) (clock : Nat) (xs : List (Nat × Nat)) (hone : One1 es clock xs) (w : World) (hBm : Bm < w.heap.size)
    (hm : w.cell? ⟨Bm, Bo, none⟩ = some (.map (some ib))) (hb : w.heap[ib]? = some (.map es clock)) :
    SeqStopsK F n Tryz.prog 394 #[.pointer (some ⟨Bm, Bo, none⟩)] (fun x : Nat × Nat => #[encI1 x]) KeepsWalks (fun ys => ys = xs) (fun pre => pre <+: xs) 1 w := fun l J Jx W hW hJ _ hY h0 =>
  vals1_in F n hf hro hn l Bm Bo ib es clock xs hone J Jx hY W hJ ((hW.cell (p := ⟨Bm, Bo, none⟩) hBm).trans hm) ((hW.block ib (Array.getElem?_eq_some_iff.1 hb).1).trans hb) h0
/-- slices.AppendSeq. -/
theorem apSeq_in (F : Fence) (n : Nat) (h1f : F.fn 393) (hf : F.fn 394) (hro : F.round = none) (hn : 3 ≤ n) (Bm Bo ib : Nat) (es : Array MapEntry) (clock : Nat) (xs : List (Nat × Nat)) (hone : One1 es clock xs) (w : World) (hBm : Bm < w.heap.size)
    (hm : w.cell? ⟨Bm, Bo, none⟩ = some (.map (some ib))) (hb : w.heap[ib]? = some (.map es clock)) :
    CallsIn F n Tryz.prog 393 #[.slice none 0 0, .func (.func 394) #[] #[.pointer (some ⟨Bm, Bo, none⟩)]] w fun e w' => ∃ v, e = .returned v ∧ w'.ownsRow w.heap.size 304 1 v xs.length (xs.map encI1) ∧ (v = .slice none 0 0 ↔ xs = []) ∧ Below w.heap.size w w' := by
  have h1 : 1 ≤ n := by omega
  obtain ⟨i0, hi, hz0, hz1, hz2⟩ := info_parts In_info
  have hb1 : (w.alloc (.cells #[.slice none 0 0] 475)).heap[ib]? = some (.map es clock) := (Below.heap_alloc _ _ _ (Array.getElem?_eq_some_iff.1 hb).1).trans hb
  have hm1 : (w.alloc (.cells #[.slice none 0 0] 475)).cell? ⟨Bm, Bo, none⟩ = some (.map (some ib)) := ((((Mod.refl NoB w).alloc _).cell (p := ⟨Bm, Bo, none⟩) hBm (fun e => e)).trans hm)
  refine callsIn_of_wp_marks Tryz.func393 rfl h1f ?_ hro
  simp only [Tryz.ntmps393, List.size_toArray, List.length_cons, List.length_nil, Nat.reduceAdd, Nat.reduceSub, Array.replicate_succ, Array.replicate_zero, List.push_toArray, List.append_toArray, List.nil_append, List.cons_append]
  gi_wp2
  have bO := Boxed.new w 475 (.slice none 0 0)
  have hB0 : Below w.heap.size w (w.alloc (.cells #[.slice none 0 0] 475)) := (Below.refl _ w).alloc (Nat.le_refl _) _
  refine wpIn_rangeFunc_ownG hro h1 (gf := 394) (lb := #[.pointer (some ⟨Bm, Bo, none⟩)]) rfl hf (enters_of Tryz.func394 (by kernel_rfl) rfl)
    (vals_stops F (n - 1) hf hro (by omega) Bm Bo ib es clock xs hone _ (by simp; omega) hm1 hb1) walksK_t walksK_b (Below.refl _ _) (fun _ => rfl)
    (fun pre W => (∃ v, Boxed W w.heap.size 475 v ∧ W.ownsRow w.heap.size 304 1 v pre.length (pre.map encI1) ∧ (v = .slice none 0 0 ↔ pre = [])) ∧ Below w.heap.size w W)
    (fun _ _ _ => False)
    (OwnFrom.and (Own.from (holdsRow_own w.heap.size w.heap.size 475 304 1 (fun pre => pre.length) (fun pre => pre.map encI1) (fun pre v => v = .slice none 0 0 ↔ pre = [])) _) (ownFrom_below (Nat.le_refl _) (by simp)))
    (fun _ _ _ _ _ hs _ _ => hs)
    ⟨⟨_, bO, World.ownsRow_nil _ _ _ _, by simp⟩, hB0⟩
    (fun x => { tmps := #[.slice none 0 0, .func (.func 394) #[] #[.pointer (some ⟨Bm, Bo, none⟩)], .pointer (some ⟨w.heap.size, 0, none⟩), undef, .slice none 0 0, encI1 x, .func (.func 394) #[] #[.pointer (some ⟨Bm, Bo, none⟩)], encI1 x, undef, undef, undef, undef, undef], defers := [] }) ?assign ?body ?done ?stop
  case assign =>
    intro l x W K hK
    gi_wp2
    exact hK
  case body =>
    rintro l pre x W ⟨⟨v, hv, hrow, hnil⟩, hB⟩ hlt
    have hc := hv.cell
    gi_wp2_with (gi_at_builtin; refine wpListIn_append_own _ rfl _ _ 475 rfl w.heap.size 304 i0 (.pointer none) 1 8 Tryz.underlying475 hi hz0 hz1 hz2 rfl (by decide) _ _ _ rfl (hrow.alloc _) ⟨W.heap.size, 0, none⟩ 1 1 [encI1 x] rfl rfl (cell_one_new _ _ _) (by simp [Value.oneCell', encI1]) (by simp only [maxLen]; omega) (by omega) (by have := hB.size; simp; omega) ?_; intro v' w1 hown' hgrow _; obtain ⟨g', cap', rfl⟩ := ownsRow_succ hown'; obtain ⟨hv1, hv2, hr2, hk2, hb2⟩ := hv.appended (by decide) hrow hB.size (Nat.le_refl _) hown' hgrow; have hc1 := hv1.cell; have hf1 := hv1.frozen)
    exact ⟨hk2.from _, hk2.walks, ⟨_, hv2, by simpa using hr2, by simp⟩, hB.trans hb2⟩
  case done =>
    rintro D ys W hD rfl ⟨⟨v, hv, hrow, hnil⟩, hB⟩ hK
    have hc := hv.cell
    gi_wp2
    refine ⟨by simp, .inl ⟨_, _, rfl, run_takeDeferred hK, ?_⟩⟩
    exact ⟨_, results_tmp rfl _ _ _, v, rfl, ownsRow_putObj hrow _ hK rfl, hnil, hB.trans (belowK_b (w := w) (Nat.le_refl _) W D _ _ (by simp at hD; omega) hK rfl rfl)⟩
  case stop =>
    rintro D c pre W _ _ h _
    exact h.elim
end Go.Proofs.YtigkndbkaagboaaGreatDoor
end
section
namespace Go.Proofs.YtigkndbkaagboaaGreatDoor
open Go.RowKit Go.Proofs.YtigkndbkaagboaaGreatDoor.Ev
open Go hiding Obj
set_option linter.unusedVariables false
set_option linter.unusedSimpArgs false
set_option linter.unusedSectionVars false
variable [Gl]
/-- A whole number's value. -/
def i64B : Value → Bool
  | .int .i64 _ => true
  | _ => false
noncomputable def apInts (args : List Value) (S : St) : Option (Value × St) :=
  match args with
  | [.slice none 0 0, .func (.func g) ⟨[]⟩ ⟨[.pointer (some ⟨b, 0, none⟩)]⟩] =>
    bif Nat.beq g 491 then
      match S.get b with
      | some (.cells [.slice none 0 0] _ _) => some (.slice none 0 0, S)
      | some (.cells [.slice (some ⟨c, o, none⟩) n _] _ _) => match S.get c with
        | some (.cells xs _ _) =>
          bif Nat.beq ((xs.drop o).take n).length n && Nat.ble n 1000 && ((xs.drop o).take n).all i64B then
            (bif Nat.beq n 0 then none else some (.slice (some ⟨S.next + 1, 0, none⟩) n 0, S.newG (.cells ((xs.drop o).take n) 3 1))) else none
        | _ => none
      | _ => none
    else none
  | _ => none
noncomputable def apIns (args : List Value) (S : St) : Option (Value × St) :=
  match args with
  | [.slice none 0 0, .func (.func g) ⟨[]⟩ ⟨[.pointer (some ⟨b, 0, none⟩)]⟩] =>
    bif Nat.beq g 394 then
      match S.get b with
      | some (.cells [.map (some m)] _ _) => match S.get m with
        | some (.map [] _) => some (.slice none 0 0, S)
        | some (.map [(_, .pointer (some ⟨p, o, none⟩), bo)] ck) => bif Nat.blt bo ck then some (.slice (some ⟨S.next + 1, 0, none⟩) 1 0, S.newG (.cells [.pointer (some ⟨p, o, none⟩)] 304 1)) else none
        | _ => none
      | _ => none
    else none
  | _ => none
theorem i64B_eq {v : Value} (h : i64B v = true) : ∃ n, v = .int .i64 n := by
  unfold i64B at h
  split at h
  · exact ⟨_, rfl⟩
  · cases h
theorem ints_of : ∀ {l : List Value}, l.all i64B = true → ∃ zs : List Int, l = zs.map (Value.int .i64)
  | [], _ => ⟨[], rfl⟩
  | v :: l, h => by
    simp only [List.all_cons, Bool.and_eq_true] at h
    obtain ⟨n, rfl⟩ := i64B_eq h.1
    obtain ⟨zs, rfl⟩ := ints_of h.2
    exact ⟨n :: zs, rfl⟩
theorem VRs.two' {r : Ren} {a b : Value} {l : List Value} (h : VRs r [a, b] l) : ∃ y z, l = [y, z] ∧ VR r a y ∧ VR r b z := VRs.two h
theorem args_of {r : Ren} {g b : Nat} {args' : List Value} (h : VRs r [.slice none 0 0, .func (.func g) ⟨[]⟩ ⟨[.pointer (some ⟨b, 0, none⟩)]⟩] args') :
    args' = [.slice none 0 0, .func (.func g) #[] #[.pointer (some ⟨r.μ b, 0 + r.δ b, none⟩)]] := by
  obtain ⟨y, z, rfl, h1, h2⟩ := VRs.two h
  cases h1 with
  | sc _ _ =>
    cases h2 with
    | sc _ hsc => simp [scalar] at hsc
    | func _ hx hy =>
      cases hx
      obtain ⟨p, rfl, hp⟩ := VRs.one' hy
      cases hp with
      | sc _ hsc => simp [scalar] at hsc
      | ptr _ _ _ => rfl
theorem apInts_ok {args : List Value} {S S' : St} {v : Value} (h : apInts args S = some (v, S')) {r : Ren} {w : World} {args' : List Value} (hr : Rel r S w) (ha : VRs r args args') :
    Calls Tryz.prog 493 ⟨args'⟩ w fun e w' => ∃ r' v', e = .returned v' ∧ Fr r S w r' S' w' ∧ VR r' v v' := by
  unfold apInts at h
  split at h
  case h_2 => cases h
  rename_i g b
  obtain rfl := args_of ha
  cases hg : Nat.beq g 491 with
  | false => rw [hg] at h; cases h
  | true =>
    rw [hg] at h
    simp only [cond_true] at h
    obtain rfl := beq0 hg
    split at h
    · rename_i t1 t2 hb
      simp only [Option.some.injEq, Prod.mk.injEq] at h
      obtain ⟨rfl, rfl⟩ := h
      obtain ⟨_, hob⟩ := hr.objs _ _ hb
      obtain ⟨hlt, hcs, _⟩ := hob; have hlt := hlt.lt
      obtain ⟨v', h1, h2, _, _⟩ := hcs 0 _ rfl
      have h2 : v' = .slice none 0 0 := by cases h2; rfl
      subst h2
      refine (callsIn_wide.1 (appendSeqW 2 (by omega) (.slice none 0 0) [] (r.μ b) (0 + r.δ b) (by simp) w hlt h1 (.inl ⟨rfl, rfl⟩))).mono ?_
      rintro e w' ⟨x, rfl, _, hx, hbel⟩
      obtain rfl := hx.2 rfl
      exact ⟨r, _, rfl, Fr.below hr hbel, .sc _ rfl⟩
    · rename_i c o n cap t1 t2 hb
      split at h
      case h_2 => cases h
      rename_i xs t3 t4 hc
      cases hk : (Nat.beq ((xs.drop o).take n).length n && Nat.ble n 1000 && ((xs.drop o).take n).all i64B) with
      | false => rw [hk] at h; cases h
      | true =>
        rw [hk] at h
        simp only [cond_true] at h
        simp only [Bool.and_eq_true] at hk
        obtain ⟨⟨k1, k2⟩, k3⟩ := hk
        have k1 := beq0 k1
        have k2 := ble0 k2
        obtain ⟨zs, hz⟩ := ints_of k3
        rw [hz] at h k1
        have hzl : zs.length = n := by simpa using k1
        obtain ⟨_, hob⟩ := hr.objs _ _ hb
        obtain ⟨hlt, hcs, _⟩ := hob; have hlt := hlt.lt
        obtain ⟨sv, h1, h2, _, _⟩ := hcs 0 _ rfl
        obtain ⟨_, hoc⟩ := hr.objs _ _ hc
        obtain ⟨hltc, hcc, _⟩ := hoc; have hltc := hltc.lt
        have hcell : ∀ j, j < zs.length → w.cell? ⟨r.μ c, o + r.δ c + j, none⟩ = some (.int .i64 (zs[j]?.getD 0)) := fun j hj => by
          have e1 : ((xs.drop o).take n)[j]? = some (.int .i64 (zs[j]?.getD 0)) := by
            rw [hz]
            simp [hj]
          have e2 : xs[o + j]? = some (.int .i64 (zs[j]?.getD 0)) := by
            rw [List.getElem?_take_of_lt (by omega), List.getElem?_drop] at e1
            exact e1
          obtain ⟨u, g1, g2, _, _⟩ := hcc _ _ e2
          have g2 : u = .int .i64 (zs[j]?.getD 0) := by cases g2; rfl
          subst g2
          rw [show o + r.δ c + j = o + j + r.δ c by omega]
          exact g1
        have hint : IntsAt w sv zs ∨ zs = [] := by
          by_cases h0 : zs = []
          · exact .inr h0
          · have hl0 : n ≠ 0 := by
              intro e
              rw [e] at hzl
              exact h0 (List.length_eq_zero_iff.1 hzl)
            refine .inl (.inr ?_)
            cases h2 with
            | sc _ hsc => simp [scalar] at hsc
            | slE => exact ⟨r.μ c, o + r.δ c, _, by rw [hzl], hltc, hcell⟩
            | slO _ _ _ _ _ _ _ _ _ ha =>
              obtain ⟨rfl, rfl⟩ : _ ∧ _ := ha.resolve_right (by omega)
              exact ⟨r.μ c, o + r.δ c, _, by rw [hzl], hltc, hcell⟩
            | slK _ _ _ _ _ _ _ _ ha =>
              obtain ⟨rfl, rfl⟩ : _ ∧ _ := ha.resolve_right (by omega)
              exact ⟨r.μ c, o + r.δ c, _, by rw [hzl], hltc, hcell⟩
        cases hn : Nat.beq n 0 with
        | true => rw [hn] at h; cases h
        | false =>
          rw [hn] at h
          simp only [cond_false, Option.some.injEq, Prod.mk.injEq] at h
          obtain ⟨rfl, rfl⟩ := h
          have hn := nbeq0 hn
          have hI := hint.resolve_right (fun e => hn (by rw [← hzl, e]; rfl))
          refine (callsIn_wide.1 (appendSeqW 2 (by omega) sv zs (r.μ b) (0 + r.δ b) (by omega) w hlt h1 hI)).mono ?_
          rintro e w' ⟨x, rfl, hrow, _, hbel⟩
          rw [hzl] at hrow
          obtain ⟨r', q1, q2⟩ := Fr.row hr hbel hrow (VRs.sc (r := r) (by rw [List.all_eq_true]; intro u hu; obtain ⟨z, _, rfl⟩ := List.mem_map.1 hu; rfl)) (fun u hu => by obtain ⟨z, _, rfl⟩ := List.mem_map.1 hu; rfl) hn
          exact ⟨r', _, rfl, q1, q2⟩
    · cases h
theorem apIns_ok {args : List Value} {S S' : St} {v : Value} (h : apIns args S = some (v, S')) {r : Ren} {w : World} {args' : List Value} (hr : Rel r S w) (ha : VRs r args args') :
    Calls Tryz.prog 393 ⟨args'⟩ w fun e w' => ∃ r' v', e = .returned v' ∧ Fr r S w r' S' w' ∧ VR r' v v' := by
  unfold apIns at h
  split at h
  case h_2 => cases h
  rename_i g b
  obtain rfl := args_of ha
  cases hg : Nat.beq g 394 with
  | false => rw [hg] at h; cases h
  | true =>
    rw [hg] at h
    simp only [cond_true] at h
    obtain rfl := beq0 hg
    split at h
    case h_2 => cases h
    rename_i m t1 t2 hb
    obtain ⟨_, hob⟩ := hr.objs _ _ hb
    obtain ⟨hlt, hcs, _⟩ := hob; have hlt := hlt.lt
    obtain ⟨v', h1, h2, _, _⟩ := hcs 0 _ rfl
    have h2 : v' = .map (some (r.μ m)) := by
      cases h2 with
      | sc _ hsc => simp [scalar] at hsc
      | map _ _ => rfl
    subst h2
    split at h
    case h_3 => cases h
    · rename_i ck hm
      simp only [Option.some.injEq, Prod.mk.injEq] at h
      obtain ⟨rfl, rfl⟩ := h
      obtain ⟨_, es', hes, hER⟩ := hr.objs _ _ hm
      cases hER
      refine (callsIn_wide.1 (apSeq_in Fence.wide 3 trivial trivial rfl (Nat.le_refl _) (r.μ b) (0 + r.δ b) (r.μ m) #[] ck [] (.inl ⟨rfl, rfl⟩) w hlt h1 hes)).mono ?_
      rintro e w' ⟨x, rfl, _, hx, hbel⟩
      obtain rfl := hx.2 rfl
      exact ⟨r, _, rfl, Fr.below hr hbel, .sc _ rfl⟩
    · rename_i k p o bo ck hm
      cases hlt' : Nat.blt bo ck with
      | false => rw [hlt'] at h; cases h
      | true =>
        rw [hlt'] at h
        simp only [cond_true, Option.some.injEq, Prod.mk.injEq] at h
        obtain ⟨rfl, rfl⟩ := h
        have hlt' : bo < ck := by simpa [Nat.blt_eq] using hlt'
        obtain ⟨_, es', hes, hER⟩ := hr.objs _ _ hm
        cases hER with
        | cons hk hv hR =>
          cases hR
          rename_i u
          have hu : u = encI1 (r.μ p, o + r.δ p) := by
            cases hv with
            | sc _ hsc => simp [scalar] at hsc
            | ptr _ _ _ => rfl
          subst hu
          refine (callsIn_wide.1 (apSeq_in Fence.wide 3 trivial trivial rfl (Nat.le_refl _) (r.μ b) (0 + r.δ b) (r.μ m) _ ck [(r.μ p, o + r.δ p)] (.inr ⟨k, (r.μ p, o + r.δ p), bo, rfl, hlt', rfl⟩) w hlt h1 hes)).mono ?_
          rintro e w' ⟨x, rfl, hrow, _, hbel⟩
          obtain ⟨r', q1, q2⟩ := Fr.row hr hbel hrow (VRs.cons hv .nil) (fun u hu => by simp at hu; subst hu; rfl) (by simp)
          exact ⟨r', _, rfl, q1, q2⟩
end Go.Proofs.YtigkndbkaagboaaGreatDoor
end
section
namespace Go.Proofs.YtigkndbkaagboaaGreatDoor
open Go.RowKit Go.Proofs.YtigkndbkaagboaaGreatDoor.Ev
open Go hiding Obj
set_option linter.unusedVariables false
set_option linter.unusedSimpArgs false
/-- The table of powers of ten: the one block that is only read. -/
instance : Gl := ⟨[(3, fun o => (match o with | some (.cells cs _ _) => some cs | _ => none) = some (Lib.pow10Tab.map fun z => Value.int .u64 z).toArray)]⟩
theorem pow_named : Tryz.prog.globalNamed "internal/strconv.uint64pow10" = some 3 := by kernel_rfl
theorem pow_of_gl {w : World} (h : GlOk w) : Pow w := by
  obtain ⟨_, h2⟩ := h _ (List.mem_singleton.2 rfl)
  unfold Pow Lib.TabIs World.var?
  rw [pow_named]
  exact h2
theorem gl_of_pow {w : World} (h : Pow w) : GlOk w := by
  intro p hp
  obtain rfl := List.mem_singleton.1 hp
  unfold Pow Lib.TabIs World.var? at h
  rw [pow_named] at h
  refine ⟨?_, h⟩
  rcases Nat.lt_or_ge 3 w.heap.size with h' | h'
  · exact h'
  · rw [Option.bind_some, Array.getElem?_eq_none h'] at h
    cases h
/-- Decimal digits, the last ones last. -/
noncomputable def decF (k : Nat) : Nat → List UInt8 → List UInt8 := @Nat.rec (fun _ => Nat → List UInt8 → List UInt8) (fun _ l => l) (fun _ ih n l => ifB (Nat.ble n 9) (UInt8.ofNat (Nat.add 48 n) :: l) (ih (Nat.div n 10) (UInt8.ofNat (Nat.add 48 (Nat.mod n 10)) :: l))) k
theorem decF_eq : ∀ (k n : Nat) (l : List UInt8), n < 10 ^ k → 0 < k → decF k n l = Lib.decDigits n ++ l
  | 0, n, l, _, h => absurd h (by omega)
  | k + 1, n, l, h, _ => by
    have e : decF (k + 1) n l = ifB (Nat.ble n 9) (UInt8.ofNat (Nat.add 48 n) :: l) (decF k (Nat.div n 10) (UInt8.ofNat (Nat.add 48 (Nat.mod n 10)) :: l)) := rfl
    rw [e, ifB_eq, Lib.decDigits]
    cases hb : Nat.ble n 9 with
    | true =>
      have : n ≤ 9 := Nat.le_of_ble_eq_true hb
      rw [dif_pos (by omega)]
      rfl
    | false =>
      have hn : ¬ n ≤ 9 := fun hh => by rw [Nat.ble_eq_true_of_le hh] at hb; cases hb
      rw [dif_neg (by omega), cond_false]
      have hk : 0 < k := by
        rcases Nat.eq_zero_or_pos k with h0 | h0
        · subst h0; simp at h; omega
        · exact h0
      rw [decF_eq k (Nat.div n 10) _ (by show n / 10 < 10 ^ k; rw [Nat.pow_succ] at h; omega) hk]
      simp only [List.append_assoc, List.singleton_append]
      rfl
noncomputable def itoaP (args : List Value) (S : St) : Option (Value × St) :=
  match args with
  | [.int .i64 (.ofNat n)] => bif Nat.ble n 999999999 then some (.string ⟨(decF 9 n []).toArray⟩, S) else none
  | _ => none
theorem itoaP_ok {args : List Value} {S S' : St} {v : Value} (h : itoaP args S = some (v, S')) {r : Ren} {w : World} {args' : List Value} (hr : Rel r S w) (ha : VRs r args args') :
    Calls Tryz.prog 145 ⟨args'⟩ w fun e w' => ∃ r' v', e = .returned v' ∧ Fr r S w r' S' w' ∧ VR r' v v' := by
  unfold itoaP at h
  split at h
  case h_2 => cases h
  rename_i n
  cases hn : Nat.ble n 999999999 with
  | false => rw [hn] at h; cases h
  | true =>
    rw [hn] at h
    simp only [cond_true, Option.some.injEq, Prod.mk.injEq] at h
    obtain ⟨rfl, rfl⟩ := h
    have hn := Nat.le_of_ble_eq_true hn
    obtain ⟨y, rfl, hy⟩ := VRs.one' ha
    obtain rfl := hy.sc_eq rfl
    have hG : GlOk w := fun p hp => ⟨(hr.gl p hp).1, (hr.gl p hp).2.2⟩
    refine (itoaW (n : Int) (by omega) (by omega) w (pow_of_gl hG)).mono ?_
    rintro e w' ⟨rfl, m⟩
    refine ⟨r, _, rfl, Fr.below hr m.below, ?_⟩
    rw [decF_eq 9 n [] (by omega) (by omega), List.append_nil]
    exact .sc _ rfl
noncomputable def fmtP (args : List Value) (S : St) : Option (Value × St) :=
  match args with
  | [.int .u64 (.ofNat n), .int .i64 (.ofNat b)] => bif Nat.ble n 999999999 && Nat.beq b 10 then some (.string ⟨(decF 9 n []).toArray⟩, S) else none
  | _ => none
theorem fmtP_ok {args : List Value} {S S' : St} {v : Value} (h : fmtP args S = some (v, S')) {r : Ren} {w : World} {args' : List Value} (hr : Rel r S w) (ha : VRs r args args') :
    Calls Tryz.prog 156 ⟨args'⟩ w fun e w' => ∃ r' v', e = .returned v' ∧ Fr r S w r' S' w' ∧ VR r' v v' := by
  unfold fmtP at h
  split at h
  case h_2 => cases h
  rename_i n b
  cases hn : (Nat.ble n 999999999 && Nat.beq b 10) with
  | false => rw [hn] at h; cases h
  | true =>
    rw [hn] at h
    simp only [cond_true, Option.some.injEq, Prod.mk.injEq] at h
    obtain ⟨rfl, rfl⟩ := h
    simp only [Bool.and_eq_true] at hn
    obtain rfl := beq0 hn.2
    have hn := Nat.le_of_ble_eq_true hn.1
    obtain ⟨y, z, rfl, hy, hz⟩ := VRs.two ha
    obtain rfl := hy.sc_eq rfl
    obtain rfl := hz.sc_eq rfl
    have hG : GlOk w := fun p hp => ⟨(hr.gl p hp).1, (hr.gl p hp).2.2⟩
    refine (formatUW n (by omega) w (pow_of_gl hG)).mono ?_
    rintro e w' ⟨rfl, m⟩
    refine ⟨r, _, rfl, Fr.below hr m.below, ?_⟩
    rw [decF_eq 9 n [] (by omega) (by omega), List.append_nil]
    exact .sc _ rfl
noncomputable def prE : Prims := fun f => bif Nat.beq f 493 then some apInts else bif Nat.beq f 393 then some apIns else
  bif Nat.beq f 107 then some bldChk else bif Nat.beq f 66 then some bldStr else bif Nat.beq f 145 then some itoaP else bif Nat.beq f 156 then some fmtP else none
theorem prE_ok : PrimOk Tryz.prog prE := by
  intro f g hf args S v S' hg r w args' hr ha
  unfold prE at hf
  cases h1 : Nat.beq f 493 with
  | true =>
    rw [h1] at hf
    simp only [cond_true, Option.some.injEq] at hf
    subst hf
    obtain rfl := beq0 h1
    exact apInts_ok hg hr ha
  | false =>
  rw [h1] at hf
  simp only [cond_false] at hf
  cases h2 : Nat.beq f 393 with
  | true =>
    rw [h2] at hf
    simp only [cond_true, Option.some.injEq] at hf
    subst hf
    obtain rfl := beq0 h2
    exact apIns_ok hg hr ha
  | false =>
  rw [h2] at hf
  simp only [cond_false] at hf
  cases h3 : Nat.beq f 107 with
  | true =>
    rw [h3] at hf
    simp only [cond_true, Option.some.injEq] at hf
    subst hf
    obtain rfl := beq0 h3
    exact bldChk_ok hg hr ha
  | false =>
  rw [h3] at hf
  simp only [cond_false] at hf
  cases h4 : Nat.beq f 66 with
  | true =>
    rw [h4] at hf
    simp only [cond_true, Option.some.injEq] at hf
    subst hf
    obtain rfl := beq0 h4
    exact bldStr_ok hg hr ha
  | false =>
  rw [h4] at hf
  simp only [cond_false] at hf
  cases h5 : Nat.beq f 145 with
  | true =>
    rw [h5] at hf
    simp only [cond_true, Option.some.injEq] at hf
    subst hf
    obtain rfl := beq0 h5
    exact itoaP_ok hg hr ha
  | false =>
  rw [h5] at hf
  simp only [cond_false] at hf
  cases h6 : Nat.beq f 156 with
  | true =>
    rw [h6] at hf
    simp only [cond_true, Option.some.injEq] at hf
    subst hf
    obtain rfl := beq0 h6
    exact fmtP_ok hg hr ha
  | false => rw [h6] at hf; cases hf
end Go.Proofs.YtigkndbkaagboaaGreatDoor
end
section
namespace Go.Proofs.YtigkndbkaagboaaGreatDoor
open Go.Proofs.YtigkndbkaagboaaGreatDoor.Ev
def tab0 : Tab := [
(4, [(10, ⟨[0, 1, 2, 3, 4, 5, 6, 7, 8, 9, 10, 11, 12, 13, 14, 15, 16, 17, 18, 19, 20], [[], [], [], [], [], [], [], [], [], [], [], [], [], [], [0], [], [], [], [0], [], []]⟩)]),
(5, [(5, ⟨[0, 1, 2, 3, 4, 5, 6, 7, 8, 9, 10, 11, 12, 13, 14, 15, 16, 17, 18, 19, 20, 21, 22, 23, 24, 25, 26, 27, 28, 29, 30, 31, 32, 33, 34], [[], [], [], [], [], [], [], [], [], [], [], [0], [], [], [], [], [], [], [], [], [], [], [], [], [], [], [], [], [], [], [], [], [], [], []]⟩)]),
(17, [(8, ⟨[0, 1, 2, 3, 4, 5, 6, 7, 8], [[], [], [], [], [], [], [], [], []]⟩), (12, ⟨[0, 1, 2, 3, 4, 5, 6, 7, 8, 9, 10, 11, 12, 13, 14, 15, 16, 17, 18], [[], [], [], [], [], [], [], [], [], [], [], [], [], [], [], [], [], [], []]⟩)]),
(18, [(14, ⟨[0, 1, 2, 3, 4, 5, 6, 7, 8, 9, 10, 11, 12], [[], [], [], [], [], [], [], [], [], [], [], [], []]⟩)]),
(60, [(11, ⟨[0, 1, 2, 3, 4, 5, 6, 7, 8], [[], [], [], [], [], [], [], [], []]⟩), (15, ⟨[0, 1, 2, 3, 4, 5, 6, 7, 8], [[], [], [], [], [], [], [], [], []]⟩)]),
(61, [(4, ⟨[0, 1, 2, 3, 4, 5, 6], [[], [], [], [], [], [], []]⟩)]),
(65, [(8, ⟨[0, 1, 2, 3, 4, 5, 6, 7, 8, 9, 10], [[], [], [], [], [], [], [], [], [], [], []]⟩)]),
(66, [(1, ⟨[0, 1, 2, 3, 4, 5, 6, 7, 8, 9, 10, 11], [[], [], [], [], [], [], [], [], [0], [0], [], []]⟩)]),
(103, [(1, ⟨[0, 1, 2, 3, 4, 5, 6, 7, 8, 9, 10, 11, 12], [[], [], [], [], [], [], [], [], [], [], [], [], []]⟩)])]
theorem tab0_ok : tab0.all (rowOk Tryz.prog) = true := by kernel_rfl
def tab1 : Tab := [
(110, [(5, ⟨[0, 1, 2, 3, 4, 5, 6, 7, 8, 9, 10, 11, 12, 13, 14], [[], [], [], [], [], [], [], [], [], [], [], [], [], [], []]⟩)]),
(113, [(3, ⟨[0, 1, 2, 3, 4, 5, 6, 7, 8, 9, 10, 11, 12, 13, 14, 15, 16], [[], [], [], [], [], [], [], [], [], [], [], [], [], [], [], [], []]⟩)]),
(121, [(12, ⟨[0, 1, 2, 3, 4, 5, 6, 7], [[], [], [], [], [], [], [], []]⟩)]),
(123, [(3, ⟨[0, 1, 2, 3, 4, 5, 6, 7, 8, 9, 10, 11, 12, 13], [[], [], [], [], [], [], [], [], [], [], [], [], [], []]⟩)]),
(151, [(1, ⟨[0, 1, 2, 3, 4, 5, 6], [[], [], [], [], [], [], []]⟩)]),
(154, [(4, ⟨[0, 1, 2, 3, 4, 5, 6, 7, 8, 9, 10, 11, 12, 13, 14, 15, 16], [[], [], [], [], [], [], [], [], [], [], [], [], [], [], [], [], []]⟩)]),
(155, [(3, ⟨[0, 1, 2, 3, 4, 5], [[], [], [0, 2], [], [], []]⟩)]),
(158, [(4, ⟨[0, 1, 2, 3, 4, 5, 6, 7, 8, 9, 10, 11, 12, 13], [[], [], [], [], [], [0], [], [], [], [], [0, 1], [], [], []]⟩)]),
(170, [(4, ⟨[0, 1, 2, 3, 4, 5, 6, 7, 8, 9, 10, 11, 12, 13, 14], [[], [], [], [1], [], [], [], [], [], [], [], [], [], [], []]⟩)])]
theorem tab1_ok : tab1.all (rowOk Tryz.prog) = true := by kernel_rfl
def tab2 : Tab := [
(172, [(7, ⟨[0, 1, 2, 3, 4, 5], [[], [], [], [], [], []]⟩)]),
(174, [(3, ⟨[0, 1, 2, 3, 4, 5, 6, 7, 8, 9, 10, 11, 12, 13, 14, 15, 16, 17, 18, 19, 20], [[], [], [1], [1], [], [], [1], [], [1], [], [], [1], [], [1], [], [], [1], [1], [], [], []]⟩)]),
(175, [(3, ⟨[0, 1, 2, 3, 4, 5, 6, 7, 8, 9, 10, 11, 12, 13, 14, 15], [[], [], [], [], [], [], [], [], [], [0, 1], [], [], [], [], [], []]⟩)]),
(176, [(7, ⟨[0, 1, 2, 3, 4, 5, 6, 7, 8, 9, 10, 11, 12, 13, 14, 15], [[], [], [], [], [], [], [], [], [], [], [], [], [], [], [], []]⟩), (10, ⟨[0, 1, 2, 3, 4, 5, 6, 7, 8, 9, 10, 11, 12, 13, 14, 15, 16, 17], [[], [], [], [1, 2], [], [], [], [], [1], [], [], [1], [], [], [], [], [], []]⟩), (11, ⟨[0, 1, 2, 3, 4, 5, 6], [[], [], [], [], [0], [], []]⟩)]),
(178, [(3, ⟨[0, 1, 2, 3, 4, 5, 6, 7, 8, 9, 10, 11], [[], [], [], [], [], [], [], [], [0], [0], [], []]⟩)]),
(192, [(1, ⟨[0, 1, 2, 3, 4, 5, 6, 7, 8, 9, 10, 11, 12, 13, 14, 15, 16, 17, 18, 19, 20, 21, 22, 23, 24, 25, 26, 27, 28, 29, 30, 31, 32, 33, 34, 35, 36, 37, 38, 39, 40], [[], [], [], [], [], [], [], [], [], [], [], [], [], [], [], [], [], [], [], [], [], [], [], [], [], [], [], [], [], [], [], [], [], [], [], [], [], [], [], [], []]⟩)]),
(204, [(8, ⟨[0, 1, 2, 3, 4, 5, 6, 7, 8, 9, 10], [[], [], [], [], [], [], [], [], [], [], []]⟩)]),
(206, [(5, ⟨[0, 1, 2, 3, 4, 5, 6, 7], [[], [], [], [], [], [], [], []]⟩)]),
(215, [(3, ⟨[0, 1, 2, 3, 4, 5, 6, 7, 8, 9, 10, 11, 12, 13, 14, 15, 16], [[], [], [], [], [], [], [], [], [], [], [], [], [], [], [], [], []]⟩), (6, ⟨[0, 1, 2, 3, 4, 5, 6, 7, 8, 9, 10, 11], [[], [], [], [], [1, 2], [], [], [], [], [], [], []]⟩), (8, ⟨[0, 1, 2, 3, 4, 5, 6, 7, 8, 9, 10, 11, 12], [[], [], [], [1, 2], [], [], [], [], [0], [], [], [], []]⟩), (13, ⟨[0, 1, 2, 3, 4, 5, 6], [[], [], [], [], [], [], []]⟩)])]
theorem tab2_ok : tab2.all (rowOk Tryz.prog) = true := by kernel_rfl
def tab3 : Tab := [
(216, [(4, ⟨[0, 1, 2, 3, 4, 5, 6, 7, 8, 9, 10, 11, 12, 13, 14, 15, 16], [[], [], [], [], [], [], [], [], [], [], [], [], [], [], [], [], []]⟩)]),
(217, [(8, ⟨[0, 1, 2, 3, 4, 5, 6, 7, 8, 9, 10, 11, 12, 13, 14, 15, 16, 17, 18, 19, 20, 21, 22, 23, 24, 25, 26, 27, 28, 29, 30, 31, 32], [[], [], [], [1], [], [], [], [], [1], [], [], [], [1], [], [], [], [], [], [], [1], [], [], [], [], [1], [], [], [], [], [], [], [], []]⟩), (15, ⟨[0, 1, 2, 3, 4, 5, 6, 7, 8, 9, 10, 11, 12, 13, 14, 15, 16, 17, 18, 19, 20, 21, 22, 23, 24, 25, 26, 27, 28, 29, 30], [[], [], [], [], [], [], [], [], [], [], [], [], [], [], [], [], [], [], [], [], [], [], [], [], [], [], [], [], [], [], []]⟩)]),
(247, [(6, ⟨[0, 1, 2, 3, 4, 5, 6, 7, 8, 9, 10], [[], [], [], [], [], [], [], [], [], [], []]⟩), (9, ⟨[0, 1, 2, 3, 4, 5, 6, 7, 8, 9, 10, 11, 12, 13, 14, 15, 16], [[], [], [], [], [], [], [], [1], [], [], [], [], [], [], [], [], []]⟩)]),
(252, [(7, ⟨[0, 1, 2, 3, 4, 5, 6, 7], [[], [], [], [], [], [], [], []]⟩), (8, ⟨[0, 1, 2, 3, 4, 5, 6, 7, 8, 9, 10, 11, 12, 13], [[], [], [], [], [], [], [], [], [], [], [], [], [], []]⟩), (10, ⟨[0, 1, 2, 3, 4, 5, 6, 7, 8, 9, 10, 11, 12, 13, 14], [[], [], [], [], [], [], [], [], [], [], [], [], [], [], []]⟩)]),
(269, [(4, ⟨[0, 1, 2, 3, 4, 5, 6, 7, 8, 9, 10, 11, 12, 13, 14, 15], [[], [], [], [], [], [], [], [], [], [], [], [], [], [], [], []]⟩), (5, ⟨[0, 1, 2, 3, 4, 5, 6, 7, 8, 9], [[], [], [], [], [], [], [], [], [], []]⟩)]),
(276, [(5, ⟨[0, 1, 2, 3, 4, 5, 6, 7], [[], [], [], [], [], [], [], []]⟩)]),
(299, [(1, ⟨[0, 1, 2, 3, 4, 5, 6, 7, 8, 9, 10, 11], [[], [], [], [1], [1], [], [], [], [], [], [], []]⟩)]),
(301, [(1, ⟨[0, 1, 2, 3, 4, 5, 6, 7, 8, 9, 10, 11, 12, 13, 14, 15, 16, 17, 18, 19, 20, 21, 22, 23, 24, 25, 26, 27, 28, 29, 30, 31, 32, 33, 34, 35], [[], [], [], [], [], [], [], [], [], [], [], [], [], [], [], [], [], [], [], [], [], [], [], [], [], [], [], [], [], [], [], [], [], [], [], []]⟩), (8, ⟨[0, 1, 2, 3, 4, 5], [[], [], [], [], [], []]⟩)]),
(306, [(7, ⟨[0, 1, 2, 3, 4, 5, 6, 7, 8, 9, 10, 11, 12, 13, 14, 15, 16, 17, 18, 19, 20], [[], [], [], [], [], [], [], [], [], [], [], [], [], [], [], [], [], [], [], [], []]⟩), (10, ⟨[0, 1, 2, 3, 4, 5, 6, 7, 8, 9], [[], [], [], [], [], [], [], [], [0], []]⟩)])]
theorem tab3_ok : tab3.all (rowOk Tryz.prog) = true := by kernel_rfl
def tab4 : Tab := [
(310, [(1, ⟨[0, 1, 2, 3, 4, 5, 6, 7, 8, 9], [[], [], [], [], [], [], [], [], [], []]⟩), (2, ⟨[0, 1, 2, 3, 4, 5, 6, 7, 8], [[], [], [], [], [], [], [], [], []]⟩), (4, ⟨[0, 1, 2, 3, 4, 5, 6, 7, 8, 9, 10, 11, 12, 13, 14, 15], [[], [], [], [], [1], [], [], [], [], [], [], [], [], [], [], []]⟩), (5, ⟨[0, 1, 2, 3, 4, 5, 6, 7, 8, 9, 10, 11, 12, 13, 14, 15, 16, 17, 18, 19, 20, 21], [[], [], [], [], [], [], [], [], [], [], [], [], [], [], [], [], [], [], [], [], [], []]⟩), (7, ⟨[0, 1, 2, 3, 4, 5, 6, 7, 8, 9], [[], [], [], [], [], [], [], [], [], []]⟩)]),
(312, [(3, ⟨[0, 1, 2, 3, 4, 5, 6], [[], [], [], [], [], [], []]⟩)]),
(316, [(6, ⟨[0, 1, 2, 3, 4, 5, 6, 7, 8, 9, 10, 11], [[], [], [], [], [], [], [], [], [], [], [], []]⟩), (10, ⟨[0, 1, 2, 3, 4, 5, 6, 7, 8], [[], [], [], [], [], [], [], [], []]⟩), (2, ⟨[0, 1, 2, 3, 4, 5, 6, 7, 8], [[], [], [], [], [], [], [], [], []]⟩), (3, ⟨[0, 1, 2, 3, 4, 5, 6], [[], [], [], [], [], [], []]⟩)]),
(318, [(3, ⟨[0, 1, 2, 3, 4, 5, 6, 7, 8, 9, 10, 11, 12, 13, 14, 15, 16, 17, 18, 19], [[], [], [], [], [], [], [], [], [], [], [], [], [], [], [], [], [], [], [], []]⟩), (8, ⟨[0, 1, 2, 3, 4, 5, 6, 7, 8, 9, 10, 11], [[], [], [], [], [], [], [], [], [], [], [], []]⟩), (11, ⟨[0, 1, 2, 3, 4, 5, 6, 7, 8, 9, 10, 11, 12, 13, 14, 15], [[], [], [], [], [], [], [], [], [], [], [], [], [], [], [], []]⟩)]),
(320, [(7, ⟨[0, 1, 2, 3, 4, 5, 6, 7, 8, 9, 10], [[], [], [], [], [], [], [], [], [], [], []]⟩), (12, ⟨[0, 1, 2, 3, 4, 5, 6, 7, 8, 9, 10, 11, 12, 13, 14], [[], [], [], [], [1, 2], [], [], [], [], [], [], [], [], [], []]⟩)]),
(325, [(0, ⟨[0, 1, 2, 3, 4, 5, 6, 7, 8], [[], [], [], [], [], [], [], [], []]⟩), (12, ⟨[0, 1, 2, 3, 4, 5, 6, 7, 8, 9, 10, 11, 12, 13], [[], [], [], [], [], [], [], [], [], [], [], [], [], []]⟩), (16, ⟨[0, 1, 2, 3, 4, 5, 6, 7, 8, 9, 10, 11, 12, 13, 14, 15, 16], [[], [], [], [], [], [], [], [], [], [0], [], [], [], [0], [], [], []]⟩)]),
(326, [(0, ⟨[0, 1, 2, 3, 4, 5, 6, 7, 8, 9, 10, 11, 12, 13, 14, 15], [[], [], [], [], [], [], [], [], [], [], [], [], [], [], [], []]⟩), (4, ⟨[0, 1, 2, 3, 4, 5, 6, 7, 8, 9, 10, 11, 12, 13, 14, 15, 16, 17, 18, 19, 20, 21, 22, 23, 24, 25, 26, 27, 28, 29, 30, 31, 32, 33, 34, 35, 36, 37, 38, 39, 40], [[], [], [], [], [], [], [], [], [], [], [], [], [], [], [], [], [], [], [], [], [], [], [], [], [], [], [], [], [], [], [], [], [], [], [], [], [], [], [], [], []]⟩), (10, ⟨[0, 1, 2, 3, 4, 5, 6, 7, 8, 9, 10], [[], [], [], [], [], [], [], [], [], [], []]⟩)]),
(337, [(4, ⟨[0, 1, 2, 3, 4, 5, 6, 7], [[], [], [], [1], [], [], [], []]⟩), (5, ⟨[0, 1, 2, 3, 4, 5, 6, 7, 8, 9, 10, 11, 12, 13, 14, 15, 16, 17, 18, 19, 20], [[], [], [], [], [], [], [], [], [], [], [], [], [], [], [], [], [], [], [], [], []]⟩), (13, ⟨[0, 1, 2, 3, 4, 5, 6, 7, 8, 9, 10, 11, 12, 13, 14, 15, 16, 17, 18], [[], [], [], [0], [], [], [], [0], [], [], [], [0], [], [], [], [0], [], [], []]⟩), (14, ⟨[0, 1, 2, 3, 4, 5, 6, 7, 8, 9], [[], [], [], [], [], [], [], [], [], []]⟩)]),
(340, [(2, ⟨[0, 1, 2, 3, 4, 5, 6, 7, 8, 9, 10], [[], [], [], [], [1], [], [], [], [], [], []]⟩)])]
theorem tab4_ok : tab4.all (rowOk Tryz.prog) = true := by kernel_rfl
def tab5 : Tab := [
(346, [(1, ⟨[0, 1, 2, 3, 4, 5, 6, 7, 8], [[], [], [], [], [], [], [], [], []]⟩)]),
(350, [(1, ⟨[0, 1, 2, 3, 4, 5, 6, 7, 8, 9, 10, 11], [[], [], [], [], [], [], [], [], [], [], [], []]⟩), (10, ⟨[0, 1, 2, 3, 4, 5, 6, 7, 8, 9, 10, 11, 12, 13, 14, 15, 16, 17, 18, 19, 20, 21, 22, 23], [[], [], [], [1], [], [1], [], [], [], [], [1, 2], [1, 2], [], [], [], [1, 2, 3], [], [], [], [], [], [], [], []]⟩), (11, ⟨[0, 1, 2, 3, 4, 5, 6, 7], [[], [], [], [], [], [], [], []]⟩), (12, ⟨[0, 1, 2, 3, 4, 5, 6, 7, 8, 9, 10, 11, 12, 13, 14], [[], [], [], [], [], [], [], [], [], [], [], [], [], [], []]⟩)]),
(352, [(5, ⟨[0, 1, 2, 3, 4, 5, 6, 7], [[], [], [], [], [], [], [], []]⟩)]),
(353, [(1, ⟨[0, 1, 2, 3, 4, 5, 6, 7, 8, 9, 10, 11, 12], [[], [], [], [], [], [], [], [], [], [], [], [], []]⟩)]),
(354, [(1, ⟨[0, 1, 2, 3, 4, 5, 6, 7, 8, 9, 10, 11, 12, 13, 14, 15, 16], [[], [], [], [], [], [], [], [], [], [], [], [], [], [], [], [], []]⟩)]),
(359, [(5, ⟨[0, 1, 2, 3, 4, 5, 6, 7], [[], [], [], [], [], [], [], []]⟩)]),
(362, [(1, ⟨[0, 1, 2, 3, 4, 5, 6, 7, 8, 9, 10, 11, 12, 13, 14, 15, 16, 17, 18, 19], [[], [], [], [], [], [], [], [], [], [], [], [], [], [], [1], [], [], [], [], []]⟩)]),
(366, [(3, ⟨[0, 1, 2, 3, 4, 5, 6, 7, 8, 9, 10], [[], [], [], [], [], [], [], [], [], [], []]⟩)]),
(374, [(5, ⟨[0, 1, 2, 3, 4, 5, 6, 7, 8, 9, 10, 11, 12, 13, 14, 15, 16, 17, 18, 19, 20, 21, 22], [[], [], [], [], [], [], [], [], [], [], [], [], [], [], [], [], [], [], [], [], [], [], []]⟩)])]
theorem tab5_ok : tab5.all (rowOk Tryz.prog) = true := by kernel_rfl
def tab6 : Tab := [
(378, [(1, ⟨[0, 1, 2, 3, 4, 5, 6, 7, 8, 9], [[], [], [], [], [], [], [], [], [], []]⟩)]),
(385, [(1, ⟨[0, 1, 2, 3, 4, 5, 6, 7, 8, 9, 10], [[], [], [], [], [], [], [], [], [], [], []]⟩), (2, ⟨[0, 1, 2, 3, 4, 5, 6, 7], [[], [], [], [], [], [], [], []]⟩), (7, ⟨[0, 1, 2, 3, 4, 5, 6, 7, 8, 9, 10, 11, 12, 13, 14, 15, 16, 17, 18, 19, 20, 21, 22, 23, 24, 25, 26, 27, 28, 29, 30, 31, 32, 33, 34], [[], [], [], [], [], [], [], [], [0], [], [], [], [], [], [], [1], [], [], [], [1], [], [], [], [], [1], [], [], [], [], [], [2], [], [], [], []]⟩), (11, ⟨[0, 1, 2, 3, 4, 5, 6, 7], [[], [], [], [], [], [], [], []]⟩), (12, ⟨[0, 1, 2, 3, 4, 5, 6, 7, 8, 9, 10, 11], [[], [], [], [], [], [], [], [], [], [], [], []]⟩)]),
(386, [(7, ⟨[0, 1, 2, 3, 4, 5, 6, 7, 8, 9], [[], [], [], [], [], [], [], [], [], []]⟩), (8, ⟨[0, 1, 2, 3, 4, 5, 6, 7, 8, 9, 10, 11, 12, 13, 14, 15, 16, 17, 18, 19, 20, 21], [[], [], [], [], [], [], [], [], [], [], [], [], [], [], [], [], [], [], [], [], [], []]⟩)]),
(388, [(2, ⟨[0, 1, 2, 3, 4, 5, 6, 7, 8, 9, 10, 11, 12, 13, 14, 15, 16, 17, 18, 19, 20], [[], [], [], [], [], [], [], [], [], [], [], [], [], [], [], [], [], [], [], [], []]⟩), (3, ⟨[0, 1, 2, 3, 4, 5, 6, 7, 8, 9, 10, 11, 12, 13, 14, 15, 16], [[], [], [], [], [], [], [], [], [], [], [], [], [], [], [], [], []]⟩)]),
(392, [(11, ⟨[0, 1, 2, 3, 4, 5, 6, 7, 8, 9, 10], [[], [], [], [1], [], [], [], [], [0], [], []]⟩)]),
(395, [(17, ⟨[0, 1, 2, 3, 4, 5, 6, 7, 8, 9, 10, 11, 12, 13, 14, 15, 16], [[], [], [], [], [], [], [], [], [], [], [], [], [], [], [], [], []]⟩)]),
(397, [(11, ⟨[0, 1, 2, 3, 4, 5, 6, 7, 8], [[], [], [], [], [], [], [], [], []]⟩), (15, ⟨[0, 1, 2, 3, 4, 5, 6, 7, 8], [[], [], [], [], [], [], [], [], []]⟩)]),
(405, [(4, ⟨[0, 1, 2, 3, 4, 5, 6, 7, 8, 9, 10, 11, 12, 13], [[], [], [], [], [], [], [], [], [], [], [], [], [], []]⟩), (6, ⟨[0, 1, 2, 3, 4, 5, 6, 7, 8, 9, 10, 11], [[], [], [], [], [], [], [], [], [], [], [], []]⟩), (8, ⟨[0, 1, 2, 3, 4, 5, 6, 7, 8, 9, 10, 11], [[], [], [], [1], [], [], [], [0], [], [], [], []]⟩)]),
(407, [(11, ⟨[0, 1, 2, 3, 4, 5, 6, 7, 8, 9, 10, 11, 12, 13, 14, 15, 16, 17, 18, 19, 20, 21], [[], [], [], [], [], [], [], [], [], [], [], [], [], [], [1], [], [], [], [1], [1], [], []]⟩), (13, ⟨[0, 1, 2, 3, 4, 5, 6, 7, 8, 9, 10, 11, 12, 13, 14], [[], [], [], [], [1], [], [], [], [], [], [], [], [], [], []]⟩)])]
theorem tab6_ok : tab6.all (rowOk Tryz.prog) = true := by kernel_rfl
def tab7 : Tab := [
(408, [(1, ⟨[0, 1, 2, 3, 4, 5, 6, 7, 8, 9, 10, 11], [[], [], [], [], [], [], [], [], [0], [], [], []]⟩)]),
(409, [(5, ⟨[0, 1, 2, 3, 4, 5, 6, 7], [[], [], [], [], [], [], [], []]⟩)]),
(411, [(4, ⟨[0, 1, 2, 3, 4, 5, 6, 7, 8, 9, 10], [[], [], [], [], [], [], [], [], [], [], []]⟩)]),
(412, [(2, ⟨[0, 1, 2, 3, 4, 5, 6, 7, 8, 9, 10, 11, 12, 13, 14, 15, 16, 17, 18, 19], [[], [], [], [], [], [], [], [], [], [], [], [], [], [], [], [], [], [], [], []]⟩)]),
(413, [(4, ⟨[0, 1, 2, 3, 4, 5, 6, 7, 8, 9, 10, 11, 12, 13, 14, 15, 16], [[], [], [], [], [], [], [], [], [], [], [], [], [], [], [], [], []]⟩), (6, ⟨[0, 1, 2, 3, 4, 5, 6, 7, 8, 9, 10, 11, 12, 13, 14, 15, 16, 17], [[], [], [], [], [], [], [], [], [], [], [], [], [], [], [], [], [], []]⟩)]),
(433, [(9, ⟨[0, 1, 2, 3, 4, 5, 6, 7, 8, 9, 10, 11, 12], [[], [], [], [], [], [], [], [], [], [], [], [], []]⟩), (13, ⟨[0, 1, 2, 3, 4, 5, 6, 7, 8, 9], [[], [], [], [], [], [], [], [], [], []]⟩), (18, ⟨[0, 1, 2, 3, 4, 5, 6, 7, 8, 9], [[], [], [], [], [], [], [], [], [], []]⟩), (22, ⟨[0, 1, 2, 3, 4, 5, 6, 7, 8, 9], [[], [], [], [], [], [], [], [], [], []]⟩), (27, ⟨[0, 1, 2, 3, 4, 5, 6, 7], [[], [], [], [], [], [], [], []]⟩), (28, ⟨[0, 1, 2, 3, 4, 5, 6, 7], [[], [], [], [], [], [], [], []]⟩), (32, ⟨[0, 1, 2, 3, 4, 5, 6, 7], [[], [], [], [], [], [], [], []]⟩), (33, ⟨[0, 1, 2, 3, 4, 5, 6, 7], [[], [], [], [], [], [], [], []]⟩), (38, ⟨[0, 1, 2, 3, 4, 5, 6, 7, 8, 9, 10, 11], [[], [], [], [], [], [], [], [], [], [], [], []]⟩)]),
(448, [(11, ⟨[0, 1, 2, 3, 4, 5, 6, 7, 8], [[], [], [], [], [], [], [], [], []]⟩), (15, ⟨[0, 1, 2, 3, 4, 5, 6, 7, 8], [[], [], [], [], [], [], [], [], []]⟩)]),
(463, [(1, ⟨[0, 1, 2, 3, 4, 5, 6, 7, 8, 9, 10, 11], [[], [], [], [], [1, 2], [], [], [], [], [], [], []]⟩), (2, ⟨[0, 1, 2, 3, 4, 5, 6, 7, 8, 9, 10, 11, 12, 13, 14, 15, 16, 17, 18, 19, 20], [[], [], [], [], [], [], [], [], [], [], [], [], [], [], [], [], [], [], [], [], []]⟩)]),
(465, [(4, ⟨[0, 1, 2, 3, 4, 5, 6, 7, 8, 9, 10, 11, 12, 13, 14, 15, 16, 17], [[], [], [], [], [], [], [], [], [], [], [], [], [], [], [], [], [], []]⟩)])]
theorem tab7_ok : tab7.all (rowOk Tryz.prog) = true := by kernel_rfl
def tab8 : Tab := [
(470, [(4, ⟨[0, 1, 2, 3, 4, 5, 6, 7, 8], [[], [], [], [], [], [], [], [], []]⟩)]),
(472, [(2, ⟨[0, 1, 2, 3, 4, 5, 6, 7, 8, 9, 10, 11, 12, 13, 14, 15, 16, 17, 18, 19, 20], [[], [], [], [], [], [], [], [], [], [], [], [], [], [], [], [], [], [], [], [], []]⟩), (3, ⟨[0, 1, 2, 3, 4, 5, 6, 7, 8, 9, 10, 11, 12, 13, 14, 15, 16, 17, 18, 19, 20, 21, 22, 23, 24], [[], [], [], [], [], [], [], [], [], [], [], [], [], [], [], [], [], [], [], [], [], [], [], [], []]⟩), (6, ⟨[0, 1, 2, 3, 4, 5, 6, 7, 8, 9], [[], [], [], [], [], [], [], [], [], []]⟩), (7, ⟨[0, 1, 2, 3, 4, 5, 6, 7, 8, 9, 10, 11, 12, 13, 14, 15, 16, 17, 18, 19, 20, 21, 22, 23, 24], [[], [], [], [], [], [], [], [], [], [], [], [], [], [], [], [], [], [], [], [], [], [], [], [], []]⟩)]),
(494, [(17, ⟨[0, 1, 2, 3, 4, 5, 6, 7, 8, 9, 10, 11, 12, 13, 14], [[], [], [], [], [], [], [], [], [], [], [], [], [], [], []]⟩)]),
(495, [(4, ⟨[0, 1, 2, 3, 4, 5, 6, 7, 8, 9, 10, 11, 12, 13, 14], [[], [], [], [], [], [], [], [], [], [], [], [], [], [], []]⟩), (6, ⟨[0, 1, 2, 3, 4, 5, 6, 7, 8, 9, 10, 11, 12, 13, 14, 15, 16, 17], [[], [], [], [], [], [], [], [], [], [], [], [], [], [], [], [], [], []]⟩)])]
theorem tab8_ok : tab8.all (rowOk Tryz.prog) = true := by kernel_rfl
def tabs : List Tab := [tab0, tab1, tab2, tab3, tab4, tab5, tab6, tab7, tab8]
def tab : Tab := tabs.flatten
theorem tab_ok : ∀ row ∈ tab, rowOk Tryz.prog row = true := by
  intro row h
  obtain ⟨t, ht, hr⟩ := List.mem_flatten.1 h
  simp only [tabs, List.mem_cons, List.not_mem_nil, or_false] at ht
  rcases ht with rfl | rfl | rfl | rfl | rfl | rfl | rfl | rfl | rfl
  · exact List.all_eq_true.1 tab0_ok row hr
  · exact List.all_eq_true.1 tab1_ok row hr
  · exact List.all_eq_true.1 tab2_ok row hr
  · exact List.all_eq_true.1 tab3_ok row hr
  · exact List.all_eq_true.1 tab4_ok row hr
  · exact List.all_eq_true.1 tab5_ok row hr
  · exact List.all_eq_true.1 tab6_ok row hr
  · exact List.all_eq_true.1 tab7_ok row hr
  · exact List.all_eq_true.1 tab8_ok row hr
end Go.Proofs.YtigkndbkaagboaaGreatDoor
end
section
namespace Go.Proofs.YtigkndbkaagboaaGreatDoor
open Go.Proofs.YtigkndbkaagboaaGreatDoor.Ev Go.RowKit
open Go hiding Obj
/-- The evaluator's call. -/
noncomputable abbrev runF : CallF := callF Tryz.prog prE (evF Tryz.prog prE tab 5000)
def isT (v : Value) : Bool := match v with | .bool true => true | _ => false
theorem isT_eq {v : Value} (h : isT v = true) : v = .bool true := by
  unfold isT at h
  split at h
  · rfl
  · cases h
noncomputable def awT (r : RS) : Bool := @Option.rec (Value × St) (fun _ => Bool) false (fun p => @Prod.rec Value St (fun _ => Bool) (fun v _ => isT v) p) r
theorem awake_of {f : FuncId} (h : awT (runF f [] S0) = true) (w : World) (hG : GlOk w) : Calls Tryz.prog f #[] w fun e w' => e = .returned (.bool true) ∧ Below w.heap.size w w' := by
  generalize hr : runF f [] S0 = q at h
  cases q with
  | none => cases h
  | some p =>
    obtain ⟨v, S⟩ := p
    obtain rfl : v = .bool true := isT_eq h
    exact closed_callF (Checked.mixed Tryz.checked) prE_ok tab_ok 5000 hr rfl w hG
end Go.Proofs.YtigkndbkaagboaaGreatDoor
end
