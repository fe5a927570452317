/- The evaluator's contracts for slices.AppendSeq over slices.Values and maps.Values. -/
import Derived.Test.YtcandpiafgicbaaGreatDoorTrSeq
import Derived.Test.YtcandpiafgicbaaGreatDoorTrIn
import Derived.Test.YtcandpiafgicbaaGreatDoorEv3
namespace Go.Proofs.YtcandpiafgicbaaGreatDoor
open Go.RowKit Go.Proofs.YtcandpiafgicbaaGreatDoor.Ev
open Go hiding Obj
set_option linter.unusedVariables false
set_option linter.unusedSimpArgs false
set_option linter.unusedSectionVars false
variable [Gl]
/-- A whole number's value. -/
def i64B : Value → Bool
  | .int .i64 _ => true
  | _ => false
noncomputable def apInts (args : List Value) (S : St) : Option (Value × St) :=
  match args with
  | [.slice none 0 0, .func (.func g) ⟨[]⟩ ⟨[.pointer (some ⟨b, 0, none⟩)]⟩] =>
    bif Nat.beq g 426 then
      match S.get b with
      | some (.cells [.slice none 0 0] _ _) => some (.slice none 0 0, S)
      | some (.cells [.slice (some ⟨c, o, none⟩) n _] _ _) => match S.get c with
        | some (.cells xs _ _) =>
          bif Nat.beq ((xs.drop o).take n).length n && Nat.ble n 1000 && ((xs.drop o).take n).all i64B then
            (bif Nat.beq n 0 then none else some (.slice (some ⟨S.next + 1, 0, none⟩) n 0, S.newG (.cells ((xs.drop o).take n) 3 1))) else none
        | _ => none
      | _ => none
    else none
  | _ => none
noncomputable def apIns (args : List Value) (S : St) : Option (Value × St) :=
  match args with
  | [.slice none 0 0, .func (.func g) ⟨[]⟩ ⟨[.pointer (some ⟨b, 0, none⟩)]⟩] =>
    bif Nat.beq g 321 then
      match S.get b with
      | some (.cells [.map (some m)] _ _) => match S.get m with
        | some (.map [] _) => some (.slice none 0 0, S)
        | some (.map [(_, .pointer (some ⟨p, o, none⟩), bo)] ck) => bif Nat.blt bo ck then some (.slice (some ⟨S.next + 1, 0, none⟩) 1 0, S.newG (.cells [.pointer (some ⟨p, o, none⟩)] 254 1)) else none
        | _ => none
      | _ => none
    else none
  | _ => none
theorem i64B_eq {v : Value} (h : i64B v = true) : ∃ n, v = .int .i64 n := by
  unfold i64B at h
  split at h
  · exact ⟨_, rfl⟩
  · cases h
theorem ints_of : ∀ {l : List Value}, l.all i64B = true → ∃ zs : List Int, l = zs.map (Value.int .i64)
  | [], _ => ⟨[], rfl⟩
  | v :: l, h => by
    simp only [List.all_cons, Bool.and_eq_true] at h
    obtain ⟨n, rfl⟩ := i64B_eq h.1
    obtain ⟨zs, rfl⟩ := ints_of h.2
    exact ⟨n :: zs, rfl⟩
theorem VRs.two' {r : Ren} {a b : Value} {l : List Value} (h : VRs r [a, b] l) : ∃ y z, l = [y, z] ∧ VR r a y ∧ VR r b z := VRs.two h
theorem args_of {r : Ren} {g b : Nat} {args' : List Value} (h : VRs r [.slice none 0 0, .func (.func g) ⟨[]⟩ ⟨[.pointer (some ⟨b, 0, none⟩)]⟩] args') :
    args' = [.slice none 0 0, .func (.func g) #[] #[.pointer (some ⟨r.μ b, 0 + r.δ b, none⟩)]] := by
  obtain ⟨y, z, rfl, h1, h2⟩ := VRs.two h
  cases h1 with
  | sc _ _ =>
    cases h2 with
    | sc _ hsc => simp [scalar] at hsc
    | func _ hx hy =>
      cases hx
      obtain ⟨p, rfl, hp⟩ := VRs.one' hy
      cases hp with
      | sc _ hsc => simp [scalar] at hsc
      | ptr _ _ _ => rfl
theorem apInts_ok {args : List Value} {S S' : St} {v : Value} (h : apInts args S = some (v, S')) {r : Ren} {w : World} {args' : List Value} (hr : Rel r S w) (ha : VRs r args args') :
    Calls Tryz.prog 435 ⟨args'⟩ w fun e w' => ∃ r' v', e = .returned v' ∧ Fr r S w r' S' w' ∧ VR r' v v' := by
  unfold apInts at h
  split at h
  case h_2 => cases h
  rename_i g b
  obtain rfl := args_of ha
  cases hg : Nat.beq g 426 with
  | false => rw [hg] at h; cases h
  | true =>
    rw [hg] at h
    simp only [cond_true] at h
    obtain rfl := beq0 hg
    split at h
    · rename_i t1 t2 hb
      simp only [Option.some.injEq, Prod.mk.injEq] at h
      obtain ⟨rfl, rfl⟩ := h
      obtain ⟨_, hob⟩ := hr.objs _ _ hb
      obtain ⟨hlt, hcs, _⟩ := hob; have hlt := hlt.lt
      obtain ⟨v', h1, h2, _, _⟩ := hcs 0 _ rfl
      have h2 : v' = .slice none 0 0 := by cases h2; rfl
      subst h2
      refine (callsIn_wide.1 (appendSeqW 2 (by omega) (.slice none 0 0) [] (r.μ b) (0 + r.δ b) (by simp) w hlt h1 (.inl ⟨rfl, rfl⟩))).mono ?_
      rintro e w' ⟨x, rfl, _, hx, hbel⟩
      obtain rfl := hx.2 rfl
      exact ⟨r, _, rfl, Fr.below hr hbel, .sc _ rfl⟩
    · rename_i c o n cap t1 t2 hb
      split at h
      case h_2 => cases h
      rename_i xs t3 t4 hc
      cases hk : (Nat.beq ((xs.drop o).take n).length n && Nat.ble n 1000 && ((xs.drop o).take n).all i64B) with
      | false => rw [hk] at h; cases h
      | true =>
        rw [hk] at h
        simp only [cond_true] at h
        simp only [Bool.and_eq_true] at hk
        obtain ⟨⟨k1, k2⟩, k3⟩ := hk
        have k1 := beq0 k1
        have k2 := ble0 k2
        obtain ⟨zs, hz⟩ := ints_of k3
        rw [hz] at h k1
        have hzl : zs.length = n := by simpa using k1
        obtain ⟨_, hob⟩ := hr.objs _ _ hb
        obtain ⟨hlt, hcs, _⟩ := hob; have hlt := hlt.lt
        obtain ⟨sv, h1, h2, _, _⟩ := hcs 0 _ rfl
        obtain ⟨_, hoc⟩ := hr.objs _ _ hc
        obtain ⟨hltc, hcc, _⟩ := hoc; have hltc := hltc.lt
        have hcell : ∀ j, j < zs.length → w.cell? ⟨r.μ c, o + r.δ c + j, none⟩ = some (.int .i64 (zs[j]?.getD 0)) := fun j hj => by
          have e1 : ((xs.drop o).take n)[j]? = some (.int .i64 (zs[j]?.getD 0)) := by
            rw [hz]
            simp [hj]
          have e2 : xs[o + j]? = some (.int .i64 (zs[j]?.getD 0)) := by
            rw [List.getElem?_take_of_lt (by omega), List.getElem?_drop] at e1
            exact e1
          obtain ⟨u, g1, g2, _, _⟩ := hcc _ _ e2
          have g2 : u = .int .i64 (zs[j]?.getD 0) := by cases g2; rfl
          subst g2
          rw [show o + r.δ c + j = o + j + r.δ c by omega]
          exact g1
        have hint : IntsAt w sv zs ∨ zs = [] := by
          by_cases h0 : zs = []
          · exact .inr h0
          · have hl0 : n ≠ 0 := by
              intro e
              rw [e] at hzl
              exact h0 (List.length_eq_zero_iff.1 hzl)
            refine .inl (.inr ?_)
            cases h2 with
            | sc _ hsc => simp [scalar] at hsc
            | slE => exact ⟨r.μ c, o + r.δ c, _, by rw [hzl], hltc, hcell⟩
            | slO _ _ _ _ _ _ _ _ _ ha =>
              obtain ⟨rfl, rfl⟩ : _ ∧ _ := ha.resolve_right (by omega)
              exact ⟨r.μ c, o + r.δ c, _, by rw [hzl], hltc, hcell⟩
            | slK _ _ _ _ _ _ _ _ ha =>
              obtain ⟨rfl, rfl⟩ : _ ∧ _ := ha.resolve_right (by omega)
              exact ⟨r.μ c, o + r.δ c, _, by rw [hzl], hltc, hcell⟩
        cases hn : Nat.beq n 0 with
        | true => rw [hn] at h; cases h
        | false =>
          rw [hn] at h
          simp only [cond_false, Option.some.injEq, Prod.mk.injEq] at h
          obtain ⟨rfl, rfl⟩ := h
          have hn := nbeq0 hn
          have hI := hint.resolve_right (fun e => hn (by rw [← hzl, e]; rfl))
          refine (callsIn_wide.1 (appendSeqW 2 (by omega) sv zs (r.μ b) (0 + r.δ b) (by omega) w hlt h1 hI)).mono ?_
          rintro e w' ⟨x, rfl, hrow, _, hbel⟩
          rw [hzl] at hrow
          obtain ⟨r', q1, q2⟩ := Fr.row hr hbel hrow (VRs.sc (r := r) (by rw [List.all_eq_true]; intro u hu; obtain ⟨z, _, rfl⟩ := List.mem_map.1 hu; rfl)) (fun u hu => by obtain ⟨z, _, rfl⟩ := List.mem_map.1 hu; rfl) hn
          exact ⟨r', _, rfl, q1, q2⟩
    · cases h
theorem apIns_ok {args : List Value} {S S' : St} {v : Value} (h : apIns args S = some (v, S')) {r : Ren} {w : World} {args' : List Value} (hr : Rel r S w) (ha : VRs r args args') :
    Calls Tryz.prog 320 ⟨args'⟩ w fun e w' => ∃ r' v', e = .returned v' ∧ Fr r S w r' S' w' ∧ VR r' v v' := by
  unfold apIns at h
  split at h
  case h_2 => cases h
  rename_i g b
  obtain rfl := args_of ha
  cases hg : Nat.beq g 321 with
  | false => rw [hg] at h; cases h
  | true =>
    rw [hg] at h
    simp only [cond_true] at h
    obtain rfl := beq0 hg
    split at h
    case h_2 => cases h
    rename_i m t1 t2 hb
    obtain ⟨_, hob⟩ := hr.objs _ _ hb
    obtain ⟨hlt, hcs, _⟩ := hob; have hlt := hlt.lt
    obtain ⟨v', h1, h2, _, _⟩ := hcs 0 _ rfl
    have h2 : v' = .map (some (r.μ m)) := by
      cases h2 with
      | sc _ hsc => simp [scalar] at hsc
      | map _ _ => rfl
    subst h2
    split at h
    case h_3 => cases h
    · rename_i ck hm
      simp only [Option.some.injEq, Prod.mk.injEq] at h
      obtain ⟨rfl, rfl⟩ := h
      obtain ⟨_, es', hes, hER⟩ := hr.objs _ _ hm
      cases hER
      refine (callsIn_wide.1 (apSeq_in Fence.wide 3 trivial trivial rfl (Nat.le_refl _) (r.μ b) (0 + r.δ b) (r.μ m) #[] ck [] (.inl ⟨rfl, rfl⟩) w hlt h1 hes)).mono ?_
      rintro e w' ⟨x, rfl, _, hx, hbel⟩
      obtain rfl := hx.2 rfl
      exact ⟨r, _, rfl, Fr.below hr hbel, .sc _ rfl⟩
    · rename_i k p o bo ck hm
      cases hlt' : Nat.blt bo ck with
      | false => rw [hlt'] at h; cases h
      | true =>
        rw [hlt'] at h
        simp only [cond_true, Option.some.injEq, Prod.mk.injEq] at h
        obtain ⟨rfl, rfl⟩ := h
        have hlt' : bo < ck := by simpa [Nat.blt_eq] using hlt'
        obtain ⟨_, es', hes, hER⟩ := hr.objs _ _ hm
        cases hER with
        | cons hk hv hR =>
          cases hR
          rename_i u
          have hu : u = encI1 (r.μ p, o + r.δ p) := by
            cases hv with
            | sc _ hsc => simp [scalar] at hsc
            | ptr _ _ _ => rfl
          subst hu
          refine (callsIn_wide.1 (apSeq_in Fence.wide 3 trivial trivial rfl (Nat.le_refl _) (r.μ b) (0 + r.δ b) (r.μ m) _ ck [(r.μ p, o + r.δ p)] (.inr ⟨k, (r.μ p, o + r.δ p), bo, rfl, hlt', rfl⟩) w hlt h1 hes)).mono ?_
          rintro e w' ⟨x, rfl, hrow, _, hbel⟩
          obtain ⟨r', q1, q2⟩ := Fr.row hr hbel hrow (VRs.cons hv .nil) (fun u hu => by simp at hu; subst hu; rfl) (by simp)
          exact ⟨r', _, rfl, q1, q2⟩
end Go.Proofs.YtcandpiafgicbaaGreatDoor
