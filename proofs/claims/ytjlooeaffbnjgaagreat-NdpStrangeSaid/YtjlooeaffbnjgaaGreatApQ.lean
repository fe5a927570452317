/- The evaluator's contract for slices.AppendSeq over maps.Values. -/
import Derived.Test.YtjlooeaffbnjgaaGreatTrIn
import Derived.Test.YtjlooeaffbnjgaaGreatEv3
namespace Go.Proofs.YtjlooeaffbnjgaaGreat
open Go.RowKit Go.Proofs.YtjlooeaffbnjgaaGreat.Ev
open Go hiding Obj
set_option linter.unusedVariables false
set_option linter.unusedSimpArgs false
set_option linter.unusedSectionVars false
variable [Gl]
noncomputable def apIns (args : List Value) (S : St) : Option (Value × St) :=
  match args with
  | [.slice none 0 0, .func (.func g) ⟨[]⟩ ⟨[.pointer (some ⟨b, 0, none⟩)]⟩] =>
    bif Nat.beq g 148 then
      match S.get b with
      | some (.cells [.map (some m)] _ _) => match S.get m with
        | some (.map [] _) => some (.slice none 0 0, S)
        | some (.map [(_, .pointer (some ⟨p, o, none⟩), bo)] ck) => bif Nat.blt bo ck then some (.slice (some ⟨S.next + 1, 0, none⟩) 1 0, S.newG (.cells [.pointer (some ⟨p, o, none⟩)] 100 1)) else none
        | _ => none
      | _ => none
    else none
  | _ => none
theorem VRs.two' {r : Ren} {a b : Value} {l : List Value} (h : VRs r [a, b] l) : ∃ y z, l = [y, z] ∧ VR r a y ∧ VR r b z := VRs.two h
theorem args_of {r : Ren} {g b : Nat} {args' : List Value} (h : VRs r [.slice none 0 0, .func (.func g) ⟨[]⟩ ⟨[.pointer (some ⟨b, 0, none⟩)]⟩] args') :
    args' = [.slice none 0 0, .func (.func g) #[] #[.pointer (some ⟨r.μ b, 0 + r.δ b, none⟩)]] := by
  obtain ⟨y, z, rfl, h1, h2⟩ := VRs.two h
  cases h1 with
  | sc _ _ =>
    cases h2 with
    | sc _ hsc => simp [scalar] at hsc
    | func _ hx hy =>
      cases hx
      obtain ⟨p, rfl, hp⟩ := VRs.one' hy
      cases hp with
      | sc _ hsc => simp [scalar] at hsc
      | ptr _ _ _ => rfl
theorem apIns_ok {args : List Value} {S S' : St} {v : Value} (h : apIns args S = some (v, S')) {r : Ren} {w : World} {args' : List Value} (hr : Rel r S w) (ha : VRs r args args') :
    Calls Tryz.prog 147 ⟨args'⟩ w fun e w' => ∃ r' v', e = .returned v' ∧ Fr r S w r' S' w' ∧ VR r' v v' := by
  unfold apIns at h
  split at h
  case h_2 => cases h
  rename_i g b
  obtain rfl := args_of ha
  cases hg : Nat.beq g 148 with
  | false => rw [hg] at h; cases h
  | true =>
    rw [hg] at h
    simp only [cond_true] at h
    obtain rfl := beq0 hg
    split at h
    case h_2 => cases h
    rename_i m t1 t2 hb
    obtain ⟨_, hob⟩ := hr.objs _ _ hb
    obtain ⟨hlt, hcs, _⟩ := hob; have hlt := hlt.lt
    obtain ⟨v', h1, h2, _, _⟩ := hcs 0 _ rfl
    have h2 : v' = .map (some (r.μ m)) := by
      cases h2 with
      | sc _ hsc => simp [scalar] at hsc
      | map _ _ => rfl
    subst h2
    split at h
    case h_3 => cases h
    · rename_i ck hm
      simp only [Option.some.injEq, Prod.mk.injEq] at h
      obtain ⟨rfl, rfl⟩ := h
      obtain ⟨_, es', hes, hER⟩ := hr.objs _ _ hm
      cases hER
      refine (callsIn_wide.1 (apSeq_in Fence.wide 3 trivial trivial rfl (Nat.le_refl _) (r.μ b) (0 + r.δ b) (r.μ m) #[] ck [] (.inl ⟨rfl, rfl⟩) w hlt h1 hes)).mono ?_
      rintro e w' ⟨x, rfl, _, hx, hbel⟩
      obtain rfl := hx.2 rfl
      exact ⟨r, _, rfl, Fr.below hr hbel, .sc _ rfl⟩
    · rename_i k p o bo ck hm
      cases hlt' : Nat.blt bo ck with
      | false => rw [hlt'] at h; cases h
      | true =>
        rw [hlt'] at h
        simp only [cond_true, Option.some.injEq, Prod.mk.injEq] at h
        obtain ⟨rfl, rfl⟩ := h
        have hlt' : bo < ck := by simpa [Nat.blt_eq] using hlt'
        obtain ⟨_, es', hes, hER⟩ := hr.objs _ _ hm
        cases hER with
        | cons hk hv hR =>
          cases hR
          rename_i u
          have hu : u = encI1 (r.μ p, o + r.δ p) := by
            cases hv with
            | sc _ hsc => simp [scalar] at hsc
            | ptr _ _ _ => rfl
          subst hu
          refine (callsIn_wide.1 (apSeq_in Fence.wide 3 trivial trivial rfl (Nat.le_refl _) (r.μ b) (0 + r.δ b) (r.μ m) _ ck [(r.μ p, o + r.δ p)] (.inr ⟨k, (r.μ p, o + r.δ p), bo, rfl, hlt', rfl⟩) w hlt h1 hes)).mono ?_
          rintro e w' ⟨x, rfl, hrow, _, hbel⟩
          obtain ⟨r', q1, q2⟩ := Fr.row hr hbel hrow (VRs.cons hv .nil) (fun u hu => by simp at hu; subst hu; rfl) (by simp)
          exact ⟨r', _, rfl, q1, q2⟩
end Go.Proofs.YtjlooeaffbnjgaaGreat
