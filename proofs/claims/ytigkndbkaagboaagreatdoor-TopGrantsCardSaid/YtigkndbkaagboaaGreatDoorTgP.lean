/- Whoever is granted something is the oldest one, or one of the first: plain. -/
import Derived.Test.YtigkndbkaagboaaGreatDoorSrG
namespace Go.Proofs.YtigkndbkaagboaaGreatDoor
set_option linter.unusedVariables false
theorem stepG_met {ms : List Ms} {st : Gs} {i : Nat} {a : Int} {j : Nat} (h : j ∈ (stepG ms st i a).met) : j = i ∨ j ∈ st.met := by
  unfold stepG at h
  simp only at h
  split at h
  · rcases List.mem_append.1 h with h | h
    · exact .inr h
    · exact .inl (List.mem_singleton.1 h)
  · exact .inr h
theorem stepsG_met {ms : List Ms} {a : Int} : ∀ {l : List Nat} {st : Gs} {j : Nat}, j ∈ (stepsG ms a l st).met → j ∈ l ∨ j ∈ st.met
  | [], _, _, h => .inr h
  | i :: l, st, j, h => by
    rcases stepsG_met (l := l) h with h | h
    · exact .inl (List.mem_cons_of_mem _ h)
    · rcases stepG_met h with rfl | h
      · exact .inl (List.mem_cons_self ..)
      · exact .inr h
theorem shareG_met {ms : List Ms} {budget share : Int} {j : Nat} (h : j ∈ (shareG ms budget share).met) : 0 ≤ oldestZ ms ∧ j = (oldestZ ms).toNat := by
  unfold shareG at h
  split at h
  · rename_i hc
    rcases stepG_met h with rfl | h
    · exact ⟨hc.2, rfl⟩
    · simp [startG] at h
  · simp [startG] at h
theorem oldest_at {ms : List Ms} (h : 0 ≤ oldestZ ms) : ∃ (i : Nat) (m : Ms), oldestZ ms = (i : Int) ∧ ms[i]? = some m := by
  unfold oldestZ at h ⊢
  split at h
  · omega
  · rename_i i l e
    obtain ⟨m, hm, _⟩ := order_mem (born := true) (ms := ms) (i := i) (by rw [e]; exact List.mem_cons_self ..)
    exact ⟨i, m, rfl, hm⟩
/-- The grant goes to the message of that place. -/
def fitsG (ms : List Ms) (g : Gr) (i : Nat) : Prop := ∃ m, ms[i]? = some m ∧ m.peer = g.peer ∧ m.id = g.id
theorem granted_who {ms : List Ms} {k budget share : Int} {g : Gr} (h : g ∈ grantsL ms k budget share) :
    (∃ i : Nat, oldestZ ms = (i : Int) ∧ fitsG ms g i) ∨ ∃ j i : Nat, j < (orderL false ms).length ∧ (j : Int) < k ∧ (orderL false ms)[j]? = some i ∧ fitsG ms g i := by
  unfold grantsL at h
  obtain ⟨i, hi, rfl⟩ := List.mem_map.1 h
  have fits : ∀ {m : Ms}, ms[i]? = some m → fitsG ms (grantOf ms (endG ms k budget share) (firstK ms k) i) i := fun {m} hm =>
    ⟨m, hm, by simp [grantOf, List.getD_eq_getElem?_getD, hm], by simp [grantOf, List.getD_eq_getElem?_getD, hm]⟩
  rcases stepsG_met hi with h1 | h1
  · right
    unfold firstK at h1
    obtain ⟨j, hj⟩ := List.getElem?_of_mem h1
    have hlt := (List.getElem?_eq_some_iff.1 hj).1
    rw [List.length_take] at hlt
    rw [List.getElem?_take_of_lt (by omega)] at hj
    obtain ⟨m, hm, _⟩ := order_mem (List.mem_of_getElem? hj)
    exact ⟨j, i, by omega, by omega, hj, fits hm⟩
  · left
    obtain ⟨h2, h3⟩ := shareG_met h1
    obtain ⟨i', m, h4, h5⟩ := oldest_at h2
    have : i = i' := by omega
    subst this
    exact ⟨i, h4, fits h5⟩
end Go.Proofs.YtigkndbkaagboaaGreatDoor
