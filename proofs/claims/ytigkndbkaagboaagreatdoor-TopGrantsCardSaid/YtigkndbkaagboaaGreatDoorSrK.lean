/- What the reference's grants do at each step (plain). -/
import Derived.Test.YtigkndbkaagboaaGreatDoorSrG
namespace Go.Proofs.YtigkndbkaagboaaGreatDoor
open Go.RowKit
set_option linter.unusedVariables false
set_option linter.unusedSimpArgs false
theorem refU_eq {ms : List Ms} {st : Gs} (h : GsOk ms st) {i : Nat} {ahead : Int} {m : Ms} {u : Int} (hm : ms[i]? = some m) (hu : st.upto[i]? = some u) :
    max (min (min m.total (m.hav + ahead)) (u + st.room)) u = u + moreG ms st i ahead := by
  rw [moreG_eq hm hu]
  have := h.room0
  omega
theorem more_nn (ms : List Ms) (st : Gs) (i : Nat) (ahead : Int) : 0 ≤ moreG ms st i ahead := by
  unfold moreG
  omega
/-- Nothing is granted. -/
theorem step_zero {ms : List Ms} {st : Gs} {i : Nat} {ahead u : Int} (hu : st.upto[i]? = some u) (h0 : moreG ms st i ahead = 0) : stepG ms st i ahead = st := by
  obtain ⟨hl, hg⟩ := List.getElem?_eq_some_iff.1 hu
  have hD : st.upto.getD i 0 = u := by rw [List.getD_eq_getElem?_getD, hu]; rfl
  unfold stepG
  rw [h0, hD]
  have hs : st.upto.set i (u + 0) = st.upto := by
    rw [Int.add_zero, ← hg]
    exact List.set_getElem_self hl
  rw [hs]
  simp
/-- More is granted: to one of which nothing was granted yet, or to another. -/
theorem step_new {ms : List Ms} {st : Gs} (h : GsOk ms st) {i : Nat} {ahead u : Int} {m : Ms} (hm : ms[i]? = some m) (hu : st.upto[i]? = some u) (h0 : moreG ms st i ahead ≠ 0) (hg : u = m.granted) :
    stepG ms st i ahead = ⟨st.room - moreG ms st i ahead, st.upto.set i (u + moreG ms st i ahead), st.met ++ [i]⟩ := by
  have hD : st.upto.getD i 0 = u := by rw [List.getD_eq_getElem?_getD, hu]; rfl
  have hn := more_nn ms st i ahead
  have hin : i ∉ st.met := fun e => by
    have := (h.up i m u hm hu).2.2.1 e
    omega
  unfold stepG
  rw [hD, if_pos ⟨by omega, hin⟩]
theorem step_old {ms : List Ms} {st : Gs} (h : GsOk ms st) {i : Nat} {ahead u : Int} {m : Ms} (hm : ms[i]? = some m) (hu : st.upto[i]? = some u) (hg : u ≠ m.granted) :
    stepG ms st i ahead = ⟨st.room - moreG ms st i ahead, st.upto.set i (u + moreG ms st i ahead), st.met⟩ := by
  have hD : st.upto.getD i 0 = u := by rw [List.getD_eq_getElem?_getD, hu]; rfl
  have hin : i ∈ st.met := by
    have h1 := h.up i m u hm hu
    exact h1.2.2.2 (by omega)
  unfold stepG
  rw [hD, if_neg (fun e => e.2 hin)]
theorem prio_step {l : List Nat} {m n : Nat} (hn : m ∉ l) : ((List.range n).map (prioG l)).set m (max (6 - (l.length : Int)) 0) = (List.range n).map (prioG (l ++ [m])) := by
  apply List.ext_getElem?
  intro j
  rw [List.getElem?_set]
  by_cases hj : m = j
  · subst hj
    rw [if_pos rfl]
    simp only [List.length_map, List.length_range]
    by_cases hl : m < n
    · rw [if_pos hl, List.getElem?_map, List.getElem?_range hl]
      simp only [Option.map_some]
      unfold prioG
      rw [if_pos (by simp), List.idxOf_append, if_neg hn]
      simp
    · rw [if_neg hl, List.getElem?_eq_none (by simpa using hl)]
  · rw [if_neg hj]
    by_cases hl : j < n
    · rw [List.getElem?_map, List.getElem?_map, List.getElem?_range hl]
      simp only [Option.map_some]
      unfold prioG
      by_cases hi : j ∈ l
      · rw [if_pos hi, if_pos (by simp [hi]), List.idxOf_append, if_pos hi]
      · rw [if_neg hi, if_neg (by simp [hi]; omega)]
    · rw [List.getElem?_eq_none (by simpa using hl), List.getElem?_eq_none (by simpa using hl)]
theorem prio_start (n : Nat) : List.replicate n (0 : Int) = (List.range n).map (prioG []) := by
  apply List.ext_getElem?
  intro j
  by_cases hl : j < n
  · rw [List.getElem?_replicate, if_pos hl, List.getElem?_map, List.getElem?_range hl]
    simp [prioG]
  · rw [List.getElem?_eq_none (by simpa using hl), List.getElem?_eq_none (by simpa using hl)]
theorem prio_at {l : List Nat} {i n : Nat} (h : i < n) : ((List.range n).map (prioG l))[i]? = some (prioG l i) := by
  rw [List.getElem?_map, List.getElem?_range h]
  rfl
/-- The walk's lists that are set, place by place. -/
theorem set_part (ms : List Ms) {j : Nat} {m : Ms} (hm : ms[j]? = some m) : (((ms.take j).map fun m => m.granted) ++ List.replicate (ms.length - j) (0 : Int)).set j m.granted = ((ms.take (j + 1)).map fun m => m.granted) ++ List.replicate (ms.length - (j + 1)) (0 : Int) := by
  obtain ⟨hl, hg⟩ := List.getElem?_eq_some_iff.1 hm
  have hle : ((ms.take j).map fun m => m.granted).length = j := by rw [List.length_map, List.length_take]; omega
  have hr : List.replicate (ms.length - j) (0 : Int) = 0 :: List.replicate (ms.length - (j + 1)) 0 := by
    rw [show ms.length - j = (ms.length - (j + 1)) + 1 by omega, List.replicate_succ]
  rw [hr, List.set_append_right _ _ (by omega), hle, Nat.sub_self, List.set_cons_zero, List.take_succ_eq_append_getElem hl, List.map_append, hg, List.append_assoc]
  rfl
end Go.Proofs.YtigkndbkaagboaaGreatDoor
