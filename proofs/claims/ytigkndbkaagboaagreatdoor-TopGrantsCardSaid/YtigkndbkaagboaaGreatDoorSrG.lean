/- Grants: plain functions and their laws. -/
import Derived.Test.YtigkndbkaagboaaGreatDoorSrP
namespace Go.Proofs.YtigkndbkaagboaaGreatDoor
set_option linter.unusedVariables false
set_option linter.unusedSimpArgs false
/-- Grants under way: room, how far each may go, who was granted something, first things first. -/
structure Gs where
  room : Int
  upto : List Int
  met : List Nat
/-- What one is granted more, of so much ahead. -/
def moreG (ms : List Ms) (st : Gs) (i : Nat) (ahead : Int) : Int := max 0 (min (min (ms.getD i default).total ((ms.getD i default).hav + ahead) - st.upto.getD i 0) st.room)
def stepG (ms : List Ms) (st : Gs) (i : Nat) (ahead : Int) : Gs :=
  ⟨st.room - moreG ms st i ahead, st.upto.set i (st.upto.getD i 0 + moreG ms st i ahead), if 0 < moreG ms st i ahead ∧ i ∉ st.met then st.met ++ [i] else st.met⟩
/-- What holds of grants under way. -/
structure GsOk (ms : List Ms) (st : Gs) : Prop where
  room0 : 0 ≤ st.room
  room1 : st.room ≤ 1125899906842624
  len : st.upto.length = ms.length
  up : ∀ i m u, ms[i]? = some m → st.upto[i]? = some u → m.granted ≤ u ∧ (mayP m → u ≤ m.total) ∧ (i ∈ st.met ↔ m.granted < u)
  nodup : st.met.Nodup
  mem : ∀ i ∈ st.met, ∃ m, ms[i]? = some m ∧ mayP m ∧ m.hav < m.total
theorem GsOk.at_ {ms : List Ms} {st : Gs} (h : GsOk ms st) {i : Nat} {m : Ms} (hm : ms[i]? = some m) : ∃ u, st.upto[i]? = some u ∧ m.granted ≤ u ∧ (mayP m → u ≤ m.total) ∧ (i ∈ st.met ↔ m.granted < u) := by
  have hl : i < st.upto.length := by rw [h.len]; exact (List.getElem?_eq_some_iff.1 hm).1
  exact ⟨st.upto[i], List.getElem?_eq_getElem hl, h.up i m _ hm (List.getElem?_eq_getElem hl)⟩
theorem moreG_eq {ms : List Ms} {st : Gs} {i : Nat} {ahead : Int} {m : Ms} {u : Int} (hm : ms[i]? = some m) (hu : st.upto[i]? = some u) : moreG ms st i ahead = max 0 (min (min m.total (m.hav + ahead) - u) st.room) := by
  unfold moreG
  rw [List.getD_eq_getElem?_getD, List.getD_eq_getElem?_getD, hm, hu]
  rfl
theorem stepG_ok {ms : List Ms} {st : Gs} (h : GsOk ms st) {i : Nat} {m : Ms} (hm : ms[i]? = some m) (hp : mayP m) (ho : m.hav < m.total) (ahead : Int) : GsOk ms (stepG ms st i ahead) := by
  obtain ⟨u, hu, u1, u2, u3⟩ := h.at_ hm
  have he := moreG_eq (ahead := ahead) hm hu
  have hD : st.upto.getD i 0 = u := by rw [List.getD_eq_getElem?_getD, hu]; rfl
  have hil : i < st.upto.length := (List.getElem?_eq_some_iff.1 hu).1
  obtain ⟨r0, r1⟩ := And.intro h.room0 h.room1
  have ut := u2 hp
  unfold stepG
  rw [hD]
  generalize moreG ms st i ahead = d at he
  have d0 : 0 ≤ d ∧ d ≤ st.room ∧ (0 < d → u + d ≤ m.total) := by omega
  obtain ⟨d1, d2, d3⟩ := d0
  refine ⟨by simp only; omega, by simp only; omega, by simp [h.len], fun k m' u' hm' hu' => ?_, ?_, fun k hk => ?_⟩
  · simp only at hu' ⊢
    by_cases hki : i = k
    · subst hki
      rw [hm] at hm'
      obtain rfl := Option.some.inj hm'
      rw [List.getElem?_set_self hil] at hu'
      obtain rfl := Option.some.inj hu'
      refine ⟨by omega, fun _ => by omega, ?_⟩
      by_cases hd : 0 < d
      · have hlt : m.granted < u + d := by omega
        by_cases hmem : i ∈ st.met
        · rw [if_neg (by simp [hmem])]
          exact ⟨fun _ => hlt, fun _ => hmem⟩
        · rw [if_pos ⟨hd, hmem⟩]
          exact ⟨fun _ => hlt, fun _ => by simp⟩
      · rw [if_neg (by simp [hd])]
        have : d = 0 := by omega
        rw [this, Int.add_zero]
        exact u3
    · rw [List.getElem?_set_ne hki] at hu'
      obtain ⟨a1, a2, a3⟩ := h.up k m' u' hm' hu'
      refine ⟨a1, a2, ?_⟩
      rw [← a3]
      split
      · simp [Ne.symm hki]
      · exact Iff.rfl
  · simp only
    split
    · rename_i hc
      exact List.nodup_append.2 ⟨h.nodup, by simp, fun a ha b hb => by
        simp at hb
        subst hb
        intro e
        subst e
        exact hc.2 ha⟩
    · exact h.nodup
  · simp only at hk
    split at hk
    · rcases List.mem_append.1 hk with h1 | h1
      · exact h.mem k h1
      · simp at h1
        subst h1
        exact ⟨m, hm, hp, ho⟩
    · exact h.mem k hk
/-- One after the other. -/
def stepsG (ms : List Ms) (ahead : Int) : List Nat → Gs → Gs
  | [], st => st
  | i :: l, st => stepsG ms ahead l (stepG ms st i ahead)
theorem stepsG_snoc (ms : List Ms) (ahead : Int) : ∀ (l : List Nat) (i : Nat) (st : Gs), stepsG ms ahead (l ++ [i]) st = stepG ms (stepsG ms ahead l st) i ahead
  | [], i, st => rfl
  | j :: l, i, st => stepsG_snoc ms ahead l i _
theorem stepsG_ok {ms : List Ms} (ahead : Int) : ∀ (l : List Nat) (st : Gs), GsOk ms st → (∀ i ∈ l, ∃ m, ms[i]? = some m ∧ mayP m ∧ m.hav < m.total) → GsOk ms (stepsG ms ahead l st)
  | [], st, h, _ => h
  | i :: l, st, h, hm => by
    obtain ⟨m, h1, h2, h3⟩ := hm i (List.mem_cons_self ..)
    exact stepsG_ok ahead l _ (stepG_ok h h1 h2 h3 ahead) fun j hj => hm j (List.mem_cons_of_mem _ hj)
/-- A grant. -/
structure Gr where
  peer : Int
  id : Int
  upto : Int
  prio : Int
/-- The place in a list; -1: it is not there. -/
def idxN (l : List Nat) (i : Nat) : Int := if i ∈ l then (l.idxOf i : Int) else -1
def prioG (ord : List Nat) (i : Nat) : Int := if i ∈ ord then max (6 - (ord.idxOf i : Int)) 0 else 0
def grantOf (ms : List Ms) (st : Gs) (ord : List Nat) (i : Nat) : Gr := ⟨(ms.getD i default).peer, (ms.getD i default).id, st.upto.getD i 0, prioG ord i⟩
/-- Before anything is granted. -/
def startG (ms : List Ms) (budget : Int) : Gs := ⟨max (budget - aheadZ ms) 0, ms.map fun m => m.granted, []⟩
/-- The first k in order. -/
def firstK (ms : List Ms) (k : Int) : List Nat := (orderL false ms).take k.toNat
/-- The oldest one's share. -/
def shareG (ms : List Ms) (budget share : Int) : Gs := if 0 < share ∧ 0 ≤ oldestZ ms then stepG ms (startG ms budget) (oldestZ ms).toNat share else startG ms budget
def endG (ms : List Ms) (k budget share : Int) : Gs := stepsG ms (budget / k) (firstK ms k) (shareG ms budget share)
/-- Whom to grant. -/
def grantsL (ms : List Ms) (k budget share : Int) : List Gr := (endG ms k budget share).met.map (grantOf ms (endG ms k budget share) (firstK ms k))
theorem startG_ok (ms : List Ms) {budget : Int} (h0 : 0 ≤ budget) (h1 : budget ≤ 1099511627776) : GsOk ms (startG ms budget) := by
  have ha : 0 ≤ aheadZ ms := (ahead_bd (ms := ms) (l := openL ms) fun i hi => by
    obtain ⟨m, a, b, c, _⟩ := open_mem hi
    exact ⟨m, a, b, c⟩).1
  refine ⟨by simp only [startG]; omega, by simp only [startG]; omega, by simp [startG], fun i m u hm hu => ?_, by simp [startG], fun i hi => by simp [startG] at hi⟩
  simp only [startG, List.getElem?_map, hm, Option.map_some] at hu
  obtain rfl := Option.some.inj hu
  exact ⟨Int.le_refl _, fun hp => hp.2.2.1, by simp [startG]⟩
theorem oldest_mem {ms : List Ms} (h : 0 ≤ oldestZ ms) : ∃ m, ms[(oldestZ ms).toNat]? = some m ∧ mayP m ∧ m.hav < m.total := by
  unfold oldestZ at *
  cases ho : orderL true ms with
  | nil => rw [ho] at h; simp at h
  | cons i r =>
    obtain ⟨m, a, b, c, _⟩ := order_mem (born := true) (ms := ms) (i := i) (by rw [ho]; exact List.mem_cons_self ..)
    exact ⟨m, a, b, c⟩
theorem oldest_eq {ms : List Ms} (h : 0 ≤ oldestZ ms) : oldestZ ms = ((oldestZ ms).toNat : Int) := by omega
theorem oldest_lt (ms : List Ms) : oldestZ ms < 0 ∨ 0 ≤ oldestZ ms := by omega
theorem shareG_ok (ms : List Ms) {budget share : Int} (h0 : 0 ≤ budget) (h1 : budget ≤ 1099511627776) : GsOk ms (shareG ms budget share) := by
  unfold shareG
  split
  · rename_i h
    obtain ⟨m, a, b, c⟩ := oldest_mem h.2
    exact stepG_ok (startG_ok ms h0 h1) a b c _
  · exact startG_ok ms h0 h1
theorem firstK_mem {ms : List Ms} {k : Int} : ∀ i ∈ firstK ms k, ∃ m, ms[i]? = some m ∧ mayP m ∧ m.hav < m.total := fun i hi => by
  obtain ⟨m, a, b, c, _⟩ := order_mem (List.mem_of_mem_take hi)
  exact ⟨m, a, b, c⟩
theorem endG_ok (ms : List Ms) {k budget share : Int} (h0 : 0 ≤ budget) (h1 : budget ≤ 1099511627776) : GsOk ms (endG ms k budget share) :=
  stepsG_ok _ _ _ (shareG_ok ms h0 h1) firstK_mem
theorem stepG_len (ms : List Ms) (st : Gs) (i : Nat) (ahead : Int) : (stepG ms st i ahead).met.length ≤ st.met.length + 1 := by
  unfold stepG
  simp only
  split <;> simp
theorem stepsG_len (ms : List Ms) (ahead : Int) : ∀ (l : List Nat) (st : Gs), (stepsG ms ahead l st).met.length ≤ st.met.length + l.length
  | [], st => Nat.le_refl _
  | i :: l, st => by
    have h1 := stepsG_len ms ahead l (stepG ms st i ahead)
    have h2 := stepG_len ms st i ahead
    unfold stepsG
    rw [List.length_cons]
    omega
theorem shareG_len (ms : List Ms) (budget share : Int) : (shareG ms budget share).met.length ≤ 1 := by
  unfold shareG
  split
  · have := stepG_len ms (startG ms budget) (oldestZ ms).toNat share
    exact this
  · exact Nat.zero_le _
theorem firstK_nodup (ms : List Ms) (k : Int) : (firstK ms k).Nodup := (order_nodup false ms).sublist (List.take_sublist _ _)
end Go.Proofs.YtigkndbkaagboaaGreatDoor
