/- Whom to grant: plain functions and their laws. -/
import Derived.Test.YtigkndbkaagboaaGreatDoorNumP
namespace Go.Proofs.YtigkndbkaagboaaGreatDoor
set_option linter.unusedVariables false
set_option linter.unusedSimpArgs false
/-- A message. -/
structure Ms where
  peer : Int
  id : Int
  total : Int
  hav : Int
  granted : Int
  born : Int
instance : Inhabited Ms := ⟨⟨0, 0, 0, 0, 0, 0⟩⟩
/-- A message that may be. -/
def mayP (m : Ms) : Prop := 0 ≤ m.hav ∧ m.hav ≤ m.granted ∧ m.granted ≤ m.total ∧ m.total ≤ 1073741824 ∧ 0 ≤ m.peer ∧ m.peer ≤ 7 ∧ 1 ≤ m.id ∧ m.id ≤ 1152921504606846976 ∧ 0 ≤ m.born ∧ m.born ≤ 1125899906842624
instance (m : Ms) : Decidable (mayP m) := by unfold mayP; infer_instance
def mayB (m : Ms) : Bool := decide (mayP m)
theorem mayB_true {m : Ms} (h : mayB m = true) : mayP m := by simpa [mayB] using h
theorem mayB_of {m : Ms} (h : mayP m) : mayB m = true := by simpa [mayB] using h
theorem mayB_not {m : Ms} (h : ¬ mayP m) : mayB m = false := by simpa [mayB] using h
/-- The place holds a message that may be and is not complete. -/
def isOpen (ms : List Ms) (i : Nat) : Bool := match ms[i]? with
  | some m => mayB m && decide (m.hav < m.total)
  | none => false
def openTo (ms : List Ms) (k : Nat) : List Nat := (List.range k).filter (isOpen ms)
/-- The places of those that are not complete. -/
def openL (ms : List Ms) : List Nat := openTo ms ms.length
theorem openTo_succ {ms : List Ms} {k : Nat} {m : Ms} (h : ms[k]? = some m) : openTo ms (k + 1) = if mayB m && decide (m.hav < m.total) then openTo ms k ++ [k] else openTo ms k := by
  unfold openTo
  rw [List.range_succ, List.filter_append]
  have : isOpen ms k = (mayB m && decide (m.hav < m.total)) := by simp [isOpen, h]
  rw [List.filter_cons, this]
  split <;> simp
theorem openTo_len (ms : List Ms) (k : Nat) : (openTo ms k).length ≤ k := by
  have := List.length_filter_le (isOpen ms) (List.range k)
  unfold openTo
  rwa [List.length_range] at this
theorem open_mem {ms : List Ms} {k i : Nat} (h : i ∈ openTo ms k) : ∃ m, ms[i]? = some m ∧ mayP m ∧ m.hav < m.total ∧ i < k := by
  unfold openTo at h
  obtain ⟨h1, h2⟩ := List.mem_filter.1 h
  unfold isOpen at h2
  split at h2
  · rename_i m hm
    simp only [Bool.and_eq_true, decide_eq_true_eq] at h2
    exact ⟨m, hm, mayB_true h2.1, h2.2, List.mem_range.1 h1⟩
  · cases h2
theorem open_lt {ms : List Ms} {i : Nat} (h : i ∈ openL ms) : i < ms.length := (open_mem h).choose_spec.2.2.2
theorem open_sorted (ms : List Ms) (k : Nat) : (openTo ms k).Pairwise (· < ·) := List.pairwise_lt_range.filter _
/-- Four numbers, one after the other. -/
def lt4 (a b : Int × Int × Int × Int) : Prop := a.1 < b.1 ∨ (a.1 = b.1 ∧ (a.2.1 < b.2.1 ∨ (a.2.1 = b.2.1 ∧ (a.2.2.1 < b.2.2.1 ∨ (a.2.2.1 = b.2.2.1 ∧ a.2.2.2 < b.2.2.2)))))
instance (a b : Int × Int × Int × Int) : Decidable (lt4 a b) := by unfold lt4; infer_instance
theorem lt4_trans {a b c : Int × Int × Int × Int} (h : lt4 a b) (k : lt4 b c) : lt4 a c := by unfold lt4 at *; omega
theorem lt4_irrefl (a : Int × Int × Int × Int) : ¬ lt4 a a := by unfold lt4; omega
theorem lt4_not {a b c : Int × Int × Int × Int} (h : ¬ lt4 a b) (k : ¬ lt4 b c) : ¬ lt4 a c := by unfold lt4 at *; omega
theorem lt4_asymm {a b : Int × Int × Int × Int} (h : lt4 a b) : ¬ lt4 b a := by unfold lt4 at *; omega
/-- What messages are ordered by: what remains, or when it was born; then by peer, number and place. -/
def keyM (born : Bool) (m : Ms) (i : Nat) : Int × Int × Int × Int := (if born then m.born else m.total - m.hav, m.peer, m.id, (i : Int))
def keyO (born : Bool) (ms : List Ms) (i : Nat) : Int × Int × Int × Int := keyM born (ms.getD i default) i
theorem keyO_eq {born : Bool} {ms : List Ms} {i : Nat} {m : Ms} (h : ms[i]? = some m) : keyO born ms i = keyM born m i := by
  unfold keyO; rw [List.getD_eq_getElem?_getD, h]; rfl
theorem keyO_inj {born : Bool} {ms : List Ms} {i k : Nat} (h1 : ¬ lt4 (keyO born ms i) (keyO born ms k)) (h2 : ¬ lt4 (keyO born ms k) (keyO born ms i)) : i = k := by
  unfold lt4 keyO keyM at *
  simp only at *
  omega
/-- The places in order. -/
def orderL (born : Bool) (ms : List Ms) : List Nat := (openL ms).mergeSort fun i k => decide (¬ lt4 (keyO born ms k) (keyO born ms i))
theorem order_perm (born : Bool) (ms : List Ms) : (orderL born ms).Perm (openL ms) := List.mergeSort_perm _ _
theorem order_sorted (born : Bool) (ms : List Ms) : (orderL born ms).Pairwise fun i k => ¬ lt4 (keyO born ms k) (keyO born ms i) := by
  have h := List.pairwise_mergeSort (le := fun i k => decide (¬ lt4 (keyO born ms k) (keyO born ms i)))
    (by intro a b c h1 h2; simp only [decide_eq_true_eq] at *; exact lt4_not h2 h1)
    (by
      intro a b
      simp only [Bool.or_eq_true, decide_eq_true_eq]
      by_cases h : lt4 (keyO born ms b) (keyO born ms a)
      · exact .inr (lt4_asymm h)
      · exact .inl h) (openL ms)
  exact h.imp (by intro a b h; simpa using h)
theorem order_unique {born : Bool} {ms : List Ms} {l : List Nat} (hs : l.Pairwise fun i k => ¬ lt4 (keyO born ms k) (keyO born ms i)) (hp : l.Perm (openL ms)) : l = orderL born ms :=
  List.Perm.eq_of_pairwise (le := fun i k => ¬ lt4 (keyO born ms k) (keyO born ms i)) (by intro a b _ _ h1 h2; exact keyO_inj h2 h1) hs (order_sorted born ms) (hp.trans (order_perm born ms).symm)
theorem order_len (born : Bool) (ms : List Ms) : (orderL born ms).length = (openL ms).length := (order_perm born ms).length_eq
theorem order_nodup (born : Bool) (ms : List Ms) : (orderL born ms).Nodup := by
  have h : (openL ms).Nodup := (open_sorted ms ms.length).imp (by intro a b h e; omega)
  exact (order_perm born ms).nodup_iff.2 h
theorem order_mem {born : Bool} {ms : List Ms} {i : Nat} (h : i ∈ orderL born ms) : ∃ m, ms[i]? = some m ∧ mayP m ∧ m.hav < m.total ∧ i < ms.length := open_mem ((order_perm born ms).mem_iff.1 h)
/-- The place of the oldest one. -/
def oldestZ (ms : List Ms) : Int := match orderL true ms with
  | [] => -1
  | i :: _ => (i : Int)
/-- Less than, equal, greater. -/
def cmpZ (a b : Int) : Int := if a < b then -1 else if b < a then 1 else 0
/-- The first that is not 0. -/
def orZ : List Int → Int
  | [] => 0
  | x :: l => if x = 0 then orZ l else x
theorem orZ_cons (x : Int) (l : List Int) : orZ (x :: l) = if x = 0 then orZ l else x := rfl
theorem orZ_zero {x : Int} {l : List Int} (h : x = 0) : orZ (x :: l) = orZ l := by rw [orZ_cons, if_pos h]
theorem orZ_not {x : Int} {l : List Int} (h : x ≠ 0) : orZ (x :: l) = x := by rw [orZ_cons, if_neg h]
def cmpK (a b : Int × Int × Int × Int) : Int := orZ [cmpZ a.1 b.1, cmpZ a.2.1 b.2.1, cmpZ a.2.2.1 b.2.2.1, cmpZ a.2.2.2 b.2.2.2]
theorem cmpK_neg (a b : Int × Int × Int × Int) : cmpK a b < 0 ↔ lt4 a b := by
  unfold cmpK lt4
  rw [orZ_cons, orZ_cons, orZ_cons, orZ_cons, show orZ [] = 0 from rfl]
  unfold cmpZ
  by_cases h1 : a.1 < b.1
  · simp [h1]
  · by_cases h1' : b.1 < a.1
    · simp [h1, h1']; omega
    · have e1 : a.1 = b.1 := by omega
      by_cases h2 : a.2.1 < b.2.1
      · simp [e1, h2]
      · by_cases h2' : b.2.1 < a.2.1
        · simp [e1, h2, h2']; omega
        · have e2 : a.2.1 = b.2.1 := by omega
          by_cases h3 : a.2.2.1 < b.2.2.1
          · simp [e1, e2, h3]
          · by_cases h3' : b.2.2.1 < a.2.2.1
            · simp [e1, e2, h3, h3']; omega
            · have e3 : a.2.2.1 = b.2.2.1 := by omega
              by_cases h4 : a.2.2.2 < b.2.2.2
              · simp [e1, e2, e3, h4]
              · by_cases h4' : b.2.2.2 < a.2.2.2
                · simp [e1, e2, e3, h4, h4']
                · simp [e1, e2, e3, h4, h4']
/-- How much is granted, and did not come. -/
def aheadTo (ms : List Ms) (l : List Nat) : Int := (l.map fun i => (ms.getD i default).granted - (ms.getD i default).hav).sum
def aheadZ (ms : List Ms) : Int := aheadTo ms (openL ms)
theorem ahead_snoc {ms : List Ms} {l : List Nat} {i : Nat} {m : Ms} (h : ms[i]? = some m) : aheadTo ms (l ++ [i]) = aheadTo ms l + (m.granted - m.hav) := by
  unfold aheadTo
  rw [List.map_append, List.sum_append]
  simp [List.getD_eq_getElem?_getD, h]
theorem ahead_perm {ms : List Ms} {l l' : List Nat} (h : l.Perm l') : aheadTo ms l = aheadTo ms l' := by
  unfold aheadTo
  induction h with
  | nil => rfl
  | cons x _ ih => simp only [List.map_cons, List.sum_cons, ih]
  | swap x y l => simp only [List.map_cons, List.sum_cons]; omega
  | trans _ _ h1 h2 => exact h1.trans h2
theorem ahead_bd {ms : List Ms} : ∀ {l : List Nat}, (∀ i ∈ l, ∃ m, ms[i]? = some m ∧ mayP m ∧ m.hav < m.total) → 0 ≤ aheadTo ms l ∧ aheadTo ms l ≤ l.length * 1073741824
  | [], _ => by simp [aheadTo]
  | i :: l, h => by
    obtain ⟨m, hm, ⟨p1, p2, p3, p4, _⟩, _⟩ := h i (List.mem_cons_self ..)
    have ih := ahead_bd (ms := ms) (l := l) fun j hj => h j (List.mem_cons_of_mem _ hj)
    have e : aheadTo ms (i :: l) = (m.granted - m.hav) + aheadTo ms l := by
      unfold aheadTo
      simp [List.getD_eq_getElem?_getD, hm]
    rw [e, List.length_cons]
    omega
end Go.Proofs.YtigkndbkaagboaaGreatDoor
