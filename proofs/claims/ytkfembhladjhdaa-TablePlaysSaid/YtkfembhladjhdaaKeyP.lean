/- Keys, in order (plain). -/
import Derived.Test.YtkfembhladjhdaaTabP
namespace Go.Proofs.Ytkfembhladjhdaa
set_option linter.unusedVariables false
/-- By peer, then number. -/
def ltK (a b : Int × Int) : Prop := a.1 < b.1 ∨ (a.1 = b.1 ∧ a.2 < b.2)
instance (a b : Int × Int) : Decidable (ltK a b) := by unfold ltK; infer_instance
theorem ltK_irrefl (a : Int × Int) : ¬ ltK a a := by unfold ltK; omega
theorem ltK_trans {a b c : Int × Int} (h : ltK a b) (k : ltK b c) : ltK a c := by unfold ltK at *; omega
theorem ltK_not {a b c : Int × Int} (h : ¬ ltK a b) (k : ¬ ltK b c) : ¬ ltK a c := by unfold ltK at *; omega
theorem ltK_asymm {a b : Int × Int} (h : ltK a b) : ¬ ltK b a := by unfold ltK at *; omega
theorem ltK_tot {a b : Int × Int} (h : ¬ ltK a b) (k : ¬ ltK b a) : a = b := by
  obtain ⟨p, i⟩ := a
  obtain ⟨q, j⟩ := b
  unfold ltK at *
  simp only at *
  rw [show p = q by omega, show i = j by omega]
/-- Less than, equal, greater. -/
def cmpZ (a b : Int) : Int := if a < b then -1 else if b < a then 1 else 0
/-- The first that is not 0. -/
def orZ : List Int → Int
  | [] => 0
  | x :: l => if x = 0 then orZ l else x
theorem orZ_cons (x : Int) (l : List Int) : orZ (x :: l) = if x = 0 then orZ l else x := rfl
def cmpKy (a b : Int × Int) : Int := orZ [cmpZ a.1 b.1, cmpZ a.2 b.2]
theorem cmpKy_neg (a b : Int × Int) : cmpKy a b < 0 ↔ ltK a b := by
  unfold cmpKy ltK
  rw [orZ_cons, orZ_cons, show orZ [] = 0 from rfl]
  unfold cmpZ
  by_cases h1 : a.1 < b.1
  · simp [h1]
  · by_cases h1' : b.1 < a.1
    · simp [h1, h1']; omega
    · have e1 : a.1 = b.1 := by omega
      by_cases h2 : a.2 < b.2
      · simp [e1, h2]
      · by_cases h2' : b.2 < a.2
        · simp [e1, h2, h2']
        · simp [e1, h2, h2']
/-- Two lists in order that hold the same are the same. -/
theorem sorted_same {l r : List (Int × Int)} (h1 : l.Pairwise ltK) (h2 : r.Pairwise ltK) (h : ∀ k, k ∈ l ↔ k ∈ r) : l = r := by
  have n1 : l.Nodup := h1.imp (by intro a b h e; subst e; exact ltK_irrefl _ h)
  have n2 : r.Nodup := h2.imp (by intro a b h e; subst e; exact ltK_irrefl _ h)
  exact List.Perm.eq_of_pairwise (le := ltK) (by intro a b _ _ h1 h2; exact absurd h2 (ltK_asymm h1)) h1 h2 ((List.perm_ext_iff_of_nodup n1 n2).2 h)
/-- The keys of a row of slots. -/
def keysOf {V : Type} (s : List (Option ((Int × Int) × V))) : List (Int × Int) := s.filterMap fun o => o.map Prod.fst
theorem keys_snoc {V : Type} (s : List (Option ((Int × Int) × V))) (o : Option ((Int × Int) × V)) : keysOf (s ++ [o]) = keysOf s ++ (match o with | none => [] | some (k, _) => [k]) := by
  unfold keysOf
  rw [List.filterMap_append]
  cases o <;> rfl
theorem keys_mem {V : Type} {s : List (Option ((Int × Int) × V))} {k : Int × Int} : k ∈ keysOf s ↔ ∃ v, Tab.has s k v := by
  unfold keysOf
  rw [List.mem_filterMap]
  constructor
  · rintro ⟨o, ho, hk⟩
    cases o with
    | none => cases hk
    | some x =>
      obtain ⟨k', v⟩ := x
      obtain rfl := Option.some.inj hk
      obtain ⟨j, hj⟩ := List.getElem?_of_mem ho
      exact ⟨v, j, by unfold Tab.at_; rw [hj]; rfl⟩
  · rintro ⟨v, j, hj⟩
    unfold Tab.at_ at hj
    cases hs : s[j]? with
    | none => rw [hs] at hj; cases hj
    | some o =>
      rw [hs] at hj
      exact ⟨o, List.mem_of_getElem? hs, by rw [show o = some (k, v) from hj]; rfl⟩
theorem keys_len {V : Type} (s : List (Option ((Int × Int) × V))) : (keysOf s).length = Tab.cnt s := by
  unfold keysOf Tab.cnt
  induction s with
  | nil => rfl
  | cons o s ih =>
    cases o with
    | none => simpa using ih
    | some x => simpa using ih
theorem keys_nodup {V : Type} {s : List (Option ((Int × Int) × V))} (h : ∀ i j k v w, Tab.at_ s i = some (k, v) → Tab.at_ s j = some (k, w) → i = j) : (keysOf s).Nodup := by
  unfold keysOf
  induction s with
  | nil => exact List.nodup_nil
  | cons o s ih =>
    have ih := ih fun i j k v w h1 h2 => by
      have := h (i + 1) (j + 1) k v w h1 h2
      omega
    cases o with
    | none => exact ih
    | some x =>
      obtain ⟨k, v⟩ := x
      refine List.nodup_cons.2 ⟨fun hm => ?_, ih⟩
      obtain ⟨w, j, hj⟩ := keys_mem.1 (show k ∈ keysOf s from hm)
      have := h 0 (j + 1) k v w rfl hj
      omega
/-- Keys put in order. -/
def sortKs (l : List (Int × Int)) : List (Int × Int) := l.mergeSort fun x y => !decide (ltK y x)
theorem sortKs_perm (l : List (Int × Int)) : (sortKs l).Perm l := List.mergeSort_perm _ _
theorem sortKs_mem {l : List (Int × Int)} {k : Int × Int} : k ∈ sortKs l ↔ k ∈ l := (sortKs_perm l).mem_iff
theorem sortKs_len (l : List (Int × Int)) : (sortKs l).length = l.length := (sortKs_perm l).length_eq
theorem sortKs_sorted {l : List (Int × Int)} (hn : l.Nodup) : (sortKs l).Pairwise ltK := by
  have h := List.pairwise_mergeSort (le := fun x y => !decide (ltK y x))
    (by
      intro a b c h1 h2
      simp only [Bool.not_eq_true', decide_eq_false_iff_not] at *
      exact ltK_not h2 h1)
    (by
      intro a b
      simp only [Bool.or_eq_true, Bool.not_eq_true', decide_eq_false_iff_not]
      by_cases h : ltK b a
      · exact .inr (ltK_asymm h)
      · exact .inl h) l
  have hn' : (sortKs l).Nodup := (sortKs_perm l).nodup_iff.2 hn
  have hb := h.and hn'
  exact hb.imp (by
    intro a b h
    obtain ⟨h1, h2⟩ := h
    simp only [Bool.not_eq_true', decide_eq_false_iff_not] at h1
    by_cases hl : ltK a b
    · exact hl
    · exact absurd (ltK_tot hl h1) h2)
end Go.Proofs.Ytkfembhladjhdaa
