/- A table with open addressing: a thing is let go; those behind it are put in anew. The plain law. -/
import Derived.Test.YtkfembhladjhdaaTabP
namespace Go.Proofs.Ytkfembhladjhdaa.Tab
set_option linter.unusedVariables false
section
variable {K V : Type}
/-- What holds while things are put in anew: slot q is empty, all from p up to it are used, and those alone may not be reached. -/
structure Mid (home : K → Nat → Nat) (s : List (Option (K × V))) (p q : Nat) : Prop where
  home_lt : ∀ k, home k s.length < s.length
  p_lt : p < s.length
  q_lt : q < s.length
  empty : at_ s q = none
  full : run s p (dist s.length p q)
  apart : ∀ j k v, at_ s j = some (k, v) → dist s.length (home k s.length) j < dist s.length (home k s.length) q
  reach : ∀ j k v, at_ s j = some (k, v) → dist s.length p j < dist s.length p q ∨ run s (home k s.length) (dist s.length (home k s.length) j)
  once : ∀ i j k v w, at_ s i = some (k, v) → at_ s j = some (k, w) → i = j
variable {home : K → Nat → Nat} {s : List (Option (K × V))}
theorem Mid.ok {p q : Nat} (h : Mid home s p q) (e : at_ s p = none) : Ok home s := by
  have hpq : p = q := by
    by_cases hpq : p = q
    · exact hpq
    · have := h.full p h.p_lt (by have := h.p_lt; have := h.q_lt; unfold dist; split <;> split <;> omega)
      rw [e] at this
      obtain ⟨y, hy⟩ := this
      cases hy
  subst hpq
  refine ⟨h.home_lt, fun j k v hj => ?_, h.once, ⟨p, h.p_lt, h.empty⟩⟩
  rcases h.reach j k v hj with hr | hr
  · have : dist s.length p p = 0 := by unfold dist; split <;> omega
    omega
  · exact hr
/-- What the first step leaves. -/
theorem Ok.mid (h : Ok home s) {i : Nat} {k : K} {v : V} (e : at_ s i = some (k, v)) :
    ∃ q, Mid home (s.set i none) (nx s.length i) q ∧ (∀ k' v', has (s.set i none) k' v' ↔ has s k' v' ∧ k' ≠ k) ∧ cnt (s.set i none) + 1 = cnt s := by
  have hi := at_lt e
  have hL : (s.set i none).length = s.length := by simp
  have h1 : ∀ j, at_ (s.set i none) j = if i = j then none else at_ s j := fun j => at_set hi none j
  have hnx := nx_eq hi
  have hnl := nx_lt hi
  obtain ⟨q, hq, hq1, hq2⟩ := first_of s.length (fun j => (at_ (s.set i none) j).isNone) (nx s.length i) ⟨i, hi, by simp [h1]⟩
  have hqn : at_ (s.set i none) q = none := by simpa using hq1
  have hqi : q ≠ i := by
    rintro rfl
    obtain ⟨u, hu, hun⟩ := h.room
    have hui : u ≠ q := by rintro rfl; rw [hun] at e; cases e
    have := hq2 u hu (by unfold dist; rw [hnx]; split <;> split <;> split <;> omega)
    rw [h1, if_neg (Ne.symm hui), hun] at this
    cases this
  have hqs : at_ s q = none := by rw [h1, if_neg (Ne.symm hqi)] at hqn; exact hqn
  have used : ∀ x y, at_ s x = some y → i ≠ x → ∃ z, at_ (s.set i none) x = some z := fun x y hx hne => ⟨y, by rw [h1, if_neg hne]; exact hx⟩
  refine ⟨q, ⟨fun k => by rw [hL]; exact h.home_lt k, by rw [hL]; exact hnl, by rw [hL]; exact hq, hqn, ?_, ?_, ?_, ?_⟩, ?_, ?_⟩
  · intro x hx hxd
    rw [hL] at hx hxd
    have := hq2 x hx hxd
    cases e2 : at_ (s.set i none) x with
    | none => rw [e2] at this; cases this
    | some y => exact ⟨y, rfl⟩
  · intro j k' v' hj
    rw [hL]
    rw [h1] at hj
    split at hj
    · cases hj
    · have hjl := at_lt hj
      have hh := h.home_lt k'
      have hqj : q ≠ j := by rintro rfl; rw [hqs] at hj; cases hj
      rcases Nat.lt_or_ge (dist s.length (home k' s.length) j) (dist s.length (home k' s.length) q) with h' | h'
      · exact h'
      · have hlt : dist s.length (home k' s.length) q < dist s.length (home k' s.length) j := by
          revert h'; unfold dist; split <;> split <;> omega
        obtain ⟨y, hy⟩ := h.reach j k' v' hj q hq hlt
        rw [hqs] at hy
        cases hy
  · intro j k' v' hj
    rw [hL]
    rw [h1] at hj
    split at hj
    · cases hj
    · rename_i hij
      have hjl := at_lt hj
      have hh := h.home_lt k'
      have hr := h.reach j k' v' hj
      have hqj : q ≠ j := by rintro rfl; rw [hqs] at hj; cases hj
      by_cases hon : dist s.length (home k' s.length) i < dist s.length (home k' s.length) j
      · left
        rcases Nat.lt_or_ge (dist s.length (nx s.length i) j) (dist s.length (nx s.length i) q) with h' | h'
        · exact h'
        · obtain ⟨y, hy⟩ := hr q hq (by revert hon h'; unfold dist; rw [hnx]; split <;> split <;> split <;> split <;> split <;> split <;> omega)
          rw [hqs] at hy
          cases hy
      · right
        intro x hx hxd
        rw [hL] at hx hxd
        obtain ⟨y, hy⟩ := hr x hx hxd
        exact used x y hy (by rintro rfl; exact hon hxd)
  · intro a b k' v' w' ha hb
    rw [h1] at ha hb
    split at ha
    · cases ha
    · split at hb
      · cases hb
      · exact h.once a b k' v' w' ha hb
  · intro k' v'
    constructor
    · rintro ⟨j, hj⟩
      rw [h1] at hj
      split at hj
      · cases hj
      · rename_i hij
        exact ⟨⟨j, hj⟩, by rintro rfl; exact hij (h.once i j _ v v' e hj)⟩
    · rintro ⟨⟨j, hj⟩, hne⟩
      refine ⟨j, ?_⟩
      rw [h1, if_neg]
      · exact hj
      · rintro rfl; rw [e] at hj; simp only [Option.some.injEq, Prod.mk.injEq] at hj; exact hne hj.1.symm
  · have := cnt_set hi (none : Option (K × V))
    rw [e] at this
    simpa using this
end
section
variable {K V : Type} [DecidableEq K]
/-- The thing in a slot is taken out and put in anew. -/
def again (home : K → Nat → Nat) (s : List (Option (K × V))) (i : Nat) : List (Option (K × V)) :=
  match at_ s i with
  | none => s
  | some (k, v) => put home (s.set i none) k v
/-- From slot i on, so many at most, till one is empty. -/
def mend (home : K → Nat → Nat) : Nat → List (Option (K × V)) → Nat → List (Option (K × V))
  | 0, s, _ => s
  | f + 1, s, i => if (at_ s i).isSome then mend home f (again home s i) (nx s.length i) else s
variable {home : K → Nat → Nat} {s : List (Option (K × V))} {q : Nat}
theorem again_length (i : Nat) : (again home s i).length = s.length := by
  unfold again; split
  · rfl
  · rw [put_length]; simp
theorem Mid.step {p q : Nat} {k : K} {v : V} (h : Mid home s p q) (e : at_ s p = some (k, v)) :
    Mid home (again home s p) (nx s.length p) q ∧ (∀ k' v', has (again home s p) k' v' ↔ has s k' v') ∧ cnt (again home s p) = cnt s ∧ dist s.length p q = dist s.length (nx s.length p) q + 1 ∧
      (∃ i, i < s.length ∧ at_ (s.set p none) i = none) := by
  have hpq : p ≠ q := by rintro rfl; rw [h.empty] at e; cases e
  have hp := h.p_lt
  have hq := h.q_lt
  have hnx := nx_eq hp
  have hd : dist s.length p q = dist s.length (nx s.length p) q + 1 := by unfold dist; rw [hnx]; split <;> split <;> split <;> omega
  have h1 : ∀ j, at_ (s.set p none) j = if p = j then none else at_ s j := fun j => at_set hp none j
  have hL1 : (s.set p none).length = s.length := by simp
  have hno : ∀ w, ¬ has (s.set p none) k w := fun w ⟨j, hj⟩ => by
    rw [h1] at hj
    split at hj
    · cases hj
    · rename_i hne; exact hne (h.once p j k v w e hj)
  have hroom : ∃ i, i < (s.set p none).length ∧ at_ (s.set p none) i = none := ⟨p, by rw [hL1]; exact hp, by rw [h1, if_pos rfl]⟩
  have hhome := h.home_lt k
  obtain ⟨f1, f2, f3⟩ := find_none (home := home) (by rw [hL1]; exact hhome) hroom hno
  have hag : again home s p = (s.set p none).set (find home (s.set p none) k) (some (k, v)) := by unfold again; rw [e]; rfl
  generalize hf : find home (s.set p none) k = f at *
  rw [hL1] at f1 f3
  have hA : ∀ j, at_ (again home s p) j = if f = j then some (k, v) else if p = j then none else at_ s j := fun j => by
    rw [hag, at_set (by rw [hL1]; exact f1), h1]
  have hL : (again home s p).length = s.length := again_length p
  -- the new place lies no further than the old one
  have hfp : dist s.length (home k s.length) f ≤ dist s.length (home k s.length) p := by
    rcases Nat.lt_or_ge (dist s.length (home k s.length) p) (dist s.length (home k s.length) f) with hlt | hge
    · obtain ⟨y, hy⟩ := f3 p (by rw [hL1]; exact hp) (by rw [hL1]; exact hlt)
      rw [h1, if_pos rfl] at hy
      cases hy
    · exact hge
  have hap := h.apart p k v e
  have hfq : f ≠ q := by rintro rfl; omega
  have used : ∀ x y, at_ s x = some y → p ≠ x → ∃ z, at_ (again home s p) x = some z := fun x y hx hne => by
    by_cases ef : f = x
    · exact ⟨_, by rw [hA, if_pos ef]⟩
    · exact ⟨y, by rw [hA, if_neg ef, if_neg hne]; exact hx⟩
  refine ⟨⟨fun k => by rw [hL]; exact h.home_lt k, by rw [hL]; exact nx_lt hp, by rw [hL]; exact hq, ?_, ?_, ?_, ?_, ?_⟩, ?_, ?_, hd, ⟨p, hp, by rw [h1, if_pos rfl]⟩⟩
  · rw [hA, if_neg hfq, if_neg hpq]; exact h.empty
  · intro x hx hxd
    rw [hL] at hx hxd
    have hne : p ≠ x := by
      rintro rfl
      revert hxd; unfold dist; rw [hnx]; split <;> split <;> split <;> omega
    have hxd2 : dist s.length p x < dist s.length p q := by
      revert hxd; unfold dist; rw [hnx]; split <;> split <;> split <;> split <;> split <;> omega
    obtain ⟨y, hy⟩ := h.full x hx hxd2
    exact used x y hy hne
  · intro j k' v' hj
    rw [hL]
    rw [hA] at hj
    split at hj
    · rename_i ej; subst ej
      simp only [Option.some.injEq, Prod.mk.injEq] at hj
      obtain ⟨rfl, rfl⟩ := hj
      omega
    · split at hj
      · cases hj
      · exact h.apart j k' v' hj
  · intro j k' v' hj
    rw [hL]
    rw [hA] at hj
    split at hj
    · rename_i ej; subst ej
      simp only [Option.some.injEq, Prod.mk.injEq] at hj
      obtain ⟨rfl, rfl⟩ := hj
      right
      intro x hx hxd
      rw [hL] at hx hxd
      obtain ⟨y, hy⟩ := f3 x (by rw [hL1]; exact hx) (by rw [hL1]; exact hxd)
      rw [h1] at hy
      split at hy
      · cases hy
      · rename_i hne; exact used x y hy hne
    · rename_i hfj
      split at hj
      · cases hj
      · rename_i hpj
        have hjl := at_lt hj
        have hqj : q ≠ j := by rintro rfl; rw [h.empty] at hj; cases hj
        have keep : dist s.length p j < dist s.length p q → dist s.length (nx s.length p) j < dist s.length (nx s.length p) q := fun hh => by
          revert hh; unfold dist; rw [hnx]; split <;> split <;> split <;> split <;> split <;> omega
        rcases h.reach j k' v' hj with hr | hr
        · exact .inl (keep hr)
        · by_cases hon : dist s.length (home k' s.length) p < dist s.length (home k' s.length) j
          · left
            refine keep ?_
            rcases Nat.lt_or_ge (dist s.length p j) (dist s.length p q) with h' | h'
            · exact h'
            · have hh := h.home_lt k'
              obtain ⟨y, hy⟩ := hr q hq (by revert hon h'; unfold dist; split <;> split <;> split <;> split <;> split <;> omega)
              rw [h.empty] at hy
              cases hy
          · right
            intro x hx hxd
            rw [hL] at hx hxd
            obtain ⟨y, hy⟩ := hr x hx hxd
            exact used x y hy (by rintro rfl; exact hon hxd)
  · intro i j k' v' w' hi hj
    rw [hA] at hi hj
    split at hi <;> split at hj
    · omega
    · simp only [Option.some.injEq, Prod.mk.injEq] at hi
      obtain ⟨rfl, rfl⟩ := hi
      split at hj
      · cases hj
      · rename_i hne; exact absurd (h.once p j k v w' e hj) hne
    · simp only [Option.some.injEq, Prod.mk.injEq] at hj
      obtain ⟨rfl, rfl⟩ := hj
      split at hi
      · cases hi
      · rename_i hne; exact absurd (h.once p i k v v' e hi) hne
    · split at hi
      · cases hi
      · split at hj
        · cases hj
        · exact h.once i j k' v' w' hi hj
  · intro k' v'
    constructor
    · rintro ⟨j, hj⟩
      rw [hA] at hj
      split at hj
      · simp only [Option.some.injEq, Prod.mk.injEq] at hj
        obtain ⟨rfl, rfl⟩ := hj
        exact ⟨p, e⟩
      · split at hj
        · cases hj
        · exact ⟨j, hj⟩
    · rintro ⟨j, hj⟩
      by_cases hpj : p = j
      · subst hpj
        rw [e] at hj
        simp only [Option.some.injEq, Prod.mk.injEq] at hj
        obtain ⟨rfl, rfl⟩ := hj
        exact ⟨f, by rw [hA, if_pos rfl]⟩
      · refine ⟨j, ?_⟩
        rw [hA, if_neg, if_neg hpj]
        · exact hj
        · rintro rfl
          rw [h1, if_neg hpj, hj] at f2
          cases f2
  · have c1 := cnt_set hp (none : Option (K × V))
    have c2 := cnt_set (s := s.set p none) (i := f) (by rw [hL1]; exact f1) (some (k, v))
    rw [e] at c1
    rw [f2] at c2
    rw [hag]
    simp at c1 c2
    omega
theorem mend_length : ∀ (f : Nat) (s : List (Option (K × V))) (i : Nat), (mend home f s i).length = s.length
  | 0, s, i => rfl
  | f + 1, s, i => by
    unfold mend
    split
    · rw [mend_length f, again_length]
    · rfl
theorem mend_spec : ∀ (f p : Nat) (s : List (Option (K × V))), Mid home s p q → dist s.length p q < f →
    Ok home (mend home f s p) ∧ (∀ k' v', has (mend home f s p) k' v' ↔ has s k' v') ∧ cnt (mend home f s p) = cnt s
  | 0, _, _, _, h => by omega
  | f + 1, p, s, h, hf => by
    unfold mend
    cases e : at_ s p with
    | none => exact ⟨by simpa using h.ok e, by simp, by simp⟩
    | some x =>
      obtain ⟨k, v⟩ := x
      obtain ⟨h1, h2, h3, h4, _⟩ := h.step e
      have := mend_spec f (nx s.length p) (again home s p) h1 (by rw [again_length]; omega)
      simp only [Option.isSome_some, if_true]
      exact ⟨this.1, fun k' v' => (this.2.1 k' v').trans (h2 k' v'), by rw [this.2.2, h3]⟩
end
end Go.Proofs.Ytkfembhladjhdaa.Tab
