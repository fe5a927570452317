/- A table with open addressing: the plain law. Slots are a list; a slot is empty, or holds a key and a thing. -/
namespace Go.Proofs.Ytkfembhladjhdaa.Tab
set_option linter.unusedVariables false
variable {K V : Type}
/-- The next slot, round the end. -/
def nx (L i : Nat) : Nat := (i + 1) % L
/-- How far slot j lies behind slot i. -/
def dist (L i j : Nat) : Nat := if i ≤ j then j - i else j + L - i
/-- What a slot holds, by its number. -/
def at_ (s : List (Option (K × V))) (i : Nat) : Option (K × V) := (s[i]?).bind id
theorem at_lt {s : List (Option (K × V))} {i : Nat} {x : K × V} (h : at_ s i = some x) : i < s.length := by
  unfold at_ at h
  rcases Nat.lt_or_ge i s.length with h' | h'
  · exact h'
  · rw [List.getElem?_eq_none h'] at h; cases h
theorem at_set {s : List (Option (K × V))} {i : Nat} (hi : i < s.length) (x : Option (K × V)) (j : Nat) : at_ (s.set i x) j = if i = j then x else at_ s j := by
  unfold at_
  rw [List.getElem?_set]
  by_cases h : i = j
  · subst h; simp [hi]
  · simp [h]
theorem nx_eq {L i : Nat} (h : i < L) : nx L i = if i + 1 = L then 0 else i + 1 := by
  unfold nx
  split
  · rename_i e; rw [e, Nat.mod_self]
  · exact Nat.mod_eq_of_lt (by omega)
theorem nx_lt {L i : Nat} (h : i < L) : nx L i < L := by rw [nx_eq h]; split <;> omega
/-- All slots that lie less than d behind i are used. -/
def run (s : List (Option (K × V))) (i d : Nat) : Prop := ∀ x, x < s.length → dist s.length i x < d → ∃ y, at_ s x = some y
section
variable [DecidableEq K]
/-- The slot is empty, or holds this key. -/
def stops (s : List (Option (K × V))) (k : K) (i : Nat) : Bool :=
  match at_ s i with
  | none => true
  | some (k', _) => decide (k' = k)
/-- The walk from slot i on, so many slots at most. -/
def go (s : List (Option (K × V))) (k : K) : Nat → Nat → Nat
  | 0, i => i
  | f + 1, i => if stops s k i then i else go s k f (nx s.length i)
/-- The slot that a key has, or would have. -/
def find (home : K → Nat → Nat) (s : List (Option (K × V))) (k : K) : Nat := go s k s.length (home k s.length)
/-- The walk ends at the first slot that stops it. -/
theorem go_spec (s : List (Option (K × V))) (k : K) : ∀ (f i x : Nat), i < s.length → x < s.length → dist s.length i x < f → stops s k x = true →
    (∀ y, y < s.length → dist s.length i y < dist s.length i x → stops s k y = false) → go s k f i = x := by
  intro f
  induction f with
  | zero => intro i x _ _ h; omega
  | succ f ih =>
    intro i x hi hx hd hs hn
    unfold go
    by_cases e : i = x
    · subst e; rw [if_pos hs]
    · have h0 := hn i hi (by unfold dist; split <;> split <;> omega)
      have hnx := nx_eq hi
      rw [if_neg (by rw [h0]; exact Bool.false_ne_true)]
      refine ih (nx s.length i) x (nx_lt hi) hx ?_ hs (fun y hy hyd => hn y hy ?_)
      · revert hd; unfold dist; rw [hnx]; split <;> split <;> split <;> omega
      · by_cases e2 : i = y
        · subst e2; unfold dist; split <;> split <;> omega
        · revert hyd; unfold dist; rw [hnx]; split <;> split <;> split <;> split <;> split <;> omega
/-- There is a first slot with a property. -/
theorem first_of (L : Nat) (p : Nat → Bool) (i : Nat) (h : ∃ x, x < L ∧ p x = true) : ∃ x, x < L ∧ p x = true ∧ ∀ y, y < L → dist L i y < dist L i x → p y = false := by
  obtain ⟨x, hx, hp⟩ := h
  generalize hd : dist L i x = d
  induction d using Nat.strongRecOn generalizing x with
  | _ d ih =>
    by_cases hq : ∃ y, y < L ∧ dist L i y < d ∧ p y = true
    · obtain ⟨y, hy, hyd, hpy⟩ := hq
      exact ih _ hyd y hy hpy rfl
    · exact ⟨x, hx, hp, fun y hy hyd => by
        cases hpy : p y with
        | false => rfl
        | true => exact absurd ⟨y, hy, hd ▸ hyd, hpy⟩ hq⟩
theorem go_first {s : List (Option (K × V))} {k : K} {i : Nat} (hi : i < s.length) (h : ∃ x, x < s.length ∧ stops s k x = true) :
    go s k s.length i < s.length ∧ stops s k (go s k s.length i) = true ∧ ∀ y, y < s.length → dist s.length i y < dist s.length i (go s k s.length i) → stops s k y = false := by
  obtain ⟨x, hx, hp, hn⟩ := first_of s.length (stops s k) i h
  rw [go_spec s k s.length i x hi hx (by unfold dist; split <;> omega) hp hn]
  exact ⟨hx, hp, hn⟩
theorem stops_none {s : List (Option (K × V))} {k : K} {i : Nat} (h : at_ s i = none) : stops s k i = true := by unfold stops; rw [h]
theorem stops_some {s : List (Option (K × V))} {k k' : K} {v : V} {i : Nat} (h : at_ s i = some (k', v)) : stops s k i = decide (k' = k) := by unfold stops; rw [h]
theorem stops_false {s : List (Option (K × V))} {k : K} {i : Nat} (h : stops s k i = false) : ∃ k' v, at_ s i = some (k', v) ∧ k' ≠ k := by
  unfold stops at h
  split at h
  · cases h
  · rename_i k' v e; exact ⟨k', v, e, by simpa using h⟩
end
/-- Each thing is reached from its key's own slot; no key is there twice; a slot is empty. -/
structure Ok (home : K → Nat → Nat) (s : List (Option (K × V))) : Prop where
  home_lt : ∀ k, home k s.length < s.length
  reach : ∀ j k v, at_ s j = some (k, v) → run s (home k s.length) (dist s.length (home k s.length) j)
  once : ∀ i j k v w, at_ s i = some (k, v) → at_ s j = some (k, w) → i = j
  room : ∃ i, i < s.length ∧ at_ s i = none
/-- A thing is there. -/
def has (s : List (Option (K × V))) (k : K) (v : V) : Prop := ∃ j, at_ s j = some (k, v)
/-- How many slots are used. -/
def cnt (s : List (Option (K × V))) : Nat := (s.filter Option.isSome).length
theorem cnt_room {s : List (Option (K × V))} (h : cnt s < s.length) : ∃ i, i < s.length ∧ at_ s i = none := by
  induction s with
  | nil => exact absurd h (by simp)
  | cons x s ih =>
    cases x with
    | none => exact ⟨0, by simp, rfl⟩
    | some x =>
      have : cnt s < s.length := by simpa [cnt] using h
      obtain ⟨i, hi, e⟩ := ih this
      exact ⟨i + 1, by simpa using hi, by simpa [at_] using e⟩
theorem cnt_set {s : List (Option (K × V))} : ∀ {i : Nat} (_ : i < s.length) (x : Option (K × V)), cnt (s.set i x) + (if (at_ s i).isSome then 1 else 0) = cnt s + (if x.isSome then 1 else 0) := by
  induction s with
  | nil => intro i hi; exact absurd hi (by simp)
  | cons y s ih =>
    intro i hi x
    cases i with
    | zero => cases x <;> cases y <;> simp [cnt, at_]
    | succ i =>
      have := ih (i := i) (by simpa using hi) x
      have e : at_ (y :: s) (i + 1) = at_ s i := by simp [at_]
      rw [e]
      cases y <;> simp [cnt] at this ⊢ <;> omega
theorem at_take (s : List (Option (K × V))) (c i : Nat) : at_ (s.take c) i = if i < c then at_ s i else none := by
  unfold at_
  rw [List.getElem?_take]
  split <;> rfl
theorem at_replicate (m i : Nat) : at_ (List.replicate m (none : Option (K × V))) i = none := by
  unfold at_; rw [List.getElem?_replicate]; split <;> rfl
theorem cnt_replicate (m : Nat) : cnt (List.replicate m (none : Option (K × V))) = 0 := by
  unfold cnt; induction m with
  | zero => rfl
  | succ m ih => simp
theorem cnt_le (s : List (Option (K × V))) : cnt s ≤ s.length := List.length_filter_le _ _
theorem ok_replicate {home : K → Nat → Nat} (hh : ∀ k L, 1 ≤ L → home k L < L) {m : Nat} (hm : 1 ≤ m) : Ok home (List.replicate m (none : Option (K × V))) :=
  ⟨fun k => by rw [List.length_replicate]; exact hh k m hm, fun j k v h => (by rw [at_replicate] at h; cases h), fun i j k v w h => (by rw [at_replicate] at h; cases h),
    ⟨0, by rw [List.length_replicate]; omega, at_replicate _ _⟩⟩
section
variable {home : K → Nat → Nat} {s : List (Option (K × V))}
/-- Another thing for the same key, in its slot. -/
theorem set_ok (h : Ok home s) {j : Nat} {k : K} {v : V} (hj : at_ s j = some (k, v)) (w : V) :
    Ok home (s.set j (some (k, w))) ∧ (∀ k' v', has (s.set j (some (k, w))) k' v' ↔ (k' = k ∧ v' = w) ∨ (k' ≠ k ∧ has s k' v')) ∧ cnt (s.set j (some (k, w))) = cnt s := by
  have hl := at_lt hj
  have hat := at_set hl (some (k, w))
  have hL : (s.set j (some (k, w))).length = s.length := by simp
  have grows : ∀ i d, run s i d → run (s.set j (some (k, w))) i d := fun i d hr x hx hd => by
    rw [hL] at hx hd
    obtain ⟨y, hy⟩ := hr x hx hd
    rw [hat]
    split
    · exact ⟨_, rfl⟩
    · exact ⟨y, hy⟩
  refine ⟨⟨fun k => by rw [hL]; exact h.home_lt k, fun i k' v' hi => ?_, fun a b k' v' w' ha hb => ?_, ?_⟩, fun k' v' => ?_, ?_⟩
  · rw [hL]
    rw [hat] at hi
    split at hi
    · rename_i e; subst e
      simp only [Option.some.injEq, Prod.mk.injEq] at hi
      obtain ⟨rfl, rfl⟩ := hi
      exact grows _ _ (h.reach j k v hj)
    · exact grows _ _ (h.reach i k' v' hi)
  · rw [hat] at ha hb
    split at ha <;> split at hb
    · omega
    · simp only [Option.some.injEq, Prod.mk.injEq] at ha
      obtain ⟨rfl, rfl⟩ := ha
      rename_i e1 e2
      exact absurd (h.once j b k v w' hj hb) e2
    · simp only [Option.some.injEq, Prod.mk.injEq] at hb
      obtain ⟨rfl, rfl⟩ := hb
      rename_i e1 e2
      exact absurd (h.once j a k v v' hj ha) e1
    · exact h.once a b k' v' w' ha hb
  · obtain ⟨i, hi, hn⟩ := h.room
    refine ⟨i, by rw [hL]; exact hi, ?_⟩
    rw [hat, if_neg]
    · exact hn
    · rintro rfl; rw [hj] at hn; cases hn
  · constructor
    · rintro ⟨i, hi⟩
      rw [hat] at hi
      split at hi
      · simp only [Option.some.injEq, Prod.mk.injEq] at hi; exact .inl ⟨hi.1.symm, hi.2.symm⟩
      · rename_i e
        refine .inr ⟨?_, i, hi⟩
        rintro rfl
        exact e (h.once j i _ v v' hj hi)
    · rintro (⟨rfl, rfl⟩ | ⟨hne, i, hi⟩)
      · exact ⟨j, by rw [hat, if_pos rfl]⟩
      · refine ⟨i, ?_⟩
        rw [hat, if_neg]
        · exact hi
        · rintro rfl; rw [hj] at hi; simp only [Option.some.injEq, Prod.mk.injEq] at hi; exact hne hi.1.symm
  · have := cnt_set hl (some (k, w))
    rw [hj] at this
    simpa using this
end
section
variable [DecidableEq K] {home : K → Nat → Nat} {s : List (Option (K × V))} {k : K} {v : V}
theorem find_has (h : Ok home s) {j : Nat} {k : K} {v : V} (hj : at_ s j = some (k, v)) : find home s k = j := by
  refine go_spec s k _ _ j (h.home_lt k) (at_lt hj) (by have := at_lt hj; have := h.home_lt k; unfold dist; split <;> omega) (by rw [stops_some hj]; simp) (fun y hy hd => ?_)
  obtain ⟨⟨k', v'⟩, e⟩ := h.reach j k v hj y hy hd
  rw [stops_some e]
  simp only [decide_eq_false_iff_not]
  intro ek
  subst ek
  have := h.once y j k' v' v e hj
  subst this
  exact absurd hd (Nat.lt_irrefl _)
/-- Where a key that is not there would be put. -/
theorem find_none (hh : home k s.length < s.length) (hr : ∃ i, i < s.length ∧ at_ s i = none) (hk : ∀ v, ¬ has s k v) :
    find home s k < s.length ∧ at_ s (find home s k) = none ∧ run s (home k s.length) (dist s.length (home k s.length) (find home s k)) := by
  obtain ⟨i, hi, hn⟩ := hr
  obtain ⟨h1, h2, h3⟩ := go_first (k := k) hh ⟨i, hi, stops_none hn⟩
  refine ⟨h1, ?_, fun x hx hd => ?_⟩
  · unfold stops at h2
    split at h2
    · assumption
    · rename_i k' v e
      have : k' = k := by simpa using h2
      subst this
      exact absurd ⟨_, e⟩ (hk v)
  · obtain ⟨k', v, e, _⟩ := stops_false (h3 x hx hd)
    exact ⟨_, e⟩
theorem find_lt (hh : home k s.length < s.length) (hr : ∃ i, i < s.length ∧ at_ s i = none) : find home s k < s.length := by
  obtain ⟨i, hi, hn⟩ := hr
  exact (go_first (k := k) hh ⟨i, hi, stops_none hn⟩).1
theorem find_at (h : Ok home s) (k : K) : (∃ v, at_ s (find home s k) = some (k, v)) ∨ (at_ s (find home s k) = none ∧ ∀ v, ¬ has s k v) := by
  by_cases hk : ∃ v, has s k v
  · obtain ⟨v, j, hj⟩ := hk
    exact .inl ⟨v, by rw [find_has h hj]; exact hj⟩
  · have hk' : ∀ v, ¬ has s k v := fun v hv => hk ⟨v, hv⟩
    exact .inr ⟨(find_none (h.home_lt k) h.room hk').2.1, hk'⟩
/-- Putting a thing at the slot that its key would have. -/
def put (home : K → Nat → Nat) (s : List (Option (K × V))) (k : K) (v : V) : List (Option (K × V)) := s.set (find home s k) (some (k, v))
theorem put_length : (put home s k v).length = s.length := by simp [put]
theorem put_at (h : Ok home s) (hk : ∀ v, ¬ has s k v) (j : Nat) : at_ (put home s k v) j = if find home s k = j then some (k, v) else at_ s j :=
  at_set (find_none (h.home_lt k) h.room hk).1 _ _
theorem put_has (h : Ok home s) (hk : ∀ v, ¬ has s k v) (k' : K) (v' : V) : has (put home s k v) k' v' ↔ (k' = k ∧ v' = v) ∨ has s k' v' := by
  have hn := (find_none (h.home_lt k) h.room hk).2.1
  constructor
  · rintro ⟨j, hj⟩
    rw [put_at h hk] at hj
    split at hj
    · left; simp only [Option.some.injEq, Prod.mk.injEq] at hj; exact ⟨hj.1.symm, hj.2.symm⟩
    · right; exact ⟨j, hj⟩
  · rintro (⟨rfl, rfl⟩ | ⟨j, hj⟩)
    · exact ⟨find home s k', by rw [put_at h hk, if_pos rfl]⟩
    · refine ⟨j, ?_⟩
      rw [put_at h hk, if_neg]
      · exact hj
      · intro e; rw [e] at hn; rw [hn] at hj; cases hj
theorem put_cnt (h : Ok home s) (hk : ∀ v, ¬ has s k v) : cnt (put home s k v) = cnt s + 1 := by
  have hf := find_none (h.home_lt k) h.room hk
  have := cnt_set hf.1 (some (k, v))
  rw [hf.2.1] at this
  simpa [put] using this
theorem put_ok (h : Ok home s) (hk : ∀ v, ¬ has s k v) (hc : cnt s + 1 < s.length) : Ok home (put home s k v) := by
  have hf := find_none (h.home_lt k) h.room hk
  have hl : (put home s k v).length = s.length := put_length
  have grows : ∀ i d, run s i d → run (put home s k v) i d := fun i d hr x hx hd => by
    rw [hl] at hx hd
    obtain ⟨y, hy⟩ := hr x hx hd
    rw [put_at h hk]
    split
    · exact ⟨_, rfl⟩
    · exact ⟨y, hy⟩
  refine ⟨fun k => by rw [hl]; exact h.home_lt k, fun j k' v' hj => ?_, fun i j k' v' w' hi hj => ?_, cnt_room (by rw [put_cnt h hk, hl]; exact hc)⟩
  · rw [hl]
    rw [put_at h hk] at hj
    split at hj
    · rename_i e
      simp only [Option.some.injEq, Prod.mk.injEq] at hj
      obtain ⟨rfl, rfl⟩ := hj
      rw [← e]
      exact grows _ _ hf.2.2
    · exact grows _ _ (h.reach j k' v' hj)
  · rw [put_at h hk] at hi hj
    split at hi <;> split at hj
    · omega
    · simp only [Option.some.injEq, Prod.mk.injEq] at hi
      obtain ⟨rfl, rfl⟩ := hi
      exact absurd ⟨j, hj⟩ (hk _)
    · simp only [Option.some.injEq, Prod.mk.injEq] at hj
      obtain ⟨rfl, rfl⟩ := hj
      exact absurd ⟨i, hi⟩ (hk _)
    · exact h.once i j k' v' w' hi hj
/-- All things of a list of slots put into another one. -/
def refill (home : K → Nat → Nat) : List (Option (K × V)) → List (Option (K × V)) → List (Option (K × V))
  | s, [] => s
  | s, none :: r => refill home s r
  | s, some (k, v) :: r => refill home (put home s k v) r
theorem refill_length : ∀ (r s : List (Option (K × V))), (refill home s r).length = s.length
  | [], s => rfl
  | none :: r, s => refill_length r s
  | some (k, v) :: r, s => by rw [refill, refill_length r, put_length]
theorem refill_append : ∀ (r q s : List (Option (K × V))), refill home s (r ++ q) = refill home (refill home s r) q
  | [], q, s => rfl
  | none :: r, q, s => refill_append r q s
  | some (k, v) :: r, q, s => refill_append r q _
theorem refill_spec : ∀ (r s : List (Option (K × V))), Ok home s → cnt s + cnt r < s.length → (∀ i j k v w, at_ r i = some (k, v) → at_ r j = some (k, w) → i = j) → (∀ k v w, has r k v → ¬ has s k w) →
    Ok home (refill home s r) ∧ (∀ k v, has (refill home s r) k v ↔ has s k v ∨ has r k v) ∧ cnt (refill home s r) = cnt s + cnt r
  | [], s, h, _, _, _ => ⟨h, fun k v => ⟨.inl, fun h => h.elim id (fun ⟨j, hj⟩ => by simp [at_] at hj)⟩, by simp [refill, cnt]⟩
  | none :: r, s, h, hc, ho, hd => by
    have hr : ∀ k v, has (none :: r) k v ↔ has r k v := fun k v => ⟨fun ⟨j, hj⟩ => by
      cases j with
      | zero => simp [at_] at hj
      | succ j => exact ⟨j, by simpa [at_] using hj⟩, fun ⟨j, hj⟩ => ⟨j + 1, by simpa [at_] using hj⟩⟩
    have := refill_spec r s h (by simpa [cnt] using hc) (fun i j k v w hi hj => by
      have := ho (i + 1) (j + 1) k v w (by simpa [at_] using hi) (by simpa [at_] using hj)
      omega) (fun k v w hk => hd k v w ((hr k v).2 hk))
    refine ⟨this.1, fun k v => by rw [hr]; exact this.2.1 k v, ?_⟩
    rw [show cnt (none :: r) = cnt r by simp [cnt]]
    exact this.2.2
  | some (k0, v0) :: r, s, h, hc, ho, hd => by
    have hc' : cnt (some (k0, v0) :: r) = cnt r + 1 := by simp [cnt]
    rw [hc'] at hc ⊢
    have hr : ∀ k v, has (some (k0, v0) :: r) k v ↔ (k = k0 ∧ v = v0) ∨ has r k v := fun k v => ⟨fun ⟨j, hj⟩ => by
      cases j with
      | zero => simp only [at_, List.getElem?_cons_zero, Option.bind_some, id, Option.some.injEq, Prod.mk.injEq] at hj; exact .inl ⟨hj.1.symm, hj.2.symm⟩
      | succ j => exact .inr ⟨j, by simpa [at_] using hj⟩, fun hh => by
        rcases hh with ⟨rfl, rfl⟩ | ⟨j, hj⟩
        · exact ⟨0, rfl⟩
        · exact ⟨j + 1, by simpa [at_] using hj⟩⟩
    have hk0 : ∀ w, ¬ has s k0 w := fun w => hd k0 v0 w ⟨0, rfl⟩
    have hnr : ∀ v, ¬ has r k0 v := fun v ⟨j, hj⟩ => by
      have := ho 0 (j + 1) k0 v0 v rfl (by simpa [at_] using hj)
      omega
    have := refill_spec r (put home s k0 v0) (put_ok h hk0 (by omega)) (by rw [put_cnt h hk0, put_length]; omega) (fun i j k v w hi hj => by
      have := ho (i + 1) (j + 1) k v w (by simpa [at_] using hi) (by simpa [at_] using hj)
      omega) (fun k v w hk hw => by
        rcases (put_has h hk0 k w).1 hw with ⟨rfl, rfl⟩ | hw
        · exact hnr v hk
        · exact hd k v w ((hr k v).2 (.inr hk)) hw)
    refine ⟨this.1, fun k v => ?_, ?_⟩
    · rw [refill, this.2.1, put_has h hk0, hr]
      constructor
      · rintro ((h | h) | h)
        · exact .inr (.inl h)
        · exact .inl h
        · exact .inr (.inr h)
      · rintro (h | h | h)
        · exact .inl (.inr h)
        · exact .inl (.inl h)
        · exact .inr h
    · rw [refill, this.2.2, put_cnt h hk0]; omega
theorem refill_take (hh : ∀ k L, 1 ≤ L → home k L < L) (h : Ok home s) (c : Nat) :
    Ok home (refill home (List.replicate (2 * s.length) none) (s.take c)) ∧ (∀ k v, has (refill home (List.replicate (2 * s.length) none) (s.take c)) k v ↔ has (s.take c) k v) ∧
      cnt (refill home (List.replicate (2 * s.length) none) (s.take c)) = cnt (s.take c) := by
  have hL : 1 ≤ s.length := by obtain ⟨i, hi, _⟩ := h.room; omega
  have h1 := cnt_le (s.take c)
  have h2 : (s.take c).length ≤ s.length := by simp; omega
  have := refill_spec (home := home) (s.take c) (List.replicate (2 * s.length) none) (ok_replicate hh (by omega)) (by rw [cnt_replicate, List.length_replicate]; omega)
    (fun i j k v w hi hj => by
      rw [at_take] at hi hj
      split at hi
      · split at hj
        · exact h.once i j k v w hi hj
        · cases hj
      · cases hi)
    (fun k v w _ ⟨j, hj⟩ => by rw [at_replicate] at hj; cases hj)
  refine ⟨this.1, fun k v => ?_, by rw [this.2.2, cnt_replicate, Nat.zero_add]⟩
  rw [this.2.1]
  exact ⟨fun h => h.elim (fun ⟨j, hj⟩ => by rw [at_replicate] at hj; cases hj) id, .inr⟩
end
end Go.Proofs.Ytkfembhladjhdaa.Tab
