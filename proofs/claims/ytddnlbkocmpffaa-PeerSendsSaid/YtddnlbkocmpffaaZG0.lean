/- make with elements of several cells. -/
import Derived.Laws.MakeOwn
import Derived.Laws.Entries
import Derived.WalkKit
namespace Go.Proofs.Ytddnlbkocmpffaa
theorem run_make_rowN {P : Program} (t e : TypeId) (i : TypeInfo) (z : Value) (ht : P.underlying t = some (.slice e)) (hi : P.info? e = some i) (hz : i.zero = some z)
    (kl kc : IntKind) (n c : Nat) (hnc : n ≤ c) (hbytes : i.bytes * c ≤ 281474976710656) (h63 : c ≤ 9223372036854775807) (w : World) :
    (Instr.makeSlice t (.int kl (n : Int)) (.int kc (c : Int))).run P w = .ok (.slice (some ⟨w.heap.size, 0, none⟩) n c) (w.alloc (.cells (madeCells z.cells (c * i.size)) e)) := by
  have hb : (i.bytes : Int) * (c : Int) ≤ 281474976710656 := by
    have h : ((i.bytes * c : Nat) : Int) ≤ 281474976710656 := by omega
    rwa [Int.natCast_mul] at h
  have hr := run_make (P := P) w t e i z ht hi hz kl kc n c (by omega) (by omega) hb (by omega)
  simp only [Int.toNat_natCast] at hr
  exact hr
theorem made_get (z : Array Value) (n k : Nat) (h : k < n) : (madeCells z n)[k]? = some (z[k % z.size]!) := by
  unfold madeCells
  simp [h]
theorem made_size (z : Array Value) (n : Nat) : (madeCells z n).size = n := by simp [madeCells]
end Go.Proofs.Ytddnlbkocmpffaa
namespace Go.Proofs.Ytddnlbkocmpffaa.Tab
set_option linter.unusedVariables false
variable {K V : Type}
/-- The next slot, round the end. -/
def nx (L i : Nat) : Nat := (i + 1) % L
/-- How far slot j lies behind slot i. -/
def dist (L i j : Nat) : Nat := if i ≤ j then j - i else j + L - i
/-- What a slot holds, by its number. -/
def at_ (s : List (Option (K × V))) (i : Nat) : Option (K × V) := (s[i]?).bind id
theorem at_lt {s : List (Option (K × V))} {i : Nat} {x : K × V} (h : at_ s i = some x) : i < s.length := by
  unfold at_ at h
  rcases Nat.lt_or_ge i s.length with h' | h'
  · exact h'
  · rw [List.getElem?_eq_none h'] at h; cases h
theorem at_set {s : List (Option (K × V))} {i : Nat} (hi : i < s.length) (x : Option (K × V)) (j : Nat) : at_ (s.set i x) j = if i = j then x else at_ s j := by
  unfold at_
  rw [List.getElem?_set]
  by_cases h : i = j
  · subst h; simp [hi]
  · simp [h]
theorem nx_eq {L i : Nat} (h : i < L) : nx L i = if i + 1 = L then 0 else i + 1 := by
  unfold nx
  split
  · rename_i e; rw [e, Nat.mod_self]
  · exact Nat.mod_eq_of_lt (by omega)
theorem nx_lt {L i : Nat} (h : i < L) : nx L i < L := by rw [nx_eq h]; split <;> omega
/-- All slots that lie less than d behind i are used. -/
def run (s : List (Option (K × V))) (i d : Nat) : Prop := ∀ x, x < s.length → dist s.length i x < d → ∃ y, at_ s x = some y
section
variable [DecidableEq K]
/-- The slot is empty, or holds this key. -/
def stops (s : List (Option (K × V))) (k : K) (i : Nat) : Bool :=
  match at_ s i with
  | none => true
  | some (k', _) => decide (k' = k)
/-- The walk from slot i on, so many slots at most. -/
def go (s : List (Option (K × V))) (k : K) : Nat → Nat → Nat
  | 0, i => i
  | f + 1, i => if stops s k i then i else go s k f (nx s.length i)
/-- The slot that a key has, or would have. -/
def find (home : K → Nat → Nat) (s : List (Option (K × V))) (k : K) : Nat := go s k s.length (home k s.length)
/-- The walk ends at the first slot that stops it. -/
theorem go_spec (s : List (Option (K × V))) (k : K) : ∀ (f i x : Nat), i < s.length → x < s.length → dist s.length i x < f → stops s k x = true →
    (∀ y, y < s.length → dist s.length i y < dist s.length i x → stops s k y = false) → go s k f i = x := by
  intro f
  induction f with
  | zero => intro i x _ _ h; omega
  | succ f ih =>
    intro i x hi hx hd hs hn
    unfold go
    by_cases e : i = x
    · subst e; rw [if_pos hs]
    · have h0 := hn i hi (by unfold dist; split <;> split <;> omega)
      have hnx := nx_eq hi
      rw [if_neg (by rw [h0]; exact Bool.false_ne_true)]
      refine ih (nx s.length i) x (nx_lt hi) hx ?_ hs (fun y hy hyd => hn y hy ?_)
      · revert hd; unfold dist; rw [hnx]; split <;> split <;> split <;> omega
      · by_cases e2 : i = y
        · subst e2; unfold dist; split <;> split <;> omega
        · revert hyd; unfold dist; rw [hnx]; split <;> split <;> split <;> split <;> split <;> omega
/-- There is a first slot with a property. -/
theorem first_of (L : Nat) (p : Nat → Bool) (i : Nat) (h : ∃ x, x < L ∧ p x = true) : ∃ x, x < L ∧ p x = true ∧ ∀ y, y < L → dist L i y < dist L i x → p y = false := by
  obtain ⟨x, hx, hp⟩ := h
  generalize hd : dist L i x = d
  induction d using Nat.strongRecOn generalizing x with
  | _ d ih =>
    by_cases hq : ∃ y, y < L ∧ dist L i y < d ∧ p y = true
    · obtain ⟨y, hy, hyd, hpy⟩ := hq
      exact ih _ hyd y hy hpy rfl
    · exact ⟨x, hx, hp, fun y hy hyd => by
        cases hpy : p y with
        | false => rfl
        | true => exact absurd ⟨y, hy, hd ▸ hyd, hpy⟩ hq⟩
theorem go_first {s : List (Option (K × V))} {k : K} {i : Nat} (hi : i < s.length) (h : ∃ x, x < s.length ∧ stops s k x = true) :
    go s k s.length i < s.length ∧ stops s k (go s k s.length i) = true ∧ ∀ y, y < s.length → dist s.length i y < dist s.length i (go s k s.length i) → stops s k y = false := by
  obtain ⟨x, hx, hp, hn⟩ := first_of s.length (stops s k) i h
  rw [go_spec s k s.length i x hi hx (by unfold dist; split <;> omega) hp hn]
  exact ⟨hx, hp, hn⟩
theorem stops_none {s : List (Option (K × V))} {k : K} {i : Nat} (h : at_ s i = none) : stops s k i = true := by unfold stops; rw [h]
theorem stops_some {s : List (Option (K × V))} {k k' : K} {v : V} {i : Nat} (h : at_ s i = some (k', v)) : stops s k i = decide (k' = k) := by unfold stops; rw [h]
theorem stops_false {s : List (Option (K × V))} {k : K} {i : Nat} (h : stops s k i = false) : ∃ k' v, at_ s i = some (k', v) ∧ k' ≠ k := by
  unfold stops at h
  split at h
  · cases h
  · rename_i k' v e; exact ⟨k', v, e, by simpa using h⟩
end
/-- Each thing is reached from its key's own slot; no key is there twice; a slot is empty. -/
structure Ok (home : K → Nat → Nat) (s : List (Option (K × V))) : Prop where
  home_lt : ∀ k, home k s.length < s.length
  reach : ∀ j k v, at_ s j = some (k, v) → run s (home k s.length) (dist s.length (home k s.length) j)
  once : ∀ i j k v w, at_ s i = some (k, v) → at_ s j = some (k, w) → i = j
  room : ∃ i, i < s.length ∧ at_ s i = none
/-- A thing is there. -/
def has (s : List (Option (K × V))) (k : K) (v : V) : Prop := ∃ j, at_ s j = some (k, v)
/-- How many slots are used. -/
def cnt (s : List (Option (K × V))) : Nat := (s.filter Option.isSome).length
theorem cnt_room {s : List (Option (K × V))} (h : cnt s < s.length) : ∃ i, i < s.length ∧ at_ s i = none := by
  induction s with
  | nil => exact absurd h (by simp)
  | cons x s ih =>
    cases x with
    | none => exact ⟨0, by simp, rfl⟩
    | some x =>
      have : cnt s < s.length := by simpa [cnt] using h
      obtain ⟨i, hi, e⟩ := ih this
      exact ⟨i + 1, by simpa using hi, by simpa [at_] using e⟩
theorem cnt_set {s : List (Option (K × V))} : ∀ {i : Nat} (_ : i < s.length) (x : Option (K × V)), cnt (s.set i x) + (if (at_ s i).isSome then 1 else 0) = cnt s + (if x.isSome then 1 else 0) := by
  induction s with
  | nil => intro i hi; exact absurd hi (by simp)
  | cons y s ih =>
    intro i hi x
    cases i with
    | zero => cases x <;> cases y <;> simp [cnt, at_]
    | succ i =>
      have := ih (i := i) (by simpa using hi) x
      have e : at_ (y :: s) (i + 1) = at_ s i := by simp [at_]
      rw [e]
      cases y <;> simp [cnt] at this ⊢ <;> omega
theorem at_take (s : List (Option (K × V))) (c i : Nat) : at_ (s.take c) i = if i < c then at_ s i else none := by
  unfold at_
  rw [List.getElem?_take]
  split <;> rfl
theorem at_replicate (m i : Nat) : at_ (List.replicate m (none : Option (K × V))) i = none := by
  unfold at_; rw [List.getElem?_replicate]; split <;> rfl
theorem cnt_replicate (m : Nat) : cnt (List.replicate m (none : Option (K × V))) = 0 := by
  unfold cnt; induction m with
  | zero => rfl
  | succ m ih => simp
theorem cnt_le (s : List (Option (K × V))) : cnt s ≤ s.length := List.length_filter_le _ _
theorem ok_replicate {home : K → Nat → Nat} (hh : ∀ k L, 1 ≤ L → home k L < L) {m : Nat} (hm : 1 ≤ m) : Ok home (List.replicate m (none : Option (K × V))) :=
  ⟨fun k => by rw [List.length_replicate]; exact hh k m hm, fun j k v h => (by rw [at_replicate] at h; cases h), fun i j k v w h => (by rw [at_replicate] at h; cases h),
    ⟨0, by rw [List.length_replicate]; omega, at_replicate _ _⟩⟩
section
variable {home : K → Nat → Nat} {s : List (Option (K × V))}
/-- Another thing for the same key, in its slot. -/
theorem set_ok (h : Ok home s) {j : Nat} {k : K} {v : V} (hj : at_ s j = some (k, v)) (w : V) :
    Ok home (s.set j (some (k, w))) ∧ (∀ k' v', has (s.set j (some (k, w))) k' v' ↔ (k' = k ∧ v' = w) ∨ (k' ≠ k ∧ has s k' v')) ∧ cnt (s.set j (some (k, w))) = cnt s := by
  have hl := at_lt hj
  have hat := at_set hl (some (k, w))
  have hL : (s.set j (some (k, w))).length = s.length := by simp
  have grows : ∀ i d, run s i d → run (s.set j (some (k, w))) i d := fun i d hr x hx hd => by
    rw [hL] at hx hd
    obtain ⟨y, hy⟩ := hr x hx hd
    rw [hat]
    split
    · exact ⟨_, rfl⟩
    · exact ⟨y, hy⟩
  refine ⟨⟨fun k => by rw [hL]; exact h.home_lt k, fun i k' v' hi => ?_, fun a b k' v' w' ha hb => ?_, ?_⟩, fun k' v' => ?_, ?_⟩
  · rw [hL]
    rw [hat] at hi
    split at hi
    · rename_i e; subst e
      simp only [Option.some.injEq, Prod.mk.injEq] at hi
      obtain ⟨rfl, rfl⟩ := hi
      exact grows _ _ (h.reach j k v hj)
    · exact grows _ _ (h.reach i k' v' hi)
  · rw [hat] at ha hb
    split at ha <;> split at hb
    · omega
    · simp only [Option.some.injEq, Prod.mk.injEq] at ha
      obtain ⟨rfl, rfl⟩ := ha
      rename_i e1 e2
      exact absurd (h.once j b k v w' hj hb) e2
    · simp only [Option.some.injEq, Prod.mk.injEq] at hb
      obtain ⟨rfl, rfl⟩ := hb
      rename_i e1 e2
      exact absurd (h.once j a k v v' hj ha) e1
    · exact h.once a b k' v' w' ha hb
  · obtain ⟨i, hi, hn⟩ := h.room
    refine ⟨i, by rw [hL]; exact hi, ?_⟩
    rw [hat, if_neg]
    · exact hn
    · rintro rfl; rw [hj] at hn; cases hn
  · constructor
    · rintro ⟨i, hi⟩
      rw [hat] at hi
      split at hi
      · simp only [Option.some.injEq, Prod.mk.injEq] at hi; exact .inl ⟨hi.1.symm, hi.2.symm⟩
      · rename_i e
        refine .inr ⟨?_, i, hi⟩
        rintro rfl
        exact e (h.once j i _ v v' hj hi)
    · rintro (⟨rfl, rfl⟩ | ⟨hne, i, hi⟩)
      · exact ⟨j, by rw [hat, if_pos rfl]⟩
      · refine ⟨i, ?_⟩
        rw [hat, if_neg]
        · exact hi
        · rintro rfl; rw [hj] at hi; simp only [Option.some.injEq, Prod.mk.injEq] at hi; exact hne hi.1.symm
  · have := cnt_set hl (some (k, w))
    rw [hj] at this
    simpa using this
end
section
variable [DecidableEq K] {home : K → Nat → Nat} {s : List (Option (K × V))} {k : K} {v : V}
theorem find_has (h : Ok home s) {j : Nat} {k : K} {v : V} (hj : at_ s j = some (k, v)) : find home s k = j := by
  refine go_spec s k _ _ j (h.home_lt k) (at_lt hj) (by have := at_lt hj; have := h.home_lt k; unfold dist; split <;> omega) (by rw [stops_some hj]; simp) (fun y hy hd => ?_)
  obtain ⟨⟨k', v'⟩, e⟩ := h.reach j k v hj y hy hd
  rw [stops_some e]
  simp only [decide_eq_false_iff_not]
  intro ek
  subst ek
  have := h.once y j k' v' v e hj
  subst this
  exact absurd hd (Nat.lt_irrefl _)
/-- Where a key that is not there would be put. -/
theorem find_none (hh : home k s.length < s.length) (hr : ∃ i, i < s.length ∧ at_ s i = none) (hk : ∀ v, ¬ has s k v) :
    find home s k < s.length ∧ at_ s (find home s k) = none ∧ run s (home k s.length) (dist s.length (home k s.length) (find home s k)) := by
  obtain ⟨i, hi, hn⟩ := hr
  obtain ⟨h1, h2, h3⟩ := go_first (k := k) hh ⟨i, hi, stops_none hn⟩
  refine ⟨h1, ?_, fun x hx hd => ?_⟩
  · unfold stops at h2
    split at h2
    · assumption
    · rename_i k' v e
      have : k' = k := by simpa using h2
      subst this
      exact absurd ⟨_, e⟩ (hk v)
  · obtain ⟨k', v, e, _⟩ := stops_false (h3 x hx hd)
    exact ⟨_, e⟩
theorem find_lt (hh : home k s.length < s.length) (hr : ∃ i, i < s.length ∧ at_ s i = none) : find home s k < s.length := by
  obtain ⟨i, hi, hn⟩ := hr
  exact (go_first (k := k) hh ⟨i, hi, stops_none hn⟩).1
theorem find_at (h : Ok home s) (k : K) : (∃ v, at_ s (find home s k) = some (k, v)) ∨ (at_ s (find home s k) = none ∧ ∀ v, ¬ has s k v) := by
  by_cases hk : ∃ v, has s k v
  · obtain ⟨v, j, hj⟩ := hk
    exact .inl ⟨v, by rw [find_has h hj]; exact hj⟩
  · have hk' : ∀ v, ¬ has s k v := fun v hv => hk ⟨v, hv⟩
    exact .inr ⟨(find_none (h.home_lt k) h.room hk').2.1, hk'⟩
/-- Putting a thing at the slot that its key would have. -/
def put (home : K → Nat → Nat) (s : List (Option (K × V))) (k : K) (v : V) : List (Option (K × V)) := s.set (find home s k) (some (k, v))
theorem put_length : (put home s k v).length = s.length := by simp [put]
theorem put_at (h : Ok home s) (hk : ∀ v, ¬ has s k v) (j : Nat) : at_ (put home s k v) j = if find home s k = j then some (k, v) else at_ s j :=
  at_set (find_none (h.home_lt k) h.room hk).1 _ _
theorem put_has (h : Ok home s) (hk : ∀ v, ¬ has s k v) (k' : K) (v' : V) : has (put home s k v) k' v' ↔ (k' = k ∧ v' = v) ∨ has s k' v' := by
  have hn := (find_none (h.home_lt k) h.room hk).2.1
  constructor
  · rintro ⟨j, hj⟩
    rw [put_at h hk] at hj
    split at hj
    · left; simp only [Option.some.injEq, Prod.mk.injEq] at hj; exact ⟨hj.1.symm, hj.2.symm⟩
    · right; exact ⟨j, hj⟩
  · rintro (⟨rfl, rfl⟩ | ⟨j, hj⟩)
    · exact ⟨find home s k', by rw [put_at h hk, if_pos rfl]⟩
    · refine ⟨j, ?_⟩
      rw [put_at h hk, if_neg]
      · exact hj
      · intro e; rw [e] at hn; rw [hn] at hj; cases hj
theorem put_cnt (h : Ok home s) (hk : ∀ v, ¬ has s k v) : cnt (put home s k v) = cnt s + 1 := by
  have hf := find_none (h.home_lt k) h.room hk
  have := cnt_set hf.1 (some (k, v))
  rw [hf.2.1] at this
  simpa [put] using this
theorem put_ok (h : Ok home s) (hk : ∀ v, ¬ has s k v) (hc : cnt s + 1 < s.length) : Ok home (put home s k v) := by
  have hf := find_none (h.home_lt k) h.room hk
  have hl : (put home s k v).length = s.length := put_length
  have grows : ∀ i d, run s i d → run (put home s k v) i d := fun i d hr x hx hd => by
    rw [hl] at hx hd
    obtain ⟨y, hy⟩ := hr x hx hd
    rw [put_at h hk]
    split
    · exact ⟨_, rfl⟩
    · exact ⟨y, hy⟩
  refine ⟨fun k => by rw [hl]; exact h.home_lt k, fun j k' v' hj => ?_, fun i j k' v' w' hi hj => ?_, cnt_room (by rw [put_cnt h hk, hl]; exact hc)⟩
  · rw [hl]
    rw [put_at h hk] at hj
    split at hj
    · rename_i e
      simp only [Option.some.injEq, Prod.mk.injEq] at hj
      obtain ⟨rfl, rfl⟩ := hj
      rw [← e]
      exact grows _ _ hf.2.2
    · exact grows _ _ (h.reach j k' v' hj)
  · rw [put_at h hk] at hi hj
    split at hi <;> split at hj
    · omega
    · simp only [Option.some.injEq, Prod.mk.injEq] at hi
      obtain ⟨rfl, rfl⟩ := hi
      exact absurd ⟨j, hj⟩ (hk _)
    · simp only [Option.some.injEq, Prod.mk.injEq] at hj
      obtain ⟨rfl, rfl⟩ := hj
      exact absurd ⟨i, hi⟩ (hk _)
    · exact h.once i j k' v' w' hi hj
/-- All things of a list of slots put into another one. -/
def refill (home : K → Nat → Nat) : List (Option (K × V)) → List (Option (K × V)) → List (Option (K × V))
  | s, [] => s
  | s, none :: r => refill home s r
  | s, some (k, v) :: r => refill home (put home s k v) r
theorem refill_length : ∀ (r s : List (Option (K × V))), (refill home s r).length = s.length
  | [], s => rfl
  | none :: r, s => refill_length r s
  | some (k, v) :: r, s => by rw [refill, refill_length r, put_length]
theorem refill_append : ∀ (r q s : List (Option (K × V))), refill home s (r ++ q) = refill home (refill home s r) q
  | [], q, s => rfl
  | none :: r, q, s => refill_append r q s
  | some (k, v) :: r, q, s => refill_append r q _
theorem refill_spec : ∀ (r s : List (Option (K × V))), Ok home s → cnt s + cnt r < s.length → (∀ i j k v w, at_ r i = some (k, v) → at_ r j = some (k, w) → i = j) → (∀ k v w, has r k v → ¬ has s k w) →
    Ok home (refill home s r) ∧ (∀ k v, has (refill home s r) k v ↔ has s k v ∨ has r k v) ∧ cnt (refill home s r) = cnt s + cnt r
  | [], s, h, _, _, _ => ⟨h, fun k v => ⟨.inl, fun h => h.elim id (fun ⟨j, hj⟩ => by simp [at_] at hj)⟩, by simp [refill, cnt]⟩
  | none :: r, s, h, hc, ho, hd => by
    have hr : ∀ k v, has (none :: r) k v ↔ has r k v := fun k v => ⟨fun ⟨j, hj⟩ => by
      cases j with
      | zero => simp [at_] at hj
      | succ j => exact ⟨j, by simpa [at_] using hj⟩, fun ⟨j, hj⟩ => ⟨j + 1, by simpa [at_] using hj⟩⟩
    have := refill_spec r s h (by simpa [cnt] using hc) (fun i j k v w hi hj => by
      have := ho (i + 1) (j + 1) k v w (by simpa [at_] using hi) (by simpa [at_] using hj)
      omega) (fun k v w hk => hd k v w ((hr k v).2 hk))
    refine ⟨this.1, fun k v => by rw [hr]; exact this.2.1 k v, ?_⟩
    rw [show cnt (none :: r) = cnt r by simp [cnt]]
    exact this.2.2
  | some (k0, v0) :: r, s, h, hc, ho, hd => by
    have hc' : cnt (some (k0, v0) :: r) = cnt r + 1 := by simp [cnt]
    rw [hc'] at hc ⊢
    have hr : ∀ k v, has (some (k0, v0) :: r) k v ↔ (k = k0 ∧ v = v0) ∨ has r k v := fun k v => ⟨fun ⟨j, hj⟩ => by
      cases j with
      | zero => simp only [at_, List.getElem?_cons_zero, Option.bind_some, id, Option.some.injEq, Prod.mk.injEq] at hj; exact .inl ⟨hj.1.symm, hj.2.symm⟩
      | succ j => exact .inr ⟨j, by simpa [at_] using hj⟩, fun hh => by
        rcases hh with ⟨rfl, rfl⟩ | ⟨j, hj⟩
        · exact ⟨0, rfl⟩
        · exact ⟨j + 1, by simpa [at_] using hj⟩⟩
    have hk0 : ∀ w, ¬ has s k0 w := fun w => hd k0 v0 w ⟨0, rfl⟩
    have hnr : ∀ v, ¬ has r k0 v := fun v ⟨j, hj⟩ => by
      have := ho 0 (j + 1) k0 v0 v rfl (by simpa [at_] using hj)
      omega
    have := refill_spec r (put home s k0 v0) (put_ok h hk0 (by omega)) (by rw [put_cnt h hk0, put_length]; omega) (fun i j k v w hi hj => by
      have := ho (i + 1) (j + 1) k v w (by simpa [at_] using hi) (by simpa [at_] using hj)
      omega) (fun k v w hk hw => by
        rcases (put_has h hk0 k w).1 hw with ⟨rfl, rfl⟩ | hw
        · exact hnr v hk
        · exact hd k v w ((hr k v).2 (.inr hk)) hw)
    refine ⟨this.1, fun k v => ?_, ?_⟩
    · rw [refill, this.2.1, put_has h hk0, hr]
      constructor
      · rintro ((h | h) | h)
        · exact .inr (.inl h)
        · exact .inl h
        · exact .inr (.inr h)
      · rintro (h | h | h)
        · exact .inl (.inr h)
        · exact .inl (.inl h)
        · exact .inr h
    · rw [refill, this.2.2, put_cnt h hk0]; omega
theorem refill_take (hh : ∀ k L, 1 ≤ L → home k L < L) (h : Ok home s) (c : Nat) :
    Ok home (refill home (List.replicate (2 * s.length) none) (s.take c)) ∧ (∀ k v, has (refill home (List.replicate (2 * s.length) none) (s.take c)) k v ↔ has (s.take c) k v) ∧
      cnt (refill home (List.replicate (2 * s.length) none) (s.take c)) = cnt (s.take c) := by
  have hL : 1 ≤ s.length := by obtain ⟨i, hi, _⟩ := h.room; omega
  have h1 := cnt_le (s.take c)
  have h2 : (s.take c).length ≤ s.length := by simp; omega
  have := refill_spec (home := home) (s.take c) (List.replicate (2 * s.length) none) (ok_replicate hh (by omega)) (by rw [cnt_replicate, List.length_replicate]; omega)
    (fun i j k v w hi hj => by
      rw [at_take] at hi hj
      split at hi
      · split at hj
        · exact h.once i j k v w hi hj
        · cases hj
      · cases hi)
    (fun k v w _ ⟨j, hj⟩ => by rw [at_replicate] at hj; cases hj)
  refine ⟨this.1, fun k v => ?_, by rw [this.2.2, cnt_replicate, Nat.zero_add]⟩
  rw [this.2.1]
  exact ⟨fun h => h.elim (fun ⟨j, hj⟩ => by rw [at_replicate] at hj; cases hj) id, .inr⟩
end
end Go.Proofs.Ytddnlbkocmpffaa.Tab
namespace Go.Proofs.Ytddnlbkocmpffaa.Tab
set_option linter.unusedVariables false
section
variable {K V : Type}
/-- What holds while things are put in anew: slot q is empty, all from p up to it are used, and those alone may not be reached. -/
structure Mid (home : K → Nat → Nat) (s : List (Option (K × V))) (p q : Nat) : Prop where
  home_lt : ∀ k, home k s.length < s.length
  p_lt : p < s.length
  q_lt : q < s.length
  empty : at_ s q = none
  full : run s p (dist s.length p q)
  apart : ∀ j k v, at_ s j = some (k, v) → dist s.length (home k s.length) j < dist s.length (home k s.length) q
  reach : ∀ j k v, at_ s j = some (k, v) → dist s.length p j < dist s.length p q ∨ run s (home k s.length) (dist s.length (home k s.length) j)
  once : ∀ i j k v w, at_ s i = some (k, v) → at_ s j = some (k, w) → i = j
variable {home : K → Nat → Nat} {s : List (Option (K × V))}
theorem Mid.ok {p q : Nat} (h : Mid home s p q) (e : at_ s p = none) : Ok home s := by
  have hpq : p = q := by
    by_cases hpq : p = q
    · exact hpq
    · have := h.full p h.p_lt (by have := h.p_lt; have := h.q_lt; unfold dist; split <;> split <;> omega)
      rw [e] at this
      obtain ⟨y, hy⟩ := this
      cases hy
  subst hpq
  refine ⟨h.home_lt, fun j k v hj => ?_, h.once, ⟨p, h.p_lt, h.empty⟩⟩
  rcases h.reach j k v hj with hr | hr
  · have : dist s.length p p = 0 := by unfold dist; split <;> omega
    omega
  · exact hr
/-- What the first step leaves. -/
theorem Ok.mid (h : Ok home s) {i : Nat} {k : K} {v : V} (e : at_ s i = some (k, v)) :
    ∃ q, Mid home (s.set i none) (nx s.length i) q ∧ (∀ k' v', has (s.set i none) k' v' ↔ has s k' v' ∧ k' ≠ k) ∧ cnt (s.set i none) + 1 = cnt s := by
  have hi := at_lt e
  have hL : (s.set i none).length = s.length := by simp
  have h1 : ∀ j, at_ (s.set i none) j = if i = j then none else at_ s j := fun j => at_set hi none j
  have hnx := nx_eq hi
  have hnl := nx_lt hi
  obtain ⟨q, hq, hq1, hq2⟩ := first_of s.length (fun j => (at_ (s.set i none) j).isNone) (nx s.length i) ⟨i, hi, by simp [h1]⟩
  have hqn : at_ (s.set i none) q = none := by simpa using hq1
  have hqi : q ≠ i := by
    rintro rfl
    obtain ⟨u, hu, hun⟩ := h.room
    have hui : u ≠ q := by rintro rfl; rw [hun] at e; cases e
    have := hq2 u hu (by unfold dist; rw [hnx]; split <;> split <;> split <;> omega)
    rw [h1, if_neg (Ne.symm hui), hun] at this
    cases this
  have hqs : at_ s q = none := by rw [h1, if_neg (Ne.symm hqi)] at hqn; exact hqn
  have used : ∀ x y, at_ s x = some y → i ≠ x → ∃ z, at_ (s.set i none) x = some z := fun x y hx hne => ⟨y, by rw [h1, if_neg hne]; exact hx⟩
  refine ⟨q, ⟨fun k => by rw [hL]; exact h.home_lt k, by rw [hL]; exact hnl, by rw [hL]; exact hq, hqn, ?_, ?_, ?_, ?_⟩, ?_, ?_⟩
  · intro x hx hxd
    rw [hL] at hx hxd
    have := hq2 x hx hxd
    cases e2 : at_ (s.set i none) x with
    | none => rw [e2] at this; cases this
    | some y => exact ⟨y, rfl⟩
  · intro j k' v' hj
    rw [hL]
    rw [h1] at hj
    split at hj
    · cases hj
    · have hjl := at_lt hj
      have hh := h.home_lt k'
      have hqj : q ≠ j := by rintro rfl; rw [hqs] at hj; cases hj
      rcases Nat.lt_or_ge (dist s.length (home k' s.length) j) (dist s.length (home k' s.length) q) with h' | h'
      · exact h'
      · have hlt : dist s.length (home k' s.length) q < dist s.length (home k' s.length) j := by
          revert h'; unfold dist; split <;> split <;> omega
        obtain ⟨y, hy⟩ := h.reach j k' v' hj q hq hlt
        rw [hqs] at hy
        cases hy
  · intro j k' v' hj
    rw [hL]
    rw [h1] at hj
    split at hj
    · cases hj
    · rename_i hij
      have hjl := at_lt hj
      have hh := h.home_lt k'
      have hr := h.reach j k' v' hj
      have hqj : q ≠ j := by rintro rfl; rw [hqs] at hj; cases hj
      by_cases hon : dist s.length (home k' s.length) i < dist s.length (home k' s.length) j
      · left
        rcases Nat.lt_or_ge (dist s.length (nx s.length i) j) (dist s.length (nx s.length i) q) with h' | h'
        · exact h'
        · obtain ⟨y, hy⟩ := hr q hq (by revert hon h'; unfold dist; rw [hnx]; split <;> split <;> split <;> split <;> split <;> split <;> omega)
          rw [hqs] at hy
          cases hy
      · right
        intro x hx hxd
        rw [hL] at hx hxd
        obtain ⟨y, hy⟩ := hr x hx hxd
        exact used x y hy (by rintro rfl; exact hon hxd)
  · intro a b k' v' w' ha hb
    rw [h1] at ha hb
    split at ha
    · cases ha
    · split at hb
      · cases hb
      · exact h.once a b k' v' w' ha hb
  · intro k' v'
    constructor
    · rintro ⟨j, hj⟩
      rw [h1] at hj
      split at hj
      · cases hj
      · rename_i hij
        exact ⟨⟨j, hj⟩, by rintro rfl; exact hij (h.once i j _ v v' e hj)⟩
    · rintro ⟨⟨j, hj⟩, hne⟩
      refine ⟨j, ?_⟩
      rw [h1, if_neg]
      · exact hj
      · rintro rfl; rw [e] at hj; simp only [Option.some.injEq, Prod.mk.injEq] at hj; exact hne hj.1.symm
  · have := cnt_set hi (none : Option (K × V))
    rw [e] at this
    simpa using this
end
section
variable {K V : Type} [DecidableEq K]
/-- The thing in a slot is taken out and put in anew. -/
def again (home : K → Nat → Nat) (s : List (Option (K × V))) (i : Nat) : List (Option (K × V)) :=
  match at_ s i with
  | none => s
  | some (k, v) => put home (s.set i none) k v
/-- From slot i on, so many at most, till one is empty. -/
def mend (home : K → Nat → Nat) : Nat → List (Option (K × V)) → Nat → List (Option (K × V))
  | 0, s, _ => s
  | f + 1, s, i => if (at_ s i).isSome then mend home f (again home s i) (nx s.length i) else s
variable {home : K → Nat → Nat} {s : List (Option (K × V))} {q : Nat}
theorem again_length (i : Nat) : (again home s i).length = s.length := by
  unfold again; split
  · rfl
  · rw [put_length]; simp
theorem Mid.step {p q : Nat} {k : K} {v : V} (h : Mid home s p q) (e : at_ s p = some (k, v)) :
    Mid home (again home s p) (nx s.length p) q ∧ (∀ k' v', has (again home s p) k' v' ↔ has s k' v') ∧ cnt (again home s p) = cnt s ∧ dist s.length p q = dist s.length (nx s.length p) q + 1 ∧
      (∃ i, i < s.length ∧ at_ (s.set p none) i = none) := by
  have hpq : p ≠ q := by rintro rfl; rw [h.empty] at e; cases e
  have hp := h.p_lt
  have hq := h.q_lt
  have hnx := nx_eq hp
  have hd : dist s.length p q = dist s.length (nx s.length p) q + 1 := by unfold dist; rw [hnx]; split <;> split <;> split <;> omega
  have h1 : ∀ j, at_ (s.set p none) j = if p = j then none else at_ s j := fun j => at_set hp none j
  have hL1 : (s.set p none).length = s.length := by simp
  have hno : ∀ w, ¬ has (s.set p none) k w := fun w ⟨j, hj⟩ => by
    rw [h1] at hj
    split at hj
    · cases hj
    · rename_i hne; exact hne (h.once p j k v w e hj)
  have hroom : ∃ i, i < (s.set p none).length ∧ at_ (s.set p none) i = none := ⟨p, by rw [hL1]; exact hp, by rw [h1, if_pos rfl]⟩
  have hhome := h.home_lt k
  obtain ⟨f1, f2, f3⟩ := find_none (home := home) (by rw [hL1]; exact hhome) hroom hno
  have hag : again home s p = (s.set p none).set (find home (s.set p none) k) (some (k, v)) := by unfold again; rw [e]; rfl
  generalize hf : find home (s.set p none) k = f at *
  rw [hL1] at f1 f3
  have hA : ∀ j, at_ (again home s p) j = if f = j then some (k, v) else if p = j then none else at_ s j := fun j => by
    rw [hag, at_set (by rw [hL1]; exact f1), h1]
  have hL : (again home s p).length = s.length := again_length p
  -- the new place lies no further than the old one
  have hfp : dist s.length (home k s.length) f ≤ dist s.length (home k s.length) p := by
    rcases Nat.lt_or_ge (dist s.length (home k s.length) p) (dist s.length (home k s.length) f) with hlt | hge
    · obtain ⟨y, hy⟩ := f3 p (by rw [hL1]; exact hp) (by rw [hL1]; exact hlt)
      rw [h1, if_pos rfl] at hy
      cases hy
    · exact hge
  have hap := h.apart p k v e
  have hfq : f ≠ q := by rintro rfl; omega
  have used : ∀ x y, at_ s x = some y → p ≠ x → ∃ z, at_ (again home s p) x = some z := fun x y hx hne => by
    by_cases ef : f = x
    · exact ⟨_, by rw [hA, if_pos ef]⟩
    · exact ⟨y, by rw [hA, if_neg ef, if_neg hne]; exact hx⟩
  refine ⟨⟨fun k => by rw [hL]; exact h.home_lt k, by rw [hL]; exact nx_lt hp, by rw [hL]; exact hq, ?_, ?_, ?_, ?_, ?_⟩, ?_, ?_, hd, ⟨p, hp, by rw [h1, if_pos rfl]⟩⟩
  · rw [hA, if_neg hfq, if_neg hpq]; exact h.empty
  · intro x hx hxd
    rw [hL] at hx hxd
    have hne : p ≠ x := by
      rintro rfl
      revert hxd; unfold dist; rw [hnx]; split <;> split <;> split <;> omega
    have hxd2 : dist s.length p x < dist s.length p q := by
      revert hxd; unfold dist; rw [hnx]; split <;> split <;> split <;> split <;> split <;> omega
    obtain ⟨y, hy⟩ := h.full x hx hxd2
    exact used x y hy hne
  · intro j k' v' hj
    rw [hL]
    rw [hA] at hj
    split at hj
    · rename_i ej; subst ej
      simp only [Option.some.injEq, Prod.mk.injEq] at hj
      obtain ⟨rfl, rfl⟩ := hj
      omega
    · split at hj
      · cases hj
      · exact h.apart j k' v' hj
  · intro j k' v' hj
    rw [hL]
    rw [hA] at hj
    split at hj
    · rename_i ej; subst ej
      simp only [Option.some.injEq, Prod.mk.injEq] at hj
      obtain ⟨rfl, rfl⟩ := hj
      right
      intro x hx hxd
      rw [hL] at hx hxd
      obtain ⟨y, hy⟩ := f3 x (by rw [hL1]; exact hx) (by rw [hL1]; exact hxd)
      rw [h1] at hy
      split at hy
      · cases hy
      · rename_i hne; exact used x y hy hne
    · rename_i hfj
      split at hj
      · cases hj
      · rename_i hpj
        have hjl := at_lt hj
        have hqj : q ≠ j := by rintro rfl; rw [h.empty] at hj; cases hj
        have keep : dist s.length p j < dist s.length p q → dist s.length (nx s.length p) j < dist s.length (nx s.length p) q := fun hh => by
          revert hh; unfold dist; rw [hnx]; split <;> split <;> split <;> split <;> split <;> omega
        rcases h.reach j k' v' hj with hr | hr
        · exact .inl (keep hr)
        · by_cases hon : dist s.length (home k' s.length) p < dist s.length (home k' s.length) j
          · left
            refine keep ?_
            rcases Nat.lt_or_ge (dist s.length p j) (dist s.length p q) with h' | h'
            · exact h'
            · have hh := h.home_lt k'
              obtain ⟨y, hy⟩ := hr q hq (by revert hon h'; unfold dist; split <;> split <;> split <;> split <;> split <;> omega)
              rw [h.empty] at hy
              cases hy
          · right
            intro x hx hxd
            rw [hL] at hx hxd
            obtain ⟨y, hy⟩ := hr x hx hxd
            exact used x y hy (by rintro rfl; exact hon hxd)
  · intro i j k' v' w' hi hj
    rw [hA] at hi hj
    split at hi <;> split at hj
    · omega
    · simp only [Option.some.injEq, Prod.mk.injEq] at hi
      obtain ⟨rfl, rfl⟩ := hi
      split at hj
      · cases hj
      · rename_i hne; exact absurd (h.once p j k v w' e hj) hne
    · simp only [Option.some.injEq, Prod.mk.injEq] at hj
      obtain ⟨rfl, rfl⟩ := hj
      split at hi
      · cases hi
      · rename_i hne; exact absurd (h.once p i k v v' e hi) hne
    · split at hi
      · cases hi
      · split at hj
        · cases hj
        · exact h.once i j k' v' w' hi hj
  · intro k' v'
    constructor
    · rintro ⟨j, hj⟩
      rw [hA] at hj
      split at hj
      · simp only [Option.some.injEq, Prod.mk.injEq] at hj
        obtain ⟨rfl, rfl⟩ := hj
        exact ⟨p, e⟩
      · split at hj
        · cases hj
        · exact ⟨j, hj⟩
    · rintro ⟨j, hj⟩
      by_cases hpj : p = j
      · subst hpj
        rw [e] at hj
        simp only [Option.some.injEq, Prod.mk.injEq] at hj
        obtain ⟨rfl, rfl⟩ := hj
        exact ⟨f, by rw [hA, if_pos rfl]⟩
      · refine ⟨j, ?_⟩
        rw [hA, if_neg, if_neg hpj]
        · exact hj
        · rintro rfl
          rw [h1, if_neg hpj, hj] at f2
          cases f2
  · have c1 := cnt_set hp (none : Option (K × V))
    have c2 := cnt_set (s := s.set p none) (i := f) (by rw [hL1]; exact f1) (some (k, v))
    rw [e] at c1
    rw [f2] at c2
    rw [hag]
    simp at c1 c2
    omega
theorem mend_length : ∀ (f : Nat) (s : List (Option (K × V))) (i : Nat), (mend home f s i).length = s.length
  | 0, s, i => rfl
  | f + 1, s, i => by
    unfold mend
    split
    · rw [mend_length f, again_length]
    · rfl
theorem mend_spec : ∀ (f p : Nat) (s : List (Option (K × V))), Mid home s p q → dist s.length p q < f →
    Ok home (mend home f s p) ∧ (∀ k' v', has (mend home f s p) k' v' ↔ has s k' v') ∧ cnt (mend home f s p) = cnt s
  | 0, _, _, _, h => by omega
  | f + 1, p, s, h, hf => by
    unfold mend
    cases e : at_ s p with
    | none => exact ⟨by simpa using h.ok e, by simp, by simp⟩
    | some x =>
      obtain ⟨k, v⟩ := x
      obtain ⟨h1, h2, h3, h4, _⟩ := h.step e
      have := mend_spec f (nx s.length p) (again home s p) h1 (by rw [again_length]; omega)
      simp only [Option.isSome_some, if_true]
      exact ⟨this.1, fun k' v' => (this.2.1 k' v').trans (h2 k' v'), by rw [this.2.2, h3]⟩
end
end Go.Proofs.Ytddnlbkocmpffaa.Tab
namespace Go.Proofs.Ytddnlbkocmpffaa
set_option linter.unusedVariables false
/-- By peer, then number. -/
def ltK (a b : Int × Int) : Prop := a.1 < b.1 ∨ (a.1 = b.1 ∧ a.2 < b.2)
instance (a b : Int × Int) : Decidable (ltK a b) := by unfold ltK; infer_instance
theorem ltK_irrefl (a : Int × Int) : ¬ ltK a a := by unfold ltK; omega
theorem ltK_trans {a b c : Int × Int} (h : ltK a b) (k : ltK b c) : ltK a c := by unfold ltK at *; omega
theorem ltK_not {a b c : Int × Int} (h : ¬ ltK a b) (k : ¬ ltK b c) : ¬ ltK a c := by unfold ltK at *; omega
theorem ltK_asymm {a b : Int × Int} (h : ltK a b) : ¬ ltK b a := by unfold ltK at *; omega
theorem ltK_tot {a b : Int × Int} (h : ¬ ltK a b) (k : ¬ ltK b a) : a = b := by
  obtain ⟨p, i⟩ := a
  obtain ⟨q, j⟩ := b
  unfold ltK at *
  simp only at *
  rw [show p = q by omega, show i = j by omega]
/-- Less than, equal, greater. -/
def cmpZ (a b : Int) : Int := if a < b then -1 else if b < a then 1 else 0
/-- The first that is not 0. -/
def orZ : List Int → Int
  | [] => 0
  | x :: l => if x = 0 then orZ l else x
theorem orZ_cons (x : Int) (l : List Int) : orZ (x :: l) = if x = 0 then orZ l else x := rfl
def cmpKy (a b : Int × Int) : Int := orZ [cmpZ a.1 b.1, cmpZ a.2 b.2]
theorem cmpKy_neg (a b : Int × Int) : cmpKy a b < 0 ↔ ltK a b := by
  unfold cmpKy ltK
  rw [orZ_cons, orZ_cons, show orZ [] = 0 from rfl]
  unfold cmpZ
  by_cases h1 : a.1 < b.1
  · simp [h1]
  · by_cases h1' : b.1 < a.1
    · simp [h1, h1']; omega
    · have e1 : a.1 = b.1 := by omega
      by_cases h2 : a.2 < b.2
      · simp [e1, h2]
      · by_cases h2' : b.2 < a.2
        · simp [e1, h2, h2']
        · simp [e1, h2, h2']
/-- Two lists in order that hold the same are the same. -/
theorem sorted_same {l r : List (Int × Int)} (h1 : l.Pairwise ltK) (h2 : r.Pairwise ltK) (h : ∀ k, k ∈ l ↔ k ∈ r) : l = r := by
  have n1 : l.Nodup := h1.imp (by intro a b h e; subst e; exact ltK_irrefl _ h)
  have n2 : r.Nodup := h2.imp (by intro a b h e; subst e; exact ltK_irrefl _ h)
  exact List.Perm.eq_of_pairwise (le := ltK) (by intro a b _ _ h1 h2; exact absurd h2 (ltK_asymm h1)) h1 h2 ((List.perm_ext_iff_of_nodup n1 n2).2 h)
/-- The keys of a row of slots. -/
def keysOf {V : Type} (s : List (Option ((Int × Int) × V))) : List (Int × Int) := s.filterMap fun o => o.map Prod.fst
theorem keys_snoc {V : Type} (s : List (Option ((Int × Int) × V))) (o : Option ((Int × Int) × V)) : keysOf (s ++ [o]) = keysOf s ++ (match o with | none => [] | some (k, _) => [k]) := by
  unfold keysOf
  rw [List.filterMap_append]
  cases o <;> rfl
theorem keys_mem {V : Type} {s : List (Option ((Int × Int) × V))} {k : Int × Int} : k ∈ keysOf s ↔ ∃ v, Tab.has s k v := by
  unfold keysOf
  rw [List.mem_filterMap]
  constructor
  · rintro ⟨o, ho, hk⟩
    cases o with
    | none => cases hk
    | some x =>
      obtain ⟨k', v⟩ := x
      obtain rfl := Option.some.inj hk
      obtain ⟨j, hj⟩ := List.getElem?_of_mem ho
      exact ⟨v, j, by unfold Tab.at_; rw [hj]; rfl⟩
  · rintro ⟨v, j, hj⟩
    unfold Tab.at_ at hj
    cases hs : s[j]? with
    | none => rw [hs] at hj; cases hj
    | some o =>
      rw [hs] at hj
      exact ⟨o, List.mem_of_getElem? hs, by rw [show o = some (k, v) from hj]; rfl⟩
theorem keys_len {V : Type} (s : List (Option ((Int × Int) × V))) : (keysOf s).length = Tab.cnt s := by
  unfold keysOf Tab.cnt
  induction s with
  | nil => rfl
  | cons o s ih =>
    cases o with
    | none => simpa using ih
    | some x => simpa using ih
theorem keys_nodup {V : Type} {s : List (Option ((Int × Int) × V))} (h : ∀ i j k v w, Tab.at_ s i = some (k, v) → Tab.at_ s j = some (k, w) → i = j) : (keysOf s).Nodup := by
  unfold keysOf
  induction s with
  | nil => exact List.nodup_nil
  | cons o s ih =>
    have ih := ih fun i j k v w h1 h2 => by
      have := h (i + 1) (j + 1) k v w h1 h2
      omega
    cases o with
    | none => exact ih
    | some x =>
      obtain ⟨k, v⟩ := x
      refine List.nodup_cons.2 ⟨fun hm => ?_, ih⟩
      obtain ⟨w, j, hj⟩ := keys_mem.1 (show k ∈ keysOf s from hm)
      have := h 0 (j + 1) k v w rfl hj
      omega
/-- Keys put in order. -/
def sortKs (l : List (Int × Int)) : List (Int × Int) := l.mergeSort fun x y => !decide (ltK y x)
theorem sortKs_perm (l : List (Int × Int)) : (sortKs l).Perm l := List.mergeSort_perm _ _
theorem sortKs_mem {l : List (Int × Int)} {k : Int × Int} : k ∈ sortKs l ↔ k ∈ l := (sortKs_perm l).mem_iff
theorem sortKs_len (l : List (Int × Int)) : (sortKs l).length = l.length := (sortKs_perm l).length_eq
theorem sortKs_sorted {l : List (Int × Int)} (hn : l.Nodup) : (sortKs l).Pairwise ltK := by
  have h := List.pairwise_mergeSort (le := fun x y => !decide (ltK y x))
    (by
      intro a b c h1 h2
      simp only [Bool.not_eq_true', decide_eq_false_iff_not] at *
      exact ltK_not h2 h1)
    (by
      intro a b
      simp only [Bool.or_eq_true, Bool.not_eq_true', decide_eq_false_iff_not]
      by_cases h : ltK b a
      · exact .inr (ltK_asymm h)
      · exact .inl h) l
  have hn' : (sortKs l).Nodup := (sortKs_perm l).nodup_iff.2 hn
  have hb := h.and hn'
  exact hb.imp (by
    intro a b h
    obtain ⟨h1, h2⟩ := h
    simp only [Bool.not_eq_true', decide_eq_false_iff_not] at h1
    by_cases hl : ltK a b
    · exact hl
    · exact absurd (ltK_tot hl h1) h2)
end Go.Proofs.Ytddnlbkocmpffaa
namespace Go.Proofs.Ytddnlbkocmpffaa
/-- A number within limits. -/
def clampZ (v lo hi : Int) : Int := if v < lo then lo else if hi < v then hi else v
/-- A number within 0 and the greatest time. -/
def wholeZ (v : Int) : Int := clampZ v 0 1125899906842624
/-- A sum within 0 and the greatest time. -/
def addZ (a b : Int) : Int := wholeZ (wholeZ a + wholeZ b)
theorem wholeZ_bd (v : Int) : 0 ≤ wholeZ v ∧ wholeZ v ≤ 1125899906842624 := by
  unfold wholeZ clampZ; constructor <;> (split <;> (try split) <;> omega)
theorem clampZ_bd (v lo hi : Int) (h : lo ≤ hi) : lo ≤ clampZ v lo hi ∧ clampZ v lo hi ≤ hi := by
  unfold clampZ; constructor <;> (split <;> (try split) <;> omega)
theorem addZ_bd (a b : Int) : 0 ≤ addZ a b ∧ addZ a b ≤ 1125899906842624 := wholeZ_bd _
theorem wholeZ_in {v : Int} (h : 0 ≤ v) (h2 : v ≤ 1125899906842624) : wholeZ v = v := by unfold wholeZ clampZ; rw [if_neg (by omega), if_neg (by omega)]
theorem addZ_in {a b : Int} (ha : 0 ≤ a) (hb : 0 ≤ b) (h : a + b ≤ 1125899906842624) : addZ a b = a + b := by
  unfold addZ; rw [wholeZ_in ha (by omega), wholeZ_in hb (by omega), wholeZ_in (by omega) h]
theorem clampZ_lt {v lo hi : Int} (h : v < lo) : clampZ v lo hi = lo := by unfold clampZ; rw [if_pos h]
theorem clampZ_gt {v lo hi : Int} (h : ¬ v < lo) (h2 : hi < v) : clampZ v lo hi = hi := by unfold clampZ; rw [if_neg h, if_pos h2]
theorem clampZ_in {v lo hi : Int} (h : ¬ v < lo) (h2 : ¬ hi < v) : clampZ v lo hi = v := by unfold clampZ; rw [if_neg h, if_neg h2]
theorem ret_int {k : IntKind} {a b : Int} (h : a = b) : Ending.returned (.int k a) = .returned (.int k b) := by rw [h]
end Go.Proofs.Ytddnlbkocmpffaa
