/- Ranges that came: plain. -/
import Derived.Test.YtddnlbkocmpffaaZPeeP
import Derived.Test.YtddnlbkocmpffaaZG2
import Derived.Test.YtddnlbkocmpffaaZG1
import Derived.Test.YtddnlbkocmpffaaZG7
import Derived.Deep.QuietTactic
import Derived.BigQuiet
import Derived.StillTailTactics
import Derived.Deep.CutBlock
namespace Go.Proofs.Ytddnlbkocmpffaa
set_option linter.unusedVariables false
def inR (l : List (Int × Int)) (x : Int) : Prop := ∃ r ∈ l, r.1 ≤ x ∧ x < r.2
theorem inR_nil (x : Int) : ¬ inR [] x := fun ⟨_, h, _⟩ => by cases h
theorem inR_cons (r : Int × Int) (l : List (Int × Int)) (x : Int) : inR (r :: l) x ↔ (r.1 ≤ x ∧ x < r.2) ∨ inR l x := by
  constructor
  · rintro ⟨s, h, h2⟩
    rcases List.mem_cons.1 h with rfl | h
    · exact .inl h2
    · exact .inr ⟨s, h, h2⟩
  · rintro (h | ⟨s, h, h2⟩)
    · exact ⟨r, List.mem_cons_self .., h⟩
    · exact ⟨s, List.mem_cons_of_mem _ h, h2⟩
/-- Runs with gaps between, from a point on, up to an end. -/
def RsOk (tot : Int) : Int → List (Int × Int) → Prop
  | lo, [] => lo ≤ tot
  | lo, r :: rs => lo ≤ r.1 ∧ r.1 < r.2 ∧ r.2 ≤ tot ∧ (match rs with | [] => True | s :: _ => r.2 < s.1) ∧ RsOk tot r.2 rs
theorem RsOk.le {tot : Int} : ∀ {l : List (Int × Int)} {lo : Int}, RsOk tot lo l → lo ≤ tot
  | [], _, h => h
  | r :: rs, lo, h => by obtain ⟨h1, h2, h3, -, -⟩ := h; omega
theorem RsOk.down {tot lo lo' : Int} {l : List (Int × Int)} (h : RsOk tot lo l) (hl : lo' ≤ lo) : RsOk tot lo' l := by
  cases l with
  | nil => exact Int.le_trans hl h
  | cons r rs => exact ⟨Int.le_trans hl h.1, h.2⟩
theorem RsOk.lower {tot : Int} : ∀ {l : List (Int × Int)} {lo : Int}, RsOk tot lo l → ∀ x, inR l x → lo ≤ x ∧ x < tot
  | [], _, _, x, hx => (inR_nil x hx).elim
  | r :: rs, lo, h, x, hx => by
    obtain ⟨h1, h2, h3, -, h5⟩ := h
    rcases (inR_cons r rs x).1 hx with hx | hx
    · omega
    · have := h5.lower x hx
      omega
theorem RsOk.mem {tot : Int} : ∀ {l : List (Int × Int)} {lo : Int}, RsOk tot lo l → ∀ r ∈ l, lo ≤ r.1 ∧ r.1 < r.2 ∧ r.2 ≤ tot
  | s :: rs, lo, h, r, hr => by
    obtain ⟨h1, h2, h3, -, h5⟩ := h
    rcases List.mem_cons.1 hr with rfl | hr
    · exact ⟨h1, h2, h3⟩
    · have := h5.mem r hr
      omega
def sumR : List (Int × Int) → Int
  | [] => 0
  | r :: rs => (r.2 - r.1) + sumR rs
theorem sumR_le {tot : Int} : ∀ {l : List (Int × Int)} {lo : Int}, RsOk tot lo l → 0 ≤ sumR l ∧ sumR l ≤ tot - lo
  | [], lo, h => by have := h.le; simp [sumR]; omega
  | r :: rs, lo, h => by
    obtain ⟨h1, h2, h3, -, h5⟩ := h
    have := sumR_le h5
    simp only [sumR]; omega
theorem sumR_full {tot : Int} : ∀ {l : List (Int × Int)} {lo : Int}, RsOk tot lo l → (sumR l = tot - lo ↔ ∀ x, lo ≤ x → x < tot → inR l x)
  | [], lo, h => by
    have := h.le
    simp only [sumR]
    constructor
    · intro h x h1 h2; omega
    · intro h2
      rcases Int.lt_or_le lo tot with h3 | h3
      · exact (inR_nil _ (h2 lo (by omega) h3)).elim
      · omega
  | r :: rs, lo, h => by
    obtain ⟨h1, h2, h3, -, h5⟩ := h
    have ih := sumR_full h5
    have hle := sumR_le h5
    simp only [sumR]
    constructor
    · intro e x e1 e2
      have ha : sumR rs = tot - r.2 := by omega
      rw [inR_cons]
      rcases Int.lt_or_le x r.2 with h6 | h6
      · exact .inl ⟨by omega, h6⟩
      · exact .inr (ih.1 ha x h6 e2)
    · intro hall
      have ha : sumR rs = tot - r.2 := ih.2 fun x e1 e2 => by
        rcases (inR_cons r rs x).1 (hall x (by omega) e2) with h6 | h6
        · omega
        · exact h6
      have hb : lo = r.1 := by
        rcases (inR_cons r rs lo).1 (hall lo (by omega) (by omega)) with h6 | h6
        · omega
        · have := h5.lower lo h6
          omega
      omega
/-- How much of [a, b) is there. -/
def overR (a b : Int) : List (Int × Int) → Int
  | [] => 0
  | r :: rs => max (min r.2 b - max r.1 a) 0 + overR a b rs
theorem overR_le {tot a b : Int} : ∀ {l : List (Int × Int)} {lo : Int}, RsOk tot lo l → 0 ≤ overR a b l ∧ overR a b l ≤ max (b - max a lo) 0
  | [], lo, h => by simp [overR]; omega
  | r :: rs, lo, h => by
    obtain ⟨h1, h2, h3, -, h5⟩ := h
    have := overR_le (a := a) (b := b) h5
    simp only [overR]; omega
theorem overR_full {tot a b : Int} : ∀ {l : List (Int × Int)} {lo : Int}, RsOk tot lo l → (overR a b l = max (b - max a lo) 0 ↔ ∀ x, max a lo ≤ x → x < b → inR l x)
  | [], lo, h => by
    simp only [overR]
    constructor
    · intro h x h1 h2; omega
    · intro h2
      rcases Int.lt_or_le (max a lo) b with h3 | h3
      · exact (inR_nil _ (h2 (max a lo) (by omega) h3)).elim
      · omega
  | r :: rs, lo, h => by
    obtain ⟨h1, h2, h3, -, h5⟩ := h
    have ih := overR_full (a := a) (b := b) h5
    have hle := overR_le (a := a) (b := b) h5
    simp only [overR]
    constructor
    · intro e x e1 e2
      rw [inR_cons]
      rcases Int.lt_or_le x r.2 with h6 | h6
      · exact .inl ⟨by omega, h6⟩
      · exact .inr (ih.1 (by omega) x (by omega) e2)
    · intro hall
      have ha : overR a b rs = max (b - max a r.2) 0 := ih.2 fun x e1 e2 => by
        rcases (inR_cons r rs x).1 (hall x (by omega) e2) with h6 | h6
        · omega
        · exact h6
      rcases Int.lt_or_le (max a lo) b with h7 | h7
      · have hb : r.1 ≤ max a lo := by
          rcases (inR_cons r rs (max a lo)).1 (hall (max a lo) (by omega) h7) with h6 | h6
          · omega
          · have := h5.lower _ h6
            omega
        omega
      · omega
/-- How much of [a, b) is not there. -/
def freshR (l : List (Int × Int)) (a b : Int) : Int := b - a - overR a b l
theorem freshR_pos {tot : Int} {l : List (Int × Int)} {a b : Int} (h : RsOk tot 0 l) (ha : 0 ≤ a) (hab : a ≤ b) : 0 ≤ freshR l a b ∧ freshR l a b ≤ b - a := by
  have := overR_le (a := a) (b := b) h
  unfold freshR; omega
theorem freshR_zero {tot : Int} {l : List (Int × Int)} {a b : Int} (h : RsOk tot 0 l) (ha : 0 ≤ a) (hab : a ≤ b) : freshR l a b = 0 ↔ ∀ x, a ≤ x → x < b → inR l x := by
  have := overR_full (a := a) (b := b) h
  rw [show max a 0 = a by omega] at this
  rw [← this]
  unfold freshR; omega
/-- The first run that does not end ahead of a point. -/
def placeR (a : Int) : List (Int × Int) → Nat → Int
  | [], _ => -1
  | r :: rs, i => if a ≤ r.2 then (i : Int) else placeR a rs (i + 1)
/-- Runs taken in. -/
def mergeR : List (Int × Int) → Int → Int → Nat × Int × Int
  | [], a, b => (0, a, b)
  | r :: rs, a, b => if r.1 ≤ b then ((mergeR rs (min a r.1) (max b r.2)).1 + 1, (mergeR rs (min a r.1) (max b r.2)).2) else (0, a, b)
def addR : List (Int × Int) → Int → Int → List (Int × Int)
  | [], a, b => [(a, b)]
  | r :: rs, a, b => if a ≤ r.2 then (mergeR (r :: rs) a b).2 :: (r :: rs).drop (mergeR (r :: rs) a b).1 else r :: addR rs a b
theorem mergeR_ok {tot : Int} : ∀ {l : List (Int × Int)} {lo a b : Int}, RsOk tot lo l → a < b → b ≤ tot → (∀ r ∈ l, a ≤ r.2) →
    (mergeR l a b).2.1 ≤ a ∧ min a lo ≤ (mergeR l a b).2.1 ∧ b ≤ (mergeR l a b).2.2 ∧ (mergeR l a b).2.2 ≤ tot ∧ (mergeR l a b).1 ≤ l.length ∧
    (∀ s ∈ (l.drop (mergeR l a b).1).head?, (mergeR l a b).2.2 < s.1) ∧
    (∀ x, ((mergeR l a b).2.1 ≤ x ∧ x < (mergeR l a b).2.2 ∨ inR (l.drop (mergeR l a b).1) x) ↔ (a ≤ x ∧ x < b ∨ inR l x))
  | [], lo, a, b, h, hab, hb, hr => ⟨Int.le_refl _, by simp [mergeR]; omega, Int.le_refl _, hb, Nat.le_refl _, fun s hs => by simp [mergeR] at hs, fun x => by simp [mergeR]⟩
  | r :: rs, lo, a, b, h, hab, hb, hr => by
    obtain ⟨h1, h2, h3, h4, h5⟩ := h
    have hra := hr r (List.mem_cons_self ..)
    by_cases hc : r.1 ≤ b
    · have ih := mergeR_ok (lo := r.2) (a := min a r.1) (b := max b r.2) h5 (by omega) (by omega) (fun s hs => by
        have := hr s (List.mem_cons_of_mem _ hs); omega)
      have e : mergeR (r :: rs) a b = ((mergeR rs (min a r.1) (max b r.2)).1 + 1, (mergeR rs (min a r.1) (max b r.2)).2) := by
        conv => lhs; unfold mergeR
        rw [if_pos hc]
      rw [e]
      generalize mergeR rs (min a r.1) (max b r.2) = M at *
      obtain ⟨i1, i2, i3, i4, i5, i6, i7⟩ := ih
      dsimp only
      refine ⟨by omega, by omega, by omega, i4, by simpa using i5, i6, fun x => ?_⟩
      rw [List.drop_succ_cons]
      refine (i7 x).trans ?_
      rw [inR_cons]
      constructor
      · rintro (⟨k1, k2⟩ | k)
        · rcases Int.lt_or_le x a with k3 | k3
          · exact .inr (.inl (by omega))
          · rcases Int.lt_or_le x b with k4 | k4
            · exact .inl ⟨k3, k4⟩
            · exact .inr (.inl (by omega))
        · exact .inr (.inr k)
      · rintro (⟨k1, k2⟩ | ⟨k1, k2⟩ | k)
        · exact .inl (by omega)
        · exact .inl (by omega)
        · exact .inr k
    · have e : mergeR (r :: rs) a b = (0, a, b) := by unfold mergeR; rw [if_neg hc]
      rw [e]
      refine ⟨Int.le_refl _, by simp; omega, Int.le_refl _, hb, Nat.zero_le _, fun s hs => ?_, fun x => by simp⟩
      simp at hs
      subst hs
      simp; omega
theorem RsOk.drop {tot : Int} : ∀ {l : List (Int × Int)} {lo : Int} (k : Nat) {m : Int}, RsOk tot lo l → m ≤ tot → (∀ s ∈ (l.drop k).head?, m < s.1) → RsOk tot m (l.drop k)
  | l, lo, 0, m, h, hm, hs => by
    cases l with
    | nil => exact hm
    | cons r rs => exact ⟨by have := hs r (by simp); omega, h.2⟩
  | [], lo, k + 1, m, h, hm, hs => by simpa using (show RsOk tot m [] from hm)
  | r :: rs, lo, k + 1, m, h, hm, hs => by
    rw [List.drop_succ_cons] at hs ⊢
    exact RsOk.drop k h.2.2.2.2 hm hs
theorem RsOk.ends {tot : Int} : ∀ {l : List (Int × Int)} {lo : Int}, RsOk tot lo l → ∀ r ∈ l, lo ≤ r.2 := fun h r hr => by
  have := h.mem r hr; omega
theorem addR_ok {tot : Int} : ∀ {l : List (Int × Int)} {lo a b : Int}, RsOk tot lo l → a < b → b ≤ tot → RsOk tot (min a lo) (addR l a b) ∧ (∀ s ∈ (addR l a b).head?, s.1 ≤ a ∧ ∀ r ∈ l.head?, min a r.1 ≤ s.1) ∧ ∀ x, inR (addR l a b) x ↔ (a ≤ x ∧ x < b ∨ inR l x)
  | [], lo, a, b, h, hab, hb => by
    refine ⟨⟨by simp; omega, hab, hb, trivial, hb⟩, fun s hs => ?_, fun x => by simp [addR, inR_cons]⟩
    simp [addR] at hs
    subst hs
    exact ⟨Int.le_refl _, fun r hr => by simp at hr⟩
  | r :: rs, lo, a, b, h, hab, hb => by
    have h0 := h
    obtain ⟨h1, h2, h3, h4, h5⟩ := h
    unfold addR
    split
    · rename_i hc
      have hr0 : RsOk tot r.1 (r :: rs) := ⟨Int.le_refl _, h0.2⟩
      have hm := mergeR_ok (lo := r.1) hr0 hab hb (fun s hs => by
        rcases List.mem_cons.1 hs with rfl | hs
        · exact hc
        · have := h5.mem s hs; omega)
      generalize mergeR (r :: rs) a b = M at *
      obtain ⟨i1, i2, i3, i4, i5, i6, i7⟩ := hm
      refine ⟨⟨by omega, by omega, i4, ?_, RsOk.drop _ h0 (by omega) i6⟩, fun s hs => ?_, fun x => ?_⟩
      · generalize (r :: rs).drop M.1 = D at *
        cases D with
        | nil => trivial
        | cons s _ => exact i6 s (by simp)
      · simp at hs
        subst hs
        exact ⟨i1, fun q hq => by simp at hq; subst hq; exact i2⟩
      · rw [inR_cons]; exact i7 x
    · rename_i hc
      obtain ⟨j1, j2, j3⟩ := addR_ok h5 hab hb
      refine ⟨⟨by omega, h2, h3, ?_, ?_⟩, fun s hs => ?_, fun x => ?_⟩
      · generalize hA : addR rs a b = A at *
        cases A with
        | nil => trivial
        | cons s _ =>
          have h6 := (j2 s (by simp)).2
          cases rs with
          | nil =>
            simp [addR] at hA
            rw [← hA.1]; simp; omega
          | cons q _ =>
            have := h6 q (by simp)
            have : r.2 < q.1 := h4
            show r.2 < s.1
            omega
      · generalize hA : addR rs a b = A at *
        cases A with
        | nil => exact h3
        | cons s _ =>
          have h6 := (j2 s (by simp)).2
          refine ⟨?_, j1.2⟩
          cases rs with
          | nil =>
            simp [addR] at hA
            rw [← hA.1]; simp; omega
          | cons q _ =>
            have := h6 q (by simp)
            have : r.2 < q.1 := h4
            omega
      · simp at hs
        subst hs
        exact ⟨by omega, fun q hq => by simp at hq; subst hq; omega⟩
      · rw [inR_cons, inR_cons, j3 x]
        constructor
        · rintro (k | k | k)
          · exact .inr (.inl k)
          · exact .inl k
          · exact .inr (.inr k)
        · rintro (k | k | k)
          · exact .inr (.inl k)
          · exact .inl k
          · exact .inr (.inr k)
theorem addR_len : ∀ (l : List (Int × Int)) (a b : Int), (addR l a b).length ≤ l.length + 1
  | [], a, b => by simp [addR]
  | r :: rs, a, b => by
    unfold addR
    split
    · simp only [List.length_cons, List.length_drop]; omega
    · have := addR_len rs a b
      simp; omega
/-- What the program makes of it. -/
theorem addR_put : ∀ (l : List (Int × Int)) (a b : Int), ∃ i, i ≤ l.length ∧ (∀ z : Nat, placeR a l z = if i < l.length then ((z + i : Nat) : Int) else -1) ∧ addR l a b = l.take i ++ (mergeR (l.drop i) a b).2 :: l.drop (i + (mergeR (l.drop i) a b).1)
  | [], a, b => ⟨0, Nat.le_refl _, fun z => by simp [placeR], by simp [addR, mergeR]⟩
  | r :: rs, a, b => by
    by_cases hc : a ≤ r.2
    · exact ⟨0, Nat.zero_le _, fun z => by simp [placeR, hc], by unfold addR; rw [if_pos hc]; simp⟩
    · obtain ⟨i, h1, h2, h3⟩ := addR_put rs a b
      refine ⟨i + 1, by simpa using h1, fun z => ?_, ?_⟩
      · unfold placeR
        rw [if_neg hc, h2 (z + 1)]
        by_cases hi : i < rs.length
        · rw [if_pos hi, if_pos (by simpa using hi)]; congr 1; omega
        · rw [if_neg hi, if_neg (by simpa using hi)]
      · unfold addR
        rw [if_neg hc, h3]
        simp only [List.take_succ_cons, List.drop_succ_cons, List.cons_append]
        congr 3
        rw [show i + 1 + (mergeR (rs.drop i) a b).1 = (i + (mergeR (rs.drop i) a b).1) + 1 by omega, List.drop_succ_cons]
end Go.Proofs.Ytddnlbkocmpffaa
namespace Go.Proofs.Ytddnlbkocmpffaa
open Go.RowKit
set_option linter.unusedVariables false
set_option maxHeartbeats 4000000
set_option maxRecDepth 100000
theorem RsOk.len {tot : Int} : ∀ {l : List (Int × Int)} {lo : Int}, RsOk tot lo l → (l.length : Int) ≤ tot - lo
  | [], lo, h => by have := h.le; simp; omega
  | r :: rs, lo, h => by
    obtain ⟨h1, h2, h3, h4, h5⟩ := h
    have := h5.len
    simp; omega
/-- A set in memory. -/
structure SetB (w : World) (B sb : Nat) (tot : Int) (v : Value) (l : List (Int × Int)) : Prop where
  blk : Blk w sb 154 #[.int .i64 tot, v]
  own : Own w B 131 2 encR v l
  apart : v.ownBlock ≠ some sb
  base : B ≤ sb
  ok : RsOk tot 0 l
  most : tot ≤ 1000000
theorem SetB.mod {S : Nat → Prop} {w w' : World} {B sb : Nat} {tot : Int} {v : Value} {l : List (Int × Int)} (h : SetB w B sb tot v l) (m : Mod S w w') (h1 : ¬ S sb) (h2 : ∀ k, v.ownBlock = some k → ¬ S k) : SetB w' B sb tot v l :=
  ⟨h.blk.mod m h1, h.own.mod m h2, h.apart, h.base, h.ok, h.most⟩
theorem SetB.len {w : World} {B sb : Nat} {tot : Int} {v : Value} {l : List (Int × Int)} (h : SetB w B sb tot v l) : l.length ≤ 1000000 := by
  have := h.ok.len
  have := h.most
  omega
theorem setNewW (tot : Int) (w : World) (h1 : 0 ≤ tot) (h2 : tot ≤ 1000000) :
    Calls Try.prog 79 #[.int .i64 tot] w fun e w' => e = .returned (.tuple #[.pointer (some ⟨w.heap.size, 0, none⟩), .int .i64 0]) ∧ SetB w' w.heap.size w.heap.size tot (.slice none 0 0) [] ∧ w'.heap.size = w.heap.size + 1 ∧ Mod (fun _ => False) w w' := by
  have hb := Blk.new w 154 #[.int .i64 tot, .slice none 0 0]
  have HF := Lib.hid (⟨hb, Own.nil, fun e => by simp [Value.ownBlock] at e, Nat.le_refl _, h1, h2⟩ : SetB (w.alloc (.cells #[.int .i64 tot, .slice none 0 0] 154)) w.heap.size w.heap.size tot (.slice none 0 0) [])
  have HM := Lib.hid ((Mod.refl (fun _ => False) w).alloc (.cells #[.int .i64 tot, .slice none 0 0] 154))
  have h1d : ¬ tot < 0 := by omega
  have h2d : ¬ 1073741824 < tot := by omega
  clear hb h1 h2
  go_enter Try.func79, Try.ntmps79
  go_wp2
  go_ret2
  exact ⟨rfl, HF.out, by simp, HM.out⟩
/-- A range that may be. -/
theorem mayW (sb : Nat) (tot a b : Int) (w : World) (c0 : w.cell? ⟨sb, 0, none⟩ = some (.int .i64 tot)) (h1 : 0 ≤ a) (h2 : a ≤ b) (h3 : b ≤ tot) :
    Calls Try.prog 83 #[.pointer (some ⟨sb, 0, none⟩), .int .i64 a, .int .i64 b] w fun e w' => e = .returned (.bool true) ∧ w = w' := by
  go_enter Try.func83, Try.ntmps83
  go_wp2
  go_ret
  exact ⟨by simp, rfl⟩
theorem rangesW (sb B : Nat) (tot : Int) (v : Value) (l : List (Int × Int)) (w : World) (h : SetB w B sb tot v l) :
    Calls Try.prog 62 #[.pointer (some ⟨sb, 0, none⟩)] w fun e w' => ∃ v', e = .returned v' ∧ Own w' w.heap.size 131 2 encR v' l ∧ Mod (fun _ => False) w w' := by
  have c1 : w.cell? ⟨sb, 1, none⟩ = some v := h.blk.cell 1
  have HC := Lib.hid (SlR.cloneW v l w h.own.has h.len)
  obtain ⟨A, cap, rfl, -, -⟩ := h.own.form
  clear h
  go_enter Try.func62, Try.ntmps62
  go_wp2_with fail
  refine HC.out.mono ?_
  rintro e w2 ⟨v', rfl, h1, m1⟩
  have H1 := Lib.hid h1
  have M1 := Lib.hid m1
  clear h1 m1
  go_wp2_with fail
  go_ret
  exact ⟨_, rfl, H1.out, M1.out⟩
theorem sumR_snoc : ∀ (l : List (Int × Int)) (r : Int × Int), sumR (l ++ [r]) = sumR l + (r.2 - r.1)
  | [], r => by simp [sumR]
  | s :: rs, r => by simp only [List.cons_append, sumR, sumR_snoc rs r]; omega
theorem overR_snoc (a b : Int) : ∀ (l : List (Int × Int)) (r : Int × Int), overR a b (l ++ [r]) = overR a b l + max (min r.2 b - max r.1 a) 0
  | [], r => by simp [overR]
  | s :: rs, r => by simp only [List.cons_append, overR, overR_snoc a b rs r]; omega
theorem RsOk.take {tot : Int} : ∀ {l : List (Int × Int)} {lo : Int} (k : Nat), RsOk tot lo l → RsOk tot lo (l.take k)
  | l, lo, 0, h => h.le
  | [], lo, k + 1, h => h
  | r :: rs, lo, k + 1, h => by
    rw [List.take_succ_cons]
    refine ⟨h.1, h.2.1, h.2.2.1, ?_, RsOk.take k h.2.2.2.2⟩
    cases rs with
    | nil => simp
    | cons s q =>
      cases k with
      | zero => trivial
      | succ k => exact h.2.2.2.1
theorem sumW (sb B : Nat) (tot : Int) (v : Value) (l : List (Int × Int)) (w : World) (h : SetB w B sb tot v l) :
    Calls Try.prog 88 #[.pointer (some ⟨sb, 0, none⟩)] w fun e w' => e = .returned (.int .i64 (sumR l)) ∧ Mod (fun _ => False) w w' := by
  have HR := Lib.hid (rangesW sb B tot v l w h)
  have HOK := Lib.hid h.ok
  have hmo := h.most
  have hln := h.len
  obtain ⟨n, hn⟩ : ∃ n, l.length = n := ⟨_, rfl⟩
  rw [hn] at hln
  have HN := Lib.hid hn
  clear h hn
  go_enter Try.func88, Try.ntmps88
  go_wp2_with fail
  refine HR.out.mono ?_
  rintro e w2 ⟨v', rfl, h1, m1⟩
  obtain ⟨A, cap, rfl, -, hA⟩ := h1.form
  rw [HN.out] at h1 ⊢
  have H1 := Lib.hid h1
  have M1 := Lib.hid m1
  have HA := Lib.hid hA
  clear h1 m1 hA
  go_wp2_with fail
  go_loopw [8, 2] (fun q s wr => ∃ k : Nat, q = .int .i64 k ∧ k ≤ n ∧ s = .int .i64 (sumR (l.take k)) ∧ Mod (fun _ => False) w2 wr) (fun q _ _ => n - (intOf q).toNat)
  case atStart => exact ⟨0, rfl, by omega, rfl, Mod.refl _ _⟩
  case round =>
    obtain ⟨k, rfl, hk, rfl, hmr⟩ := hrel
    by_cases hkn : k < n
    · have hkx : k < l.length := by rw [HN.out]; exact hkn
      have hkz : (k : Int) < (n : Int) := by omega
      have hkz0 : (0 : Int) ≤ (k : Int) := by omega
      have hkd : decide ((k : Int) < (n : Int)) = true := by simpa using hkz
      have hx? := List.getElem?_eq_getElem hkx
      obtain ⟨g, rfl⟩ : ∃ g, A = some ⟨g, 0, none⟩ := by
        rcases HA.out with ⟨_, hnil, _⟩ | ⟨g, e, _⟩
        · rw [hnil] at hkx; simp at hkx
        · exact ⟨g, e⟩
      have hown := H1.out.mod hmr (fun _ _ e => e)
      have c1 : wr.cell? ⟨g, k * 2, none⟩ = some (.int .i64 (l[k]'hkx).1) := by
        have := hown.cell encR_len hx? (j := 0) (by omega)
        simpa using this
      have c2 : wr.cell? ⟨g, k * 2 + 1, none⟩ = some (.int .i64 (l[k]'hkx).2) := by
        have := hown.cell encR_len hx? (j := 1) (by omega)
        simpa using this
      have hsn := sumR_snoc (l.take k) (l[k]'hkx)
      rw [← List.take_succ_eq_append_getElem hkx] at hsn
      have hb0 := sumR_le (HOK.out.take k)
      have hb1 := sumR_le (HOK.out.take (k + 1))
      have hxm := HOK.out.mem _ (List.getElem_mem hkx)
      have hgl := block_lt_of_cell c1
      generalize l[k]'hkx = x at *
      obtain ⟨x1, x2⟩ := x
      simp only at c1 c2 hsn hxm hgl
      have HS := Lib.hid hsn
      have HM := Lib.hid (hmr.alloc (.cells #[.int .i64 x1, .int .i64 x2] 131))
      rw [hsn] at hb1
      obtain ⟨sk, hsk⟩ : ∃ sk, sumR (l.take k) = sk := ⟨_, rfl⟩
      rw [hsk] at hb1 hb0 HS ⊢
      have hw1 : IntKind.i64.wrap (x2 - x1) = x2 - x1 := by rw [IntKind.wrap_i64]; omega
      have hw2 : IntKind.i64.wrap (sk + (x2 - x1)) = sk + (x2 - x1) := by rw [IntKind.wrap_i64]; omega
      clear hx? hown hsn hmr hkx hsk
      go_wp2_with fail
      go_roundw
      case rel => exact ⟨k + 1, by go_num, by omega, by rw [HS.out], HM.out⟩
      case measure => simp [intOf]; omega
    · obtain rfl : k = n := by omega
      have hkz : ¬ (k : Int) < (k : Int) := by omega
      have hlk : l.take k = l := by rw [← HN.out]; exact List.take_length
      rw [hlk]
      have HM := Lib.hid (M1.out.trans hmr (fun _ _ e => e))
      clear hmr hlk
      go_wp2_with fail
      go_ret
      exact ⟨rfl, HM.out⟩
end Go.Proofs.Ytddnlbkocmpffaa
namespace Go.Proofs.Ytddnlbkocmpffaa
open Go.RowKit
set_option linter.unusedVariables false
set_option maxHeartbeats 4000000
set_option maxRecDepth 100000
theorem freshW (sb B : Nat) (tot a b : Int) (v : Value) (l : List (Int × Int)) (w : World) (h : SetB w B sb tot v l) (h1 : 0 ≤ a) (h2 : a ≤ b) (h3 : b ≤ tot) :
    Calls Try.prog 84 #[.pointer (some ⟨sb, 0, none⟩), .int .i64 a, .int .i64 b] w fun e w' => e = .returned (.int .i64 (freshR l a b)) ∧ Mod (fun _ => False) w w' := by
  have hmo := h.most
  have hln := h.len
  have HM := Lib.hid (mayW sb tot a b w (h.blk.cell 0) h1 h2 h3)
  have c1 : w.cell? ⟨sb, 1, none⟩ = some v := h.blk.cell 1
  have HOK := Lib.hid h.ok
  have H1 := Lib.hid h.own
  obtain ⟨A, cap, rfl, -, hA⟩ := h.own.form
  obtain ⟨n, hn⟩ : ∃ n, l.length = n := ⟨_, rfl⟩
  rw [hn] at hln c1 H1
  have HN := Lib.hid hn
  have HA := Lib.hid hA
  have hwz : IntKind.i64.wrap (b - a) = b - a := by rw [IntKind.wrap_i64]; omega
  obtain ⟨F, hF⟩ : ∃ F, freshR l a b = F := ⟨_, rfl⟩
  rw [hF]
  have HF := Lib.hid hF
  clear h hn hA hF
  go_enter Try.func84, Try.ntmps84
  go_wp2_with fail
  refine HM.out.mono ?_
  rintro e w2 ⟨rfl, rfl⟩
  go_wp2_with fail
  go_loopw [23, 7] (fun q s wr => ∃ (k : Nat) (z : Int), q = .int .i64 k ∧ k ≤ n ∧ s = .int .i64 z ∧ Hid (z = b - a - overR a b (l.take k)) ∧ Mod (fun _ => False) w wr) (fun q _ _ => n - (intOf q).toNat)
  case atStart => exact ⟨0, b - a, rfl, by omega, rfl, Lib.hid (by simp [overR]), Mod.refl _ _⟩
  case round =>
    obtain ⟨k, z, rfl, hk, rfl, hz, hmr⟩ := hrel
    clear c1
    by_cases hkn : k < n
    · have hkx : k < l.length := by rw [HN.out]; exact hkn
      have hkz : (k : Int) < (n : Int) := by omega
      have hkz0 : (0 : Int) ≤ (k : Int) := by omega
      have hkd : decide ((k : Int) < (n : Int)) = true := by simpa using hkz
      have hx? := List.getElem?_eq_getElem hkx
      obtain ⟨g, rfl⟩ : ∃ g, A = some ⟨g, 0, none⟩ := by
        rcases HA.out with ⟨_, hnil, _⟩ | ⟨g, e, _⟩
        · rw [hnil] at hkx; simp at hkx
        · exact ⟨g, e⟩
      have hown := H1.out.mod hmr (fun _ _ e => e)
      have c1 : wr.cell? ⟨g, k * 2, none⟩ = some (.int .i64 (l[k]'hkx).1) := by
        have := hown.cell encR_len hx? (j := 0) (by omega)
        simpa using this
      have c2 : wr.cell? ⟨g, k * 2 + 1, none⟩ = some (.int .i64 (l[k]'hkx).2) := by
        have := hown.cell encR_len hx? (j := 1) (by omega)
        simpa using this
      have hsn := overR_snoc a b (l.take k) (l[k]'hkx)
      rw [← List.take_succ_eq_append_getElem hkx] at hsn
      have hb0 := overR_le (a := a) (b := b) (HOK.out.take k)
      have hxm := HOK.out.mem _ (List.getElem_mem hkx)
      have hgl := block_lt_of_cell c1
      generalize l[k]'hkx = x at *
      obtain ⟨x1, x2⟩ := x
      simp only at c1 c2 hsn hxm hgl
      have HM := Lib.hid (hmr.alloc (.cells #[.int .i64 x1, .int .i64 x2] 131))
      have hzb : -1000000 ≤ z ∧ z ≤ 1000000 := by have := hz.out; omega
      have hu1 : IntKind.i64.wrap (x2 - x1) = x2 - x1 := by rw [IntKind.wrap_i64]; omega
      have hu2 : IntKind.i64.wrap (x2 - a) = x2 - a := by rw [IntKind.wrap_i64]; omega
      have hu3 : IntKind.i64.wrap (b - x1) = b - x1 := by rw [IntKind.wrap_i64]; omega
      have hv0 : IntKind.i64.wrap z = z := by rw [IntKind.wrap_i64]; omega
      have hv1 : IntKind.i64.wrap (z - (x2 - x1)) = z - (x2 - x1) := by rw [IntKind.wrap_i64]; omega
      have hv2 : IntKind.i64.wrap (z - (x2 - a)) = z - (x2 - a) := by rw [IntKind.wrap_i64]; omega
      have hv3 : IntKind.i64.wrap (z - (b - x1)) = z - (b - x1) := by rw [IntKind.wrap_i64]; omega
      have hv4 : IntKind.i64.wrap (z - (b - a)) = z - (b - a) := by rw [IntKind.wrap_i64]; omega
      have HS := Lib.hid (show b - a - overR a b (l.take (k + 1)) = z - max (min x2 b - max x1 a) 0 by rw [hsn, hz.out]; omega)
      clear hx? hown hsn hmr hkx hz hb0 hzb
      have hsp1 : b < x2 ∨ ¬ b < x2 := by omega
      have hsp2 : x1 < a ∨ ¬ x1 < a := by omega
      have hsp3 : (min x2 b - max x1 a < 0 ∧ min x2 b < max x1 a) ∨ (¬ min x2 b - max x1 a < 0 ∧ ¬ min x2 b < max x1 a) := by omega
      rcases hsp1 with hp1 | hp1
      all_goals rcases hsp2 with hp2 | hp2
      all_goals rcases hsp3 with hp3 | hp3
      all_goals
        first
          | rw [show min x2 b = b by omega] at hp3
          | rw [show min x2 b = x2 by omega] at hp3
        first
          | rw [show max x1 a = a by omega] at hp3
          | rw [show max x1 a = x1 by omega] at hp3
        obtain ⟨hp3, hp4⟩ := hp3
      all_goals try (exfalso; omega)
      all_goals
        have HP1 := Lib.hid hp1
        have HP2 := Lib.hid hp2
        have HP3 := Lib.hid hp3
        go_wp2_with fail
        go_roundw
        case rel => exact ⟨k + 1, _, by go_num, by omega, rfl, Lib.hid (by rw [HS.out]; have := HP1.out; have := HP2.out; have := HP3.out; omega), HM.out⟩
        case measure => simp [intOf]; omega
    · obtain rfl : k = n := by omega
      have hkz : ¬ (k : Int) < (k : Int) := by omega
      have hlk : l.take k = l := by rw [← HN.out]; exact List.take_length
      rw [hlk] at hz
      obtain rfl : z = F := by rw [← HF.out]; exact hz.out
      have HM := Lib.hid hmr
      clear hmr hlk hz
      go_wp2_with fail
      go_ret
      exact ⟨rfl, HM.out⟩
theorem fullW (sb B : Nat) (tot : Int) (v : Value) (l : List (Int × Int)) (w : World) (h : SetB w B sb tot v l) :
    Calls Try.prog 65 #[.pointer (some ⟨sb, 0, none⟩)] w fun e w' => e = .returned (.bool (decide (sumR l = tot))) ∧ Mod (fun _ => False) w w' := by
  have HS := Lib.hid (fun x : Later w => sumW sb B tot v l x.world (h.mod x.mod (fun e => e) (fun _ _ e => e)))
  have hc : ∀ x : Later w, x.world.cell? ⟨sb, 0, none⟩ = some (.int .i64 tot) := fun x => (h.blk.later x).cell 0
  have hbl := h.blk.lt
  obtain ⟨R, hR⟩ : ∃ R, decide (sumR l = tot) = R := ⟨_, rfl⟩
  rw [hR]
  generalize sumR l = s at *
  have hd : (s == tot) = R := by rw [← hR]; rfl
  clear h hR
  go_enter Try.func65, Try.ntmps65
  go_upto_region 1 with fail
  refine region_later (by kernel_rfl) (by kernel_rfl) ?_
  repeat (go_big_quiet_step ((go_at_call 88; exact later_call (HS.out _))))
  refine wpQuiet_nil ?_
  intro _ hw'
  obtain ⟨y, hw''⟩ := hw'
  subst hw''
  have HM := Lib.hid y.mod
  go_wp2_with fail
  go_ret
  exact ⟨rfl, HM.out⟩
end Go.Proofs.Ytddnlbkocmpffaa
namespace Go.Proofs.Ytddnlbkocmpffaa
open Go.RowKit
set_option linter.unusedVariables false
set_option maxHeartbeats 4000000
set_option maxRecDepth 100000
theorem clAddW (x1 x2 a : Int) (fb : Nat) (w : World) (hf : w.cell? ⟨fb, 0, none⟩ = some (.int .i64 a)) :
    Calls Try.prog 86 #[.agg #[.int .i64 x1, .int .i64 x2], .pointer (some ⟨fb, 0, none⟩)] w fun e w' => e = .returned (.bool (decide (a ≤ x2))) ∧ Mod (fun _ => False) w w' := by
  have hfb := block_lt_of_cell hf
  simp only at hfb
  have HM := Lib.hid ((Mod.refl (fun _ => False) w).alloc (.cells #[.int .i64 x1, .int .i64 x2] 131))
  go_enter Try.func86, Try.ntmps86
  go_wp2_with fail
  go_ret
  exact ⟨rfl, HM.out⟩
theorem idxRW (v : Value) (l : List (Int × Int)) (a : Int) (fb B : Nat) (w : World) (h : Own w B 131 2 encR v l) (hl : l.length ≤ 1000000) (hf : w.cell? ⟨fb, 0, none⟩ = some (.int .i64 a)) :
    Calls Try.prog 85 #[v, .func (.func 86) #[] #[.pointer (some ⟨fb, 0, none⟩)]] w fun e w' => e = .returned (.int .i64 (placeR a l 0)) ∧ Mod (fun _ => False) w w' := by
  obtain ⟨A, cap, rfl, -, hA⟩ := h.form
  have hfb := block_lt_of_cell hf
  simp only at hfb
  have HF := Lib.hid hf
  obtain ⟨R, hR⟩ : ∃ R, placeR a l 0 = R := ⟨_, rfl⟩
  rw [hR]
  have HR := Lib.hid hR
  obtain ⟨n, hn⟩ : ∃ n, l.length = n := ⟨_, rfl⟩
  rw [hn] at hl h ⊢
  have HN := Lib.hid hn
  have H1 := Lib.hid h
  have HA := Lib.hid hA
  clear h hf hR hn hA
  go_enter Try.func85, Try.ntmps85
  go_wp2_with fail
  go_loopw [8] (fun i wr => ∃ q : Nat, i = .int .i64 q ∧ q ≤ n ∧ Hid (placeR a (l.drop q) q = R) ∧ Mod (fun _ => False) w wr) (fun i _ => n - (RowKit.intOf i).toNat)
  case atStart => exact ⟨0, rfl, by omega, HR, Mod.refl _ _⟩
  case round =>
    obtain ⟨k, rfl, hk, hrel, hmr⟩ := hrel
    by_cases hkn : k < n
    · have hkx : k < l.length := by rw [HN.out]; exact hkn
      have hkz : (k : Int) < (n : Int) := by omega
      have hkz0 : (0 : Int) ≤ (k : Int) := by omega
      have hkd : decide ((k : Int) < (n : Int)) = true := by simpa using hkz
      have hx? := List.getElem?_eq_getElem hkx
      have hdr := List.drop_eq_getElem_cons hkx
      obtain ⟨g, rfl⟩ : ∃ g, A = some ⟨g, 0, none⟩ := by
        rcases HA.out with ⟨_, hnil, _⟩ | ⟨g, e, _⟩
        · rw [hnil] at hkx; simp at hkx
        · exact ⟨g, e⟩
      have hown := H1.out.mod hmr (fun _ _ e => e)
      have c1 : wr.cell? ⟨g, k * 2, none⟩ = some (.int .i64 (l[k]'hkx).1) := by
        have := hown.cell encR_len hx? (j := 0) (by omega)
        simpa using this
      have c2 : wr.cell? ⟨g, k * 2 + 1, none⟩ = some (.int .i64 (l[k]'hkx).2) := by
        have := hown.cell encR_len hx? (j := 1) (by omega)
        simpa using this
      rw [hdr] at hrel
      generalize l[k]'hkx = x at *
      obtain ⟨x1, x2⟩ := x
      have hrel' : Hid ((if a ≤ x2 then (k : Int) else placeR a (l.drop (k + 1)) (k + 1)) = R) := hrel
      simp only at c1 c2
      have HCL := Lib.hid (clAddW x1 x2 a fb wr ((hmr.cell (p := ⟨fb, 0, none⟩) hfb (fun e => e)).trans HF.out))
      have HM := Lib.hid hmr
      clear hx? hown hmr hkx hdr hrel
      go_wp2_with fail
      refine HCL.out.mono ?_
      rintro e w5 ⟨rfl, m5⟩
      have HM5 := Lib.hid (HM.out.trans m5 (fun _ _ e => e))
      clear m5 c1 c2
      by_cases hp : a ≤ x2
      · have hrr := hrel'.out
        rw [if_pos hp] at hrr
        rw [decide_eq_true hp]
        clear hrel' hp HR
        subst hrr
        go_wp2_with fail
        go_ret
        exact ⟨rfl, HM5.out⟩
      · have hrr := hrel'.out
        rw [if_neg hp] at hrr
        have HRR := Lib.hid hrr
        rw [decide_eq_false hp]
        clear hrel' hp hrr
        go_wp2_with fail
        go_roundw
        case rel => exact ⟨k + 1, by go_num, by omega, HRR, HM5.out⟩
        case measure => simp [intOf]; omega
    · obtain rfl : k = n := by omega
      have hkz : ¬ (k : Int) < (k : Int) := by omega
      have hdn : l.drop k = [] := List.drop_eq_nil_of_le (by rw [HN.out]; exact Nat.le_refl _)
      rw [hdn] at hrel
      obtain rfl : R = -1 := hrel.out.symm
      have HM := Lib.hid hmr
      clear hmr hdn hrel HR
      go_wp2_with fail
      go_ret
      exact ⟨rfl, HM.out⟩
end Go.Proofs.Ytddnlbkocmpffaa
