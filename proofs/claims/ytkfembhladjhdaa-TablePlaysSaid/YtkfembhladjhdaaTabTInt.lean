/- A table of int as a map: what each call does. -/
import Derived.Test.YtkfembhladjhdaaTabYInt
import Derived.Test.YtkfembhladjhdaaTabZInt
namespace Go.Proofs.Ytkfembhladjhdaa.TabInt
open Go.RowKit
set_option linter.unusedVariables false
/-- A table in memory that holds the map m, of n things. -/
def Tb (w : World) (bt bs : Nat) (most n : Int) (m : Int × Int → Option (Int)) : Prop :=
  ∃ s, Mem w bt bs most n s ∧ Tab.Ok home s ∧ (Tab.cnt s : Int) = n ∧ 2 * n ≤ s.length ∧ 8 ≤ s.length ∧ s.length ≤ 400008 ∧ 1 ≤ most ∧ most ≤ 100000 ∧ n ≤ most ∧ bt ≠ bs ∧ ∀ k v, Tab.has s k v ↔ m k = some v
theorem Tb.mod {S : Nat → Prop} {w w' : World} (d : Mod S w w') {bt bs : Nat} {most n : Int} {m : Int × Int → Option (Int)} (h : Tb w bt bs most n m) (h1 : ¬ S bt) (h2 : ¬ S bs) : Tb w' bt bs most n m := by
  obtain ⟨s, h0, hr⟩ := h
  exact ⟨s, h0.mod d h1 h2, hr⟩
theorem Tb.lt {w : World} {bt bs : Nat} {most n : Int} {m : Int × Int → Option (Int)} (h : Tb w bt bs most n m) : bt < w.heap.size ∧ bs < w.heap.size ∧ bt ≠ bs := by
  obtain ⟨s, h0, h1, h2, h3, h4, h5, h6, h7, h8, h9, _⟩ := h
  exact ⟨h0.top.lt, h0.row.lt, h9⟩
theorem Tb.bd {w : World} {bt bs : Nat} {most n : Int} {m : Int × Int → Option (Int)} (h : Tb w bt bs most n m) : 0 ≤ n ∧ n ≤ most ∧ 1 ≤ most ∧ most ≤ 100000 := by
  obtain ⟨s, h0, h1, h2, h3, h4, h5, h6, h7, h8, h9, _⟩ := h
  omega
theorem newT (most : Int) (w : World) (h1 : 1 ≤ most) (h2 : most ≤ 100000) :
    Calls Try.prog 21 #[.int .i64 most] w fun e w' => ∃ bt bs, e = .returned (.tuple #[.pointer (some ⟨bt, 0, none⟩), .int .i64 0]) ∧ Tb w' bt bs most 0 (fun _ => none) ∧ w.heap.size ≤ bt ∧ w.heap.size ≤ bs ∧ Mod (fun _ => False) w w' := by
  refine (newW most w h1 h2).mono ?_
  rintro e w' ⟨bt, bs, rfl, hm, hbs, hbt, hd⟩
  refine ⟨bt, bs, rfl, ⟨_, hm, Tab.ok_replicate (fun k L hL => home_lt k hL) (by omega), by rw [Tab.cnt_replicate]; rfl, by simp, by simp, by simp, h1, h2, by omega, by omega, fun k v => ⟨fun ⟨j, hj⟩ => (by rw [Tab.at_replicate] at hj; cases hj), fun h => (by cases h)⟩⟩, by omega, hbs, hd⟩
/-- What Get answers. -/
def val (o : Option (Int)) : Value := match o with | none => .int .i64 0 | some x => .int .i64 x
theorem getT (bt bs : Nat) (most n : Int) (m : Int × Int → Option (Int)) (p i : Int) (w : World) (h : Tb w bt bs most n m) :
    Calls Try.prog 27 #[.pointer (some ⟨bt, 0, none⟩), .agg #[.int .i64 p, .int .u64 i]] w fun e w' => e = .returned (.tuple #[val (m (p, i)), .bool (m (p, i)).isSome]) ∧ Mod (fun _ => False) w w' := by
  obtain ⟨s, h0, h1, h2, h3, h4, h5, h6, h7, h8, h9, h10⟩ := h
  refine (getW bt bs most n s p i w h0 (by omega) (by omega) h1.room).mono ?_
  rintro e w' ⟨rfl, hd⟩
  refine ⟨?_, hd⟩
  rcases Tab.find_at h1 (p, i) with ⟨v, hv⟩ | ⟨hn, hno⟩
  · rw [hv, (h10 _ _).1 ⟨_, hv⟩]; rfl
  · have : m (p, i) = none := by
      cases e : m (p, i) with
      | none => rfl
      | some v => exact absurd ((h10 _ _).2 e) (hno v)
    rw [hn, this]; rfl
theorem lenT (bt bs : Nat) (most n : Int) (m : Int × Int → Option (Int)) (w : World) (h : Tb w bt bs most n m) :
    Calls Try.prog 26 #[.pointer (some ⟨bt, 0, none⟩)] w fun e w' => e = .returned (.int .i64 n) ∧ w = w' := by
  obtain ⟨s, h0, _⟩ := h
  exact lenW bt bs most n s w h0
theorem putThereT (bt bs : Nat) (most n : Int) (m : Int × Int → Option (Int)) (p i : Int) (x : Int) (w : World) (h : Tb w bt bs most n m) (hm : (m (p, i)).isSome = true) :
    Calls Try.prog 22 #[.pointer (some ⟨bt, 0, none⟩), .agg #[.int .i64 p, .int .u64 i], .int .i64 x] w fun e w' => e = .returned (.int .i64 6) ∧ Mod (fun _ => False) w w' := by
  obtain ⟨s, h0, h1, h2, h3, h4, h5, h6, h7, h8, h9, h10⟩ := h
  obtain ⟨v, hv⟩ := Option.isSome_iff_exists.1 hm
  exact putThere bt bs most n s p i x w h0 h1 (by omega) ((h10 _ _).2 hv)
theorem putFullT (bt bs : Nat) (most n : Int) (m : Int × Int → Option (Int)) (p i : Int) (x : Int) (w : World) (h : Tb w bt bs most n m) (hm : m (p, i) = none) (hn : most ≤ n) :
    Calls Try.prog 22 #[.pointer (some ⟨bt, 0, none⟩), .agg #[.int .i64 p, .int .u64 i], .int .i64 x] w fun e w' => e = .returned (.int .i64 4) ∧ Mod (fun _ => False) w w' := by
  obtain ⟨s, h0, h1, h2, h3, h4, h5, h6, h7, h8, h9, h10⟩ := h
  exact putFull bt bs most n s p i x w h0 h1 (by omega) (fun v hv => by rw [(h10 _ _).1 hv] at hm; cases hm) hn
theorem putNewT (bt bs : Nat) (most n : Int) (m : Int × Int → Option (Int)) (p i : Int) (x : Int) (w : World) (h : Tb w bt bs most n m) (hm : m (p, i) = none) (hn : n < most) :
    Calls Try.prog 22 #[.pointer (some ⟨bt, 0, none⟩), .agg #[.int .i64 p, .int .u64 i], .int .i64 x] w fun e w' => e = .returned (.int .i64 0) ∧ ∃ bq, (bq = bs ∨ w.heap.size ≤ bq) ∧ Tb w' bt bq most (n + 1) (fun k => if k = (p, i) then some x else m k) ∧ Mod (fun k => k = bt ∨ k = bs) w w' := by
  obtain ⟨s, h0, h1, h2, h3, h4, h5, h6, h7, h8, h9, h10⟩ := h
  have habs : ∀ v, ¬ Tab.has s (p, i) v := fun v hv => by rw [(h10 _ _).1 hv] at hm; cases hm
  have hblt := h0.top.lt
  by_cases hg : 2 * (n + 1) ≤ s.length
  · have hf0 := (Tab.find_none (h1.home_lt _) h1.room habs).2.1
    refine (putTail bt bs most n s p i x w h0 (by omega) (by omega) h1.room h9 hf0 hn h7 (by omega) hg).mono ?_
    rintro e w' ⟨rfl, hm', hd⟩
    refine ⟨rfl, bs, .inl rfl, ⟨_, hm', Tab.put_ok h1 habs (by omega), by rw [Tab.put_cnt h1 habs]; omega, by rw [Tab.put_length]; omega, by rw [Tab.put_length]; omega, by rw [Tab.put_length]; omega, h6, h7, by omega, h9, fun k v => ?_⟩, hd⟩
    rw [Tab.put_has h1 habs]
    show _ ↔ (if k = (p, i) then some x else m k) = some v
    by_cases hk : k = (p, i)
    · subst hk
      rw [if_pos rfl]
      exact ⟨fun h => h.elim (fun h => by rw [h.2]) (fun h => absurd h (habs v)), fun h => .inl ⟨rfl, by injection h with h; exact h.symm⟩⟩
    · rw [if_neg hk, h10]
      exact ⟨fun h => h.elim (fun h => absurd h.1 hk) id, .inr⟩
  · refine (putGrow bt bs most n s p i x w h0 h1 (by omega) h9 habs hn h7 (by omega) (by omega)).mono ?_
    rintro e w' ⟨rfl, bq, hbq, hm', hd⟩
    obtain ⟨t1, t2, t3⟩ := Tab.refill_take (home := home) (fun k L hL => home_lt k hL) h1 s.length
    rw [List.take_length] at t1 t2 t3
    have hl2 : (Tab.refill home (List.replicate (2 * s.length) none) s).length = 2 * s.length := by rw [Tab.refill_length, List.length_replicate]
    have habs2 : ∀ v, ¬ Tab.has (Tab.refill home (List.replicate (2 * s.length) none) s) (p, i) v := fun v hv => habs v ((t2 _ _).1 hv)
    have hcl := Tab.cnt_le s
    refine ⟨rfl, bq, .inr hbq, ⟨_, hm', Tab.put_ok t1 habs2 (by omega), by rw [Tab.put_cnt t1 habs2]; omega, by rw [Tab.put_length]; omega, by rw [Tab.put_length]; omega, by rw [Tab.put_length]; omega, h6, h7, by omega, by omega, fun k v => ?_⟩, hd.mono (fun _ _ h => .inl h)⟩
    rw [Tab.put_has t1 habs2, t2]
    show _ ↔ (if k = (p, i) then some x else m k) = some v
    by_cases hk : k = (p, i)
    · subst hk
      rw [if_pos rfl]
      exact ⟨fun h => h.elim (fun h => by rw [h.2]) (fun h => absurd h (habs v)), fun h => .inl ⟨rfl, by injection h with h; exact h.symm⟩⟩
    · rw [if_neg hk, h10]
      exact ⟨fun h => h.elim (fun h => absurd h.1 hk) id, .inr⟩
theorem deleteNoT (bt bs : Nat) (most n : Int) (m : Int × Int → Option (Int)) (p i : Int) (w : World) (h : Tb w bt bs most n m) (hm : m (p, i) = none) :
    Calls Try.prog 31 #[.pointer (some ⟨bt, 0, none⟩), .agg #[.int .i64 p, .int .u64 i]] w fun e w' => e = .returned (.int .i64 5) ∧ Mod (fun _ => False) w w' := by
  obtain ⟨s, h0, h1, h2, h3, h4, h5, h6, h7, h8, h9, h10⟩ := h
  exact deleteNo bt bs most n s p i w h0 h1 (by omega) (fun v hv => by rw [(h10 _ _).1 hv] at hm; cases hm)
theorem deleteT (bt bs : Nat) (most n : Int) (m : Int × Int → Option (Int)) (p i : Int) (w : World) (h : Tb w bt bs most n m) (hm : (m (p, i)).isSome = true) :
    Calls Try.prog 31 #[.pointer (some ⟨bt, 0, none⟩), .agg #[.int .i64 p, .int .u64 i]] w fun e w' => e = .returned (.int .i64 0) ∧ Tb w' bt bs most (n - 1) (fun k => if k = (p, i) then none else m k) ∧ Mod (fun k => k = bt ∨ k = bs) w w' := by
  obtain ⟨s, h0, h1, h2, h3, h4, h5, h6, h7, h8, h9, h10⟩ := h
  obtain ⟨v, hv⟩ := Option.isSome_iff_exists.1 hm
  obtain ⟨R, hR⟩ := (h10 _ _).2 hv
  obtain ⟨q, q1, q2, q3⟩ := h1.mid hR
  have hql := q1.q_lt
  have hpl := q1.p_lt
  rw [List.length_set] at hql hpl
  have hms := Tab.mend_spec (q := q) s.length (Tab.nx s.length R) (s.set R none) q1 (by rw [List.length_set]; unfold Tab.dist; split <;> omega)
  have hlen : (Tab.mend home s.length (s.set R none) (Tab.nx s.length R)).length = s.length := by rw [Tab.mend_length, List.length_set]
  refine (deleteW bt bs most n s p i w h0 h1 (by omega) h9 (by omega) (by omega) hR).mono ?_
  rintro e w' ⟨rfl, hm', hd⟩
  refine ⟨rfl, ⟨_, hm', hms.1, by rw [hms.2.2]; omega, by rw [hlen]; omega, by rw [hlen]; omega, by rw [hlen]; omega, h6, h7, by omega, h9, fun k v => ?_⟩, hd⟩
  rw [hms.2.1, q2]
  show _ ↔ (if k = (p, i) then none else m k) = some v
  by_cases hk : k = (p, i)
  · subst hk
    rw [if_pos rfl]
    exact ⟨fun h => absurd rfl h.2, fun h => by cases h⟩
  · rw [if_neg hk, h10]
    exact ⟨fun h => h.1, fun h => ⟨h, hk⟩⟩
end Go.Proofs.Ytkfembhladjhdaa.TabInt
