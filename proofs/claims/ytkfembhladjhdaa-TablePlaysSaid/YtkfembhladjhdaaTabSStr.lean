/- Contracts of a table of string that write: Set. -/
import Derived.Test.YtkfembhladjhdaaTabTStr
namespace Go.Proofs.Ytkfembhladjhdaa.TabStr
open Go.RowKit
set_option linter.unusedVariables false
set_option maxHeartbeats 4000000
set_option maxRecDepth 100000
theorem set_same {a : Array Value} {j : Nat} {v : Value} (h : a[j]? = some v) : a.setIfInBounds j v = a := by
  apply Array.ext_getElem?
  intro t
  rw [Array.getElem?_setIfInBounds]
  split
  · rename_i e
    subst e
    split
    · exact h.symm
    · rename_i hl
      rw [Array.getElem?_eq_none (by omega)] at h
      cases h
  · rfl
/-- Another thing in a slot. -/
theorem Mem.swap {w : World} {bt bs : Nat} {most n : Int} {s : List (Option ((Int × Int) × ByteArray))} (h : Mem w bt bs most n s) {R : Nat} {p i : Int} {v : ByteArray} (hR : Tab.at_ s R = some ((p, i), v)) (hne : bt ≠ bs) (x : ByteArray) :
    Mem (w.setCell ⟨bs, R * 4 + 3, none⟩ (.string x)) bt bs most n (s.set R (some ((p, i), x))) := by
  have hi := Tab.at_lt hR
  refine ⟨?_, ?_⟩
  · have := h.top.setOther (a := ⟨bs, R * 4 + 3, none⟩) hne (.string x)
    rw [List.length_set]
    exact this
  · have hg : ∀ j, j < 3 → (s.flatMap enc).toArray[R * 4 + j]? = (enc (some ((p, i), x)))[j]? := fun j hj => by
      have := flat_at s R j (by omega) hi
      rw [hR] at this
      rw [List.getElem?_toArray, this]
      rcases (by omega : j = 0 ∨ j = 1 ∨ j = 2) with rfl | rfl | rfl <;> rfl
    have := h.row.set (R * 4 + 3) (.string x)
    have hf := flat_set s hi (some ((p, i), x)) _ _ _ _ rfl
    have g0 : (s.flatMap enc).toArray[R * 4]? = some (.bool true) := hg 0 (by omega)
    have g1 : (s.flatMap enc).toArray[R * 4 + 1]? = some (.int .i64 p) := hg 1 (by omega)
    have g2 : (s.flatMap enc).toArray[R * 4 + 2]? = some (.int .u64 i) := hg 2 (by omega)
    rw [set_same g0, set_same g1, set_same g2] at hf
    rw [hf] at this
    exact this
theorem setNone (p i : Int) (x : ByteArray) (w : World) :
    Calls Try.prog 16 #[.pointer none, .agg #[.int .i64 p, .int .u64 i], .string x] w fun e w' => e = .returned (.int .i64 5) ∧ Mod (fun _ => False) w w' := by
  go_enter Try.func16, Try.ntmps16
  go_wp2_with fail
  refine (hasNone _ _ _).mono ?_
  rintro e w1 ⟨rfl, m1⟩
  have m2 : Mod (fun _ => False) w w1 := ((Mod.refl (fun _ => False) w).alloc _).trans m1 (fun _ _ h => h)
  clear m1
  go_wp2
  go_ret
  exact ⟨rfl, m2⟩
theorem setNo (bt bs : Nat) (most n : Int) (s : List (Option ((Int × Int) × ByteArray))) (p i : Int) (x : ByteArray) (w : World) (h : Mem w bt bs most n s) (hok : Tab.Ok home s) (hL2 : s.length ≤ 4294967296) (habs : ∀ v, ¬ Tab.has s (p, i) v) :
    Calls Try.prog 16 #[.pointer (some ⟨bt, 0, none⟩), .agg #[.int .i64 p, .int .u64 i], .string x] w fun e w' => e = .returned (.int .i64 5) ∧ Mod (fun _ => False) w w' := by
  have hL : 1 ≤ s.length := by obtain ⟨i, hi, _⟩ := hok.room; omega
  have hA : Mem (w.alloc (.cells #[.int .i64 p, .int .u64 i] 29)) bt bs most n s := h.mod ((Mod.refl (fun _ => False) w).alloc _) (fun e => e) (fun e => e)
  have hf0 : (Tab.at_ s (Tab.find home s (p, i))).isSome = false := by
    rw [(Tab.find_none (hok.home_lt _) hok.room habs).2.1]; rfl
  have HF := Lib.hid hf0
  have hr := hok.room
  clear habs hf0 hok
  go_enter Try.func16, Try.ntmps16
  go_wp2_with fail
  refine (hasW _ _ _ _ _ _ _ _ hA hL (by omega) hr).mono ?_
  rintro e w1 ⟨rfl, m1⟩
  rw [HF.out]
  have m2 : Mod (fun _ => False) w w1 := ((Mod.refl (fun _ => False) w).alloc _).trans m1 (fun _ _ h => h)
  clear m1
  go_wp2
  go_ret
  exact ⟨rfl, m2⟩
theorem setW (bt bs : Nat) (most n : Int) (s : List (Option ((Int × Int) × ByteArray))) (p i : Int) (x : ByteArray) (w : World) (h : Mem w bt bs most n s) (hok : Tab.Ok home s) (hL2 : s.length ≤ 4294967296) (hne : bt ≠ bs) {v : ByteArray} {R : Nat} (hR : Tab.at_ s R = some ((p, i), v)) :
    Calls Try.prog 16 #[.pointer (some ⟨bt, 0, none⟩), .agg #[.int .i64 p, .int .u64 i], .string x] w fun e w' => e = .returned (.int .i64 0) ∧ Mem w' bt bs most n (s.set R (some ((p, i), x))) ∧ Mod (fun k => k = bs) w w' := by
  have hL : 1 ≤ s.length := by obtain ⟨i, hi, _⟩ := hok.room; omega
  have hA : Mem (w.alloc (.cells #[.int .i64 p, .int .u64 i] 29)) bt bs most n s := h.mod ((Mod.refl (fun _ => False) w).alloc _) (fun e => e) (fun e => e)
  have hRl := Tab.at_lt hR
  have hfi := Tab.find_has hok hR
  have hr := hok.room
  have HF := Lib.hid hfi
  have HA := Lib.hid hR
  have hls := h.row.lt
  have ii0 : (0 : Int) ≤ (R : Int) := by omega
  have ii1 : (R : Int) < (s.length : Int) := by omega
  clear hfi hR hok
  go_enter Try.func16, Try.ntmps16
  go_wp2_with fail
  refine (hasW _ _ _ _ _ _ _ _ hA hL (by omega) hr).mono ?_
  rintro e w1 ⟨rfl, m1⟩
  rw [HF.out, HA.out]
  simp only [Option.isSome_some]
  have hmem := hA.mod m1 (fun e => e) (fun e => e)
  have htop := hmem.top.cell
  have hfr := hmem.row.free
  obtain ⟨s0, s1, s2, s3⟩ := hmem.slot hRl
  have m2 : Mod (fun k => k = bs) w w1 := (((Mod.refl (fun _ => False) w).alloc _).trans m1 (fun _ _ h => h)).mono (fun _ _ h => h.elim)
  have HS := Lib.hid (hmem.swap HA.out hne x)
  have HM := Lib.hid (m2.setCell (p := ⟨bs, R * 4 + 3, none⟩) (fun _ => rfl) (.string x))
  rw [HA.out] at s3
  simp only [enc, List.getElem?_cons_zero, List.getElem?_cons_succ] at s3
  clear m1 hA h hr m2 hmem s0 s1 s2
  go_wp2_with fail
  go_ret
  exact ⟨rfl, HS.out, HM.out⟩
theorem setNoT (bt bs : Nat) (most n : Int) (m : Int × Int → Option (ByteArray)) (p i : Int) (x : ByteArray) (w : World) (h : Tb w bt bs most n m) (hm : m (p, i) = none) :
    Calls Try.prog 16 #[.pointer (some ⟨bt, 0, none⟩), .agg #[.int .i64 p, .int .u64 i], .string x] w fun e w' => e = .returned (.int .i64 5) ∧ Mod (fun _ => False) w w' := by
  obtain ⟨s, h0, h1, h2, h3, h4, h5, h6, h7, h8, h9, h10⟩ := h
  exact setNo bt bs most n s p i x w h0 h1 (by omega) (fun v hv => by rw [(h10 _ _).1 hv] at hm; cases hm)
theorem setT (bt bs : Nat) (most n : Int) (m : Int × Int → Option (ByteArray)) (p i : Int) (x : ByteArray) (w : World) (h : Tb w bt bs most n m) (hm : (m (p, i)).isSome = true) :
    Calls Try.prog 16 #[.pointer (some ⟨bt, 0, none⟩), .agg #[.int .i64 p, .int .u64 i], .string x] w fun e w' => e = .returned (.int .i64 0) ∧ Tb w' bt bs most n (fun k => if k = (p, i) then some x else m k) ∧ Mod (fun k => k = bs) w w' := by
  obtain ⟨s, h0, h1, h2, h3, h4, h5, h6, h7, h8, h9, h10⟩ := h
  obtain ⟨v, hv⟩ := Option.isSome_iff_exists.1 hm
  obtain ⟨R, hR⟩ := (h10 _ _).2 hv
  obtain ⟨q1, q2, q3⟩ := Tab.set_ok h1 hR x
  refine (setW bt bs most n s p i x w h0 h1 (by omega) h9 hR).mono ?_
  rintro e w' ⟨rfl, hm', hd⟩
  refine ⟨rfl, ⟨_, hm', q1, by rw [q3]; exact h2, by rw [List.length_set]; exact h3, by rw [List.length_set]; exact h4, by rw [List.length_set]; exact h5, h6, h7, h8, h9, fun k u => ?_⟩, hd⟩
  rw [q2]
  show _ ↔ (if k = (p, i) then some x else m k) = some u
  by_cases hk : k = (p, i)
  · subst hk
    rw [if_pos rfl]
    exact ⟨fun h => h.elim (fun h => by rw [h.2]) (fun h => absurd rfl h.1), fun h => .inl ⟨rfl, by injection h with h; exact h.symm⟩⟩
  · rw [if_neg hk, h10]
    exact ⟨fun h => h.elim (fun h => absurd h.1 hk) (fun h => h.2), fun h => .inr ⟨hk, h⟩⟩
end Go.Proofs.Ytkfembhladjhdaa.TabStr
