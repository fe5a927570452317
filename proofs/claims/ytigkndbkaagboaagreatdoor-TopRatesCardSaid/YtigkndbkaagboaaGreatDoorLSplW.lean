/- The contract of strings.Split at one byte. -/
import Derived.Test.YtigkndbkaagboaaGreatDoorTeS
import Derived.Lib.SplitLaws
namespace Go.Proofs.YtigkndbkaagboaaGreatDoor
open Go.RowKit
set_option linter.unusedVariables false
set_option maxHeartbeats 4000000
set_option maxRecDepth 100000
theorem index_cons_ne {x c : UInt8} (h : c ≠ x) (l : Tx) : Lib.index (c :: l) [x] = if Lib.index l [x] == -1 then -1 else Lib.index l [x] + 1 := by
  have hp : ([x] : Tx).isPrefixOf (c :: l) = false := by simp [List.isPrefixOf, Ne.symm h]
  rw [Lib.index, hp]
  simp
theorem index_cons_eq (x : UInt8) (l : Tx) : Lib.index (x :: l) [x] = 0 := by
  rw [Lib.index]
  simp [List.isPrefixOf]
theorem splitK_cut (x : UInt8) : ∀ (l : Tx) (k : Nat), l.count x ≤ k → Lib.splitK [x] 0 k l = cutT x l
  | [], k, h => by
    cases k with
    | zero => rfl
    | succ k => rfl
  | c :: l, k, h => by
    by_cases hc : c = x
    · rw [hc] at h ⊢
      rw [wordsT_blank]
      simp only [List.count_cons_self] at h
      cases k with
      | zero => omega
      | succ k =>
        rw [Lib.splitK, index_cons_eq]
        have := splitK_cut x l k (by omega)
        simpa using this
    · have hcn : (c :: l).count x = l.count x := List.count_cons_of_ne (by simpa using hc)
      rw [hcn] at h
      have ih := splitK_cut x l k h
      rw [cutT, if_neg hc, ← ih]
      cases k with
      | zero => rfl
      | succ k =>
        have hge := Lib.index_ge l [x]
        rw [Lib.splitK, index_cons_ne hc]
        rw [Lib.splitK]
        by_cases hm : Lib.index l [x] = -1
        · simp [hm]
        · have hm' : (Lib.index l [x] == -1) = false := by simpa using hm
          obtain ⟨j, hj⟩ : ∃ j : Nat, Lib.index l [x] = j := ⟨(Lib.index l [x]).toNat, by omega⟩
          rw [hj] at hm' ⊢
          have h3 : ((j : Int) + 1 == -1) = false := by simp; omega
          have h4 : ((j : Int) + 1).toNat = j + 1 := by omega
          simp [hm', h3, h4]
theorem splitB_cut (s : ByteArray) (x : UInt8) : Lib.splitB (tb [x]) 0 (Lib.countB s (tb [x])) s = (cutT x s.data.toList).map tb := by
  have h := Lib.splitB_data (tb [x]) 0 (Lib.countB s (tb [x])) s
  rw [tb_data] at h
  have hc : Lib.countB s (tb [x]) = s.data.toList.count x := by
    show Lib.count s.data.toList (tb [x]).data.toList = _
    rw [tb_data, Lib.count_one]
  rw [splitK_cut x _ _ (by rw [hc]; exact Nat.le_refl _)] at h
  rw [← h, List.map_map]
  exact (List.map_congr_left (f := id) (fun b _ => (tb_of b).symm)).symm ▸ (List.map_id _).symm
/-- internal/bytealg.MaxLen holds some number. -/
def MaxL (w : World) : Prop := ∃ m, w.cell? ⟨Tryz.laysM146_ren.g 1, 0, none⟩ = some (.int .i64 m)
theorem MaxL.later {w w' : World} (h : MaxL w) (m : Mod (fun _ => False) w w') : MaxL w' := by
  obtain ⟨z, hz⟩ := h
  have hlt := block_lt_of_cell hz
  exact ⟨z, (m.cell (p := ⟨Tryz.laysM146_ren.g 1, 0, none⟩) hlt (fun e => e)).trans hz⟩
theorem MaxL.of {w : World} (h : w.ShapedOpen Tryz.prog) : MaxL w := Tryz.laysM146.s1_3 w h
/-- Texts as strings' cells. -/
def encT (t : Tx) : List Value := [.string (tb t)]
theorem encT_len (t : Tx) : (encT t).length = 1 := rfl
theorem flatT (l : List Tx) : l.flatMap encT = (l.map tb).map Value.string := by
  induction l with
  | nil => rfl
  | cons a l ih => rw [List.flatMap_cons, ih]; rfl
theorem splitW (s : ByteArray) (x : UInt8) (w : World) (hs : s.size ≤ 1000000) (hm : MaxL w) :
    Calls Tryz.prog 104 #[.string s, .string (tb [x])] w fun e w' => (∃ g, e = .returned (.slice (some ⟨g, 0, none⟩) (cutT x s.data.toList).length (cutT x s.data.toList).length) ∧ Own w' w.heap.size 9 1 encT (.slice (some ⟨g, 0, none⟩) (cutT x s.data.toList).length (cutT x s.data.toList).length) (cutT x s.data.toList)) ∧ Mod (fun _ => False) w w' := by
  obtain ⟨m, hm⟩ := hm
  have h := Any.strings_Split { Tryz.laysM146 with } Tryz.laysM146.i9 s (tb [x]) m w (by omega) hm (by rw [tb_size]; exact Nat.le_refl _)
  refine h.mono ?_
  rintro e w' ⟨rfl, rfl⟩
  have hc : Lib.countB s (tb [x]) + 1 = (cutT x s.data.toList).length := by
    rw [wordsT_len]
    show Lib.count s.data.toList (tb [x]).data.toList + 1 = _
    rw [tb_data, Lib.count_one]
  rw [splitB_cut, hc]
  refine ⟨⟨_, rfl, ?_⟩, (Mod.refl _ _).alloc _⟩
  unfold Own
  rw [flatT]
  have hl : (cutT x s.data.toList).length ≤ maxLen := by
    rw [wordsT_len]
    have := List.count_le_length (a := x) (l := s.data.toList)
    rw [data_len] at this
    unfold maxLen
    omega
  have := World.ownsRow_lit (base := w.heap.size) (size := 1) (e := 9) w (((cutT x s.data.toList).map tb).map Value.string).toArray (cutT x s.data.toList).length (Nat.le_refl _) hl (by simp)
  exact this
end Go.Proofs.YtigkndbkaagboaaGreatDoor
