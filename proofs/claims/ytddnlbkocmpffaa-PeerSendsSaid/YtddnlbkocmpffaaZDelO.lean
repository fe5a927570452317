/- slices.Delete at Out, of a row of the call's own. -/
import Derived.Test.YtddnlbkocmpffaaZSplc
import Derived.Test.YtddnlbkocmpffaaZSndP
import Derived.Deep.RegionLaw
namespace Go.Proofs.Ytddnlbkocmpffaa.SlO
open Go.RowKit
set_option linter.unusedVariables false
set_option maxHeartbeats 4000000
set_option maxRecDepth 100000
theorem one_enc (l : List OutV) : ∀ v ∈ l.flatMap encO, v.oneCell' = true := fun v hv => by
  obtain ⟨x, _, hx⟩ := List.mem_flatMap.1 hv
  exact SlO.one_at x v hx
theorem deleteW (g cap n i j : Nat) (xs : List OutV) (w : World) (B : Nat) (h : Own w B 56 5 encO (.slice (some ⟨g, 0, none⟩) n cap) xs) (hij : i < j) (hj : j ≤ n) (hn : n ≤ 1000000) :
    Calls Try.prog 48 #[.slice (some ⟨g, 0, none⟩) n cap, .int .i64 i, .int .i64 j] w fun e w' => e = .returned (.slice (some ⟨g, 0, none⟩) (n - (j - i)) cap) ∧ Own w' B 56 5 encO (.slice (some ⟨g, 0, none⟩) (n - (j - i)) cap) (xs.take i ++ xs.drop j) ∧ Mod (fun k => k = g) w w' := by
  obtain ⟨i0, hi0, hz0, hz1, hz2⟩ := info_parts (show (Try.prog.info? 56).map (fun i => (i.zero, i.size, i.bytes)) = some (some (.agg #[.int .u64 0, .int .i64 0, .slice none 0 0, .int .i64 0, .bool false]), 5, 56) by kernel_rfl)
  have hcells := h.cells encO_len j
  have hnc : n ≤ cap := by obtain ⟨A, c, e, h1, _⟩ := h.form; injection e with _ e2 e3; omega
  have hnl : n = xs.length := h.len rfl
  have hdl : ((xs.drop j).flatMap encO).length = (n - j) * 5 := by rw [flat_len encO_len, List.length_drop, hnl]
  have hcm : cap ≤ maxLen := by obtain ⟨cur, r, _, _, _, _, h5, _⟩ := h.row; exact h5
  have hzz : ∀ w, (zeroValue 56).run Try.prog w = .ok (.agg #[.int .u64 0, .int .i64 0, .slice none 0 0, .int .i64 0, .bool false]) w := fun w => by kernel_rfl
  obtain ⟨cur, hg, hlt, hf1, hf2, hf3, hfin⟩ := h.del encO_len (Nat.le_of_lt hij) hj (Builtin.zeroCells (Value.cells (.agg #[.int .u64 0, .int .i64 0, .slice none 0 0, .int .i64 0, .bool false])) (j - i)).toList (zeros_len (sz := 5) rfl _)
  have hA : ∀ ty (a : Addr) c', (0 < n - j → a = ⟨g, j * 5, none⟩) → (Builtin.append_ #[101, 101] ty #[.slice (some ⟨g, 0, none⟩) i cap, .slice (some a) (n - j) c']).run Try.prog w.drew = .ok (.slice (some ⟨g, 0, none⟩) (i + (n - j)) cap) (w.drew.setRow g (splc cur.toList (i * 5) ((xs.drop j).flatMap encO)).toArray) := fun ty a c' ha => by
    have := run_append_room (P := Try.prog) w.drew 101 ty 56 i0 Try.underlying101 hi0 g i cap cur hg a (n - j) c' ((xs.drop j).flatMap encO) (by rw [hdl, hz1]) (fun k u hk => by
      have hk' := (List.getElem?_eq_some_iff.1 hk).1
      have hnj : 0 < n - j := by
        rcases Nat.eq_zero_or_pos (n - j) with h0 | h0
        · rw [hdl, h0] at hk'; omega
        · exact h0
      rw [ha hnj, Go.WideShapes.add_plain]
      exact (by simpa using hcells k u hk)) (one_enc _) (by omega) (by rw [hz1]; exact hf1)
    rw [hz1] at this
    exact this
  obtain ⟨w2, hw2⟩ : ∃ w2, w.drew.setRow g (splc cur.toList (i * 5) ((xs.drop j).flatMap encO)).toArray = w2 := ⟨_, rfl⟩
  have hg2 : w2.heap[g]? = some (.cells (splc cur.toList (i * 5) ((xs.drop j).flatMap encO)).toArray 56 (0, 0)) := by
    rw [← hw2]
    exact setRow_heap w.drew g cur _ _ _ hg
  have hC : ∀ ty c', (Builtin.clear_ #[101] ty #[.slice (some ⟨g, (n - (j - i)) * 5, none⟩) (j - i) c']).run Try.prog w2 = .ok (.tuple #[]) (w2.setRow g (splc (splc cur.toList (i * 5) ((xs.drop j).flatMap encO)) ((n - (j - i)) * 5) (Builtin.zeroCells (Value.cells (.agg #[.int .u64 0, .int .i64 0, .slice none 0 0, .int .i64 0, .bool false])) (j - i)).toList).toArray) := fun ty c' => by
    have := run_clear_rowK w2 101 56 ty (.agg #[.int .u64 0, .int .i64 0, .slice none 0 0, .int .i64 0, .bool false]) 5 Try.underlying101 hzz rfl (fun v hv => SlO.one_zero v hv) g ((n - (j - i)) * 5) (j - i) c' _ _ hg2 (by rw [List.size_toArray, hf2]; omega)
    rw [List.toList_toArray] at this
    exact this
  obtain ⟨C2, hC2e⟩ : ∃ C2, C2 = (splc (splc cur.toList (i * 5) ((xs.drop j).flatMap encO)) ((n - (j - i)) * 5) (Builtin.zeroCells (Value.cells (.agg #[.int .u64 0, .int .i64 0, .slice none 0 0, .int .i64 0, .bool false])) (j - i)).toList).toArray := ⟨_, rfl⟩
  rw [← hC2e] at hC hfin
  have hC2 : ∀ ty c' o k, o = n - (j - i) → k = j - i → (Builtin.clear_ #[101] ty #[.slice (some ⟨g, o * 5, none⟩) k c']).run Try.prog w2 = .ok (.tuple #[]) (w2.setRow g C2) := by
    rintro ty c' o k rfl rfl
    exact (by simpa using hC ty c')
  have HC := Lib.hid hC2
  clear hC hC2
  rw [hw2] at hA
  have HFIN := Lib.hid (fun w' h => hfin w' h)
  have hm2 : Mod (fun k => k = g) w w2 := by
    rw [← hw2]
    exact ⟨rfl, rfl, rfl, by simp [World.setRow], fun i hi hn => setRow_other _ _ i _ hn⟩
  have HM2 := Lib.hid hm2
  have HG2 := Lib.hid hg2
  have hz1' : (i : Int) ≤ (j : Int) := by omega
  have hz2' : (j : Int) ≤ (n : Int) := by omega
  have hz4' : (i : Int) ≤ (cap : Int) := by omega
  have hz5' : (j : Int) ≤ (cap : Int) := by omega
  have hz6' : (n : Int) ≤ (cap : Int) := by omega
  have hz3' : ¬ (i : Int) = (j : Int) := by omega
  clear hC2e hfin hm2 hg2 hw2 hcells hdl hf1 hf2 hf3 hnl
  by_cases hjc : j = cap
  · subst hjc
    obtain rfl : n = j := by omega
    have hA1 := fun ty c' => hA ty ⟨g, 0, none⟩ c' (fun e => by omega)
    simp only [Nat.sub_self, Nat.add_zero] at hA1
    have HA := Lib.hid hA1
    clear hA hA1
    go_enter Try.func48, Try.ntmps48
    go_wp2_with fail
    go_region_law (refine step_append_runs _ rfl (.tmp 22) (.tmp 25) 101 101 rfl (.slice (some ⟨g, 0, none⟩) i n) (.slice (some ⟨g, 0, none⟩) 0 0) (by simp [Act.eval, Act.put]) (by simp [Act.eval, Act.put]) (HA.out _ _) ?_)
    go_wp2_with (refine wpList_clear_runs _ rfl (.tmp 31) 101 rfl (.slice (some ⟨g, i * 5, none⟩) (n - i) (n - i)) (by simp [Act.eval]) (HC.out _ _ _ _ (by omega) (by omega)) ?_)
    go_ret
    have hown := HFIN.out _ (setRow_heap w2 g _ _ _ _ HG2.out)
    have hmod := HM2.out.trans (show Mod (fun k => k = g) w2 (w2.setRow g C2) from ⟨rfl, rfl, rfl, by simp [World.setRow], fun i hi hn => setRow_other _ _ i _ hn⟩) (fun i hi e => e)
    have he : i = n - (n - i) := by omega
    exact ⟨by rw [← he]; rfl, hown, hmod⟩
  · have hjc' : ¬ cap = j := fun e => hjc e.symm
    have hA1 := fun ty c' => hA ty ⟨g, j * 5, none⟩ c' (fun e => rfl)
    have HA := Lib.hid hA1
    clear hA hA1
    go_enter Try.func48, Try.ntmps48
    go_wp2_with fail
    go_region_law (refine step_append_runs _ rfl (.tmp 22) (.tmp 25) 101 101 rfl (.slice (some ⟨g, 0, none⟩) i cap) (.slice (some ⟨g, j * 5, none⟩) (n - j) (cap - j)) (by simp [Act.eval, Act.put]) (by simp [Act.eval, Act.put]) (HA.out _ _) ?_)
    go_wp2_with (refine wpList_clear_runs _ rfl (.tmp 31) 101 rfl (.slice (some ⟨g, (i + (n - j)) * 5, none⟩) (n - (i + (n - j))) (cap - (i + (n - j)))) (by simp [Act.eval]) (HC.out _ _ _ _ (by omega) (by omega)) ?_)
    go_ret
    have hown := HFIN.out _ (setRow_heap w2 g _ _ _ _ HG2.out)
    have hmod := HM2.out.trans (show Mod (fun k => k = g) w2 (w2.setRow g C2) from ⟨rfl, rfl, rfl, by simp [World.setRow], fun i hi hn => setRow_other _ _ i _ hn⟩) (fun i hi e => e)
    have he : i + (n - j) = n - (j - i) := by omega
    exact ⟨by rw [← he]; rfl, hown, hmod⟩
end Go.Proofs.Ytddnlbkocmpffaa.SlO
