/- slices.Insert at Range: one thing, into a row of the call's own. -/
import Derived.Test.YtddnlbkocmpffaaZSplc
import Derived.Test.YtddnlbkocmpffaaZPeeP
import Derived.Deep.RegionLaw
import Derived.Deep.QuietTactic
import Derived.BigQuiet
namespace Go.Proofs.Ytddnlbkocmpffaa.SlR
open Go.RowKit
set_option linter.unusedVariables false
set_option maxHeartbeats 8000000
set_option maxRecDepth 100000
theorem one_enc' (l : List (Int × Int)) : ∀ v ∈ l.flatMap encR, v.oneCell' = true := fun v hv => by
  obtain ⟨x, _, hx⟩ := List.mem_flatMap.1 hv
  exact SlR.one_at x v hx
theorem i_info : (Try.prog.info? 131).map (fun i => (i.zero, i.size, i.bytes)) = some (some (.agg #[.int .i64 0, .int .i64 0]), 2, 16) := by kernel_rfl
theorem i_size : (Try.prog.info? 131).map (·.size) = some 2 := by kernel_rfl
theorem i_sizeOf (w : World) : (sizeOf 131).run Try.prog w = .ok 2 w := by kernel_rfl
/-- Behind the last one. -/
theorem insert_end (v : Value) (xs : List (Int × Int)) (y : (Int × Int)) (w : World) (B : Nat) (h : Own w B 131 2 encR v xs) (hn : xs.length ≤ 1000000) (vb : Nat) (hvb : Blk w vb 131 (encR y).toArray) (hB : B ≤ w.heap.size) :
    Calls Try.prog 99 #[v, .int .i64 xs.length, .slice (some ⟨vb, 0, none⟩) 1 1] w fun e w' => ∃ v', e = .returned v' ∧ Own w' B 131 2 encR v' (xs ++ [y]) ∧ Mod (fun k => v.ownBlock = some k) w w' ∧ (v'.ownBlock = v.ownBlock ∨ v'.ownBlock = some w.heap.size) := by
  obtain ⟨i0, hi0, hz0, hz1, hz2⟩ := info_parts i_info
  obtain ⟨A, cap, rfl, hc, -⟩ := h.form
  generalize hnl : xs.length = n at *
  have hnc : (n : Int) ≤ (cap : Int) := by omega
  have HOW := Lib.hid (show w.ownsRow B 131 2 (.slice A n cap) n (xs.flatMap encR) by have := h; unfold Own at this; rwa [hnl] at this)
  have hread : Reads w w.heap.size 2 (some ⟨vb, 0, none⟩) 1 (encR y) := ⟨by rw [encR_len, Nat.one_mul], fun _ => ⟨_, rfl, hvb.lt, fun j u hu => by
    rw [Go.WideShapes.add_plain, Nat.zero_add, hvb.cell]
    simpa using hu⟩⟩
  have HV := Lib.hid hread
  have HNL := Lib.hid hnl
  clear hread hnl h hvb
  by_cases hcn : cap = n
  · subst hcn
    go_enter Try.func99, Try.ntmps99
    go_wp2_with (at_builtin
                 refine wpList_append_any _ rfl (.tmp 23) (.tmp 24) 128 rfl B 131 i0 _ 2 16 Try.underlying128 hi0 hz0 hz1 hz2 rfl (by omega) (.slice A cap cap) cap (xs.flatMap encR) rfl HOW.out _ (some ⟨vb, 0, none⟩) 1 1 (encR y) rfl HV.out (SlR.one_at y) (by simp only [maxLen]; omega) (by omega) hB ?_
                 intro v' w' hown hgr hat)
    have ho : Own w' B 131 2 encR v' (xs ++ [y]) := by
      unfold Own
      rw [List.length_append, flat_snoc, HNL.out]
      exact hown
    have HO := Lib.hid ho
    have HM := Lib.hid (Mod.ofGrown hgr)
    have HBB := Lib.hid hat
    clear ho hown hgr hat
    go_wp2_with fail
    go_ret
    exact ⟨_, rfl, HO.out, HM.out, HBB.out⟩
  · go_enter Try.func99, Try.ntmps99
    go_wp2_with (at_builtin
                 refine wpList_append_any _ rfl (.tmp 23) (.tmp 24) 128 rfl B 131 i0 _ 2 16 Try.underlying128 hi0 hz0 hz1 hz2 rfl (by omega) (.slice A n cap) n (xs.flatMap encR) rfl HOW.out _ (some ⟨vb, 0, none⟩) 1 1 (encR y) rfl HV.out (SlR.one_at y) (by simp only [maxLen]; omega) (by omega) hB ?_
                 intro v' w' hown hgr hat)
    have ho : Own w' B 131 2 encR v' (xs ++ [y]) := by
      unfold Own
      rw [List.length_append, flat_snoc, HNL.out]
      exact hown
    have HO := Lib.hid ho
    have HM := Lib.hid (Mod.ofGrown hgr)
    have HBB := Lib.hid hat
    clear ho hown hgr hat
    go_wp2_with fail
    go_ret
    exact ⟨_, rfl, HO.out, HM.out, HBB.out⟩
/-- Ahead of others, where there is room. -/
theorem insert_room (g cap n i : Nat) (xs : List (Int × Int)) (y : (Int × Int)) (w : World) (B : Nat) (h : Own w B 131 2 encR (.slice (some ⟨g, 0, none⟩) n cap) xs) (hi : i < n) (hn : n ≤ 1000000) (hroom : n + 1 ≤ cap) (vb : Nat) (hvb : Blk w vb 131 (encR y).toArray) (hne : vb ≠ g) :
    Calls Try.prog 99 #[.slice (some ⟨g, 0, none⟩) n cap, .int .i64 i, .slice (some ⟨vb, 0, none⟩) 1 1] w fun e w' => e = .returned (.slice (some ⟨g, 0, none⟩) (n + 1) cap) ∧ Own w' B 131 2 encR (.slice (some ⟨g, 0, none⟩) (n + 1) cap) (xs.take i ++ y :: xs.drop i) ∧ Mod (fun k => k = g) w w' := by
  have hnl : n = xs.length := h.len rfl
  have hcm : cap ≤ maxLen := by obtain ⟨cur, r, _, _, _, _, h5, _⟩ := h.row; exact h5
  obtain ⟨cur, hg, hlt, hcs, hf1, hf2, hf3, hfin⟩ := h.ins (y := y) encR_len (Nat.le_of_lt hi) hroom
  have hcells := h.cells encR_len i
  have hdl : (((xs.drop i).flatMap encR)).length = (n - i) * 2 := by rw [flat_len encR_len, List.length_drop, hnl]
  have hbs := hvb.lt
  have hov : ∀ lb cb, (callFunc 100 #[.slice (some ⟨vb, 0, none⟩) 1 1, .slice (some ⟨g, (i + 1) * 2, none⟩) lb cb]).run Try.prog w = .ok (.value (.bool false)) w := fun lb cb => by
    rw [run_callFunc_extern Try.func100 (by kernel_rfl) (by kernel_rfl) (by kernel_rfl) (e := Extern.SlicesOverlaps.overlaps #[128, 128] #[4]) (by kernel_rfl),
      Lib.run_overlaps_apart w 128 4 131 Try.underlying128 2 i_sizeOf ⟨vb, 0, none⟩ ⟨g, (i + 1) * 2, none⟩ 1 1 lb cb hne 131 131 2 (cap * 2) (by have := shape_row hvb; simpa using this) (by have := shape_row hg; rwa [hcs] at this) (by omega) (hvb.free _) (hvb.free _)]
    rfl
  have hcp1 : ∀ ty dl dc sl sc, dl = n - i → sl = n + 1 - i → (Builtin.copy_ #[128, 128] ty #[.slice (some ⟨g, (i + 1) * 2, none⟩) dl dc, .slice (some ⟨g, i * 2, none⟩) sl sc]).run Try.prog w.drew = .ok (goInt (n - i : Nat)) (w.drew.setRow g (splc cur.toList ((i + 1) * 2) ((xs.drop i).flatMap encR)).toArray) := by
    rintro ty dl dc sl sc rfl rfl
    have hmin : Nat.min (n + 1 - i) (n - i) = n - i := Nat.min_eq_right (by omega)
    have := run_copy_rowK (P := Try.prog) w.drew 128 128 ty 131 g ((i + 1) * 2) (n - i) dc ⟨g, i * 2, none⟩ (n + 1 - i) sc cur 131 2 ((xs.drop i).flatMap encR) Try.underlying128 i_size hg (by rw [hdl, hmin]) (fun k u hk => by
      rw [Go.WideShapes.add_plain]
      exact hcells k u hk) hf1 (one_enc' _)
    rw [hmin] at this
    first
      | exact this
      | simpa using this
  obtain ⟨w2, hw2⟩ : ∃ w2, w.drew.setRow g (splc cur.toList ((i + 1) * 2) ((xs.drop i).flatMap encR)).toArray = w2 := ⟨_, rfl⟩
  have hg2 : w2.heap[g]? = some (.cells (splc cur.toList ((i + 1) * 2) ((xs.drop i).flatMap encR)).toArray 131 (0, 0)) := by
    rw [← hw2]
    exact setRow_heap w.drew g cur _ _ _ hg
  have hm2 : Mod (fun k => k = g) w w2 := by
    rw [← hw2]
    exact ⟨rfl, rfl, rfl, by simp [World.setRow], fun i hi hn => setRow_other _ _ i _ hn⟩
  obtain ⟨C2, hC2e⟩ : ∃ C2, C2 = (splc (splc cur.toList ((i + 1) * 2) ((xs.drop i).flatMap encR)) (i * 2) (encR y)).toArray := ⟨_, rfl⟩
  have hcp2 : ∀ ty dl dc, dl = n + 1 - i → (Builtin.copy_ #[128, 128] ty #[.slice (some ⟨g, i * 2, none⟩) dl dc, .slice (some ⟨vb, 0, none⟩) 1 1]).run Try.prog w2 = .ok (goInt (1 : Nat)) (w2.setRow g C2) := by
    rintro ty dl dc rfl
    have hmin : Nat.min 1 (n + 1 - i) = 1 := Nat.min_eq_left (by omega)
    have := run_copy_rowK (P := Try.prog) w2 128 128 ty 131 g (i * 2) (n + 1 - i) dc ⟨vb, 0, none⟩ 1 1 _ 131 2 (encR y) Try.underlying128 i_size hg2 (by rw [hmin, encR_len]) (fun k u hk => by
      rw [Go.WideShapes.add_plain, Nat.zero_add, (hvb.mod hm2 hne).cell]
      simpa using hk) (by rw [List.size_toArray, hf2]; exact hf3) (SlR.one_at y)
    rw [hmin, List.toList_toArray, ← hC2e] at this
    first
      | exact this
      | simpa using this
  rw [← hC2e] at hfin
  rw [hw2] at hcp1
  have HC1 := Lib.hid hcp1
  have HC2 := Lib.hid hcp2
  have HFIN := Lib.hid hfin
  have HM2 := Lib.hid hm2
  have HG2 := Lib.hid hg2
  have hw1 : IntKind.i64.wrap ((i : Int) + 1) = (i : Int) + 1 := by rw [IntKind.wrap_i64]; omega
  have hw3 : IntKind.i64.wrap ((n : Int) + 1) = (n : Int) + 1 := by rw [IntKind.wrap_i64]; omega
  have hz2 : ¬ ((i : Int) = (n : Int)) := by omega
  have hb1 : (0 : Int) ≤ (i : Int) + 1 := by omega
  have htn : ((i : Int) + 1).toNat = i + 1 := by omega
  have htm : ((n : Int) + 1).toNat = n + 1 := by omega
  have hb2 : ¬ (cap = i + 1) := by omega
  have hb3 : (i : Int) ≤ (n : Int) + 1 := by omega
  have hb4 : ¬ (cap = i) := by omega
  have hb5 : (i : Int) ≤ (n : Int) := by omega
  have hb6 : (n : Int) + 1 ≤ (cap : Int) := by omega
  have hb7 : (i : Int) + 1 ≤ (n : Int) + 1 := by omega
  have hb8 : ¬ (cap : Int) < (n : Int) + 1 := by omega
  clear hcp1 hcp2 hfin hm2 hg2 hw2 hC2e hcells hdl hf1 hf2 hf3 hnl
  go_enter Try.func99, Try.ntmps99
  go_wp2_with (simp only [hov])
  go_region_law (refine step_copy_run _ rfl (.tmp 73) (.tmp 76) 128 128 rfl (.slice (some ⟨g, (i + 1) * 2, none⟩) (n - i) (cap - (i + 1))) (.slice (some ⟨g, i * 2, none⟩) (n + 1 - i) (cap - i)) (by simp [Act.eval, Act.put]) (by simp [Act.eval, Act.put]) (HC1.out _ _ _ _ _ rfl rfl) ?_)
  go_wp2_with (refine wpList_copy_run _ rfl (.tmp 80) (.tmp 81) 128 128 rfl (.slice (some ⟨g, i * 2, none⟩) (n + 1 - i) (cap - i)) (.slice (some ⟨vb, 0, none⟩) 1 1) rfl rfl (HC2.out _ _ _ rfl) ?_)
  go_ret
  exact ⟨rfl, HFIN.out _ (setRow_heap w2 g _ _ _ _ HG2.out), HM2.out.trans (show Mod (fun k => k = g) w2 (w2.setRow g C2) from ⟨rfl, rfl, rfl, by simp [World.setRow], fun i hi hn => setRow_other _ _ i _ hn⟩) (fun i hi e => e)⟩
/-- Ahead of others, where there is no room. -/
theorem insert_grow (g cap n i : Nat) (xs : List (Int × Int)) (y : (Int × Int)) (w : World) (B : Nat) (h : Own w B 131 2 encR (.slice (some ⟨g, 0, none⟩) n cap) xs) (hi : i < n) (hn : n ≤ 1000000) (hroom : cap < n + 1) (vb : Nat) (hvb : Blk w vb 131 (encR y).toArray) (hne : vb ≠ g) (hB : B ≤ w.heap.size) :
    Calls Try.prog 99 #[.slice (some ⟨g, 0, none⟩) n cap, .int .i64 i, .slice (some ⟨vb, 0, none⟩) 1 1] w fun e w' => ∃ G, e = .returned (.slice (some ⟨w.heap.size, 0, none⟩) (n + 1) G) ∧ Own w' B 131 2 encR (.slice (some ⟨w.heap.size, 0, none⟩) (n + 1) G) (xs.take i ++ y :: xs.drop i) ∧ Mod (fun _ => False) w w' := by
  obtain ⟨i0, hi0, hz0, hz1, hz2⟩ := info_parts i_info
  have hnl : n = xs.length := h.len rfl
  obtain ⟨cur, r, hg, hb, -, hnc, hcm, hcs, hct⟩ := h.row
  have hlt : g < w.heap.size := (Array.getElem?_eq_some_iff.1 hg).1
  have hcells := h.cells encR_len i
  have hcells0 := h.cells encR_len 0
  have hdl : (((xs.drop i).flatMap encR)).length = (n - i) * 2 := by rw [flat_len encR_len, List.length_drop, hnl]
  have htl : ((xs.take i).flatMap encR).length = i * 2 := by rw [flat_len encR_len, List.length_take, ← hnl, Nat.min_eq_left (by omega)]
  have hold : (Builtin.firstCells i0.size i (.slice (some ⟨g, 0, none⟩) i cap)).run Try.prog w.drew = .ok ((xs.take i).flatMap encR).toArray w.drew := by
    rw [hz1]
    exact run_firstCells_some w.drew 2 i ⟨g, 0, none⟩ i cap _ (by rw [htl]) (fun k u hk => by
      rw [Go.WideShapes.add_plain]
      rw [← flat_take encR_len i xs, List.getElem?_take] at hk
      split at hk
      · have := hcells0 k u (by rw [List.drop_zero]; exact hk)
        simpa using this
      · cases hk)
  have hik : i + (n + 1 - i) = n + 1 := by omega
  have hkk : (n : Int) + 1 - (i : Int) = ((n + 1 - i : Nat) : Int) := by omega
  obtain ⟨G, hG⟩ : ∃ G, G = grownCap w (n + 1) cap 131 := ⟨_, rfl⟩
  have hGn : n + 1 ≤ G := by rw [hG]; exact grownCap_ge w _ _ _
  have hGm : G ≤ maxLen := by rw [hG]; exact grownCap_le_maxLen w (n + 1) cap 131 (by unfold maxLen; omega)
  obtain ⟨zs, hzs⟩ : ∃ zs, zs = (Builtin.zeroCells (Value.cells (.agg #[.int .i64 0, .int .i64 0])) (n + 1 - i) ++ Builtin.zeroCells (Value.cells (.agg #[.int .i64 0, .int .i64 0])) (G - (n + 1))).toList := ⟨_, rfl⟩
  have hzl : zs.length = (G - i) * 2 := by
    rw [hzs, Array.length_toList, Array.size_append, size_zeroCells, size_zeroCells, show (Value.cells (.agg #[.int .i64 0, .int .i64 0])).size = 2 from rfl, ← Nat.add_mul]
    congr 1
    omega
  have hrz : ∀ ty, (Builtin.append_ #[128, 3] ty #[.slice (some ⟨g, 0, none⟩) i cap, .int .i64 ((n : Int) + 1 - (i : Int))]).run Try.prog w = .ok (.slice (some ⟨w.heap.size, 0, none⟩) (n + 1) G) (w.drew.alloc (.cells ((xs.take i).flatMap encR ++ zs).toArray 131)) := fun ty => by
    have h := Lib.run_append_grow_zeros w 128 3 ty 131 i0 _ .i64 .i64 Try.underlying128 Try.underlying3 hi0 hz0 (some ⟨g, 0, none⟩) i cap _ hold (n + 1 - i) (by omega) (by omega) (by omega) (by omega) (by rw [hz2]; omega) (by rw [hz2, hik]; exact growslice_fits (by omega) (by omega))
    rw [hik, ← hG] at h
    have happ : ∀ (l : List Value) (A B : Array Value), (l ++ (A ++ B).toList).toArray = l.toArray ++ A ++ B := fun l A B => by
      apply Array.toList_inj.1
      simp
    rw [hkk, h, hzs, happ]
  obtain ⟨w1, hw1⟩ : ∃ w1, w.drew.alloc (.cells ((xs.take i).flatMap encR ++ zs).toArray 131) = w1 := ⟨_, rfl⟩
  have hg1 : w1.heap[w.heap.size]? = some (.cells ((xs.take i).flatMap encR ++ zs).toArray 131 (0, 0)) := by rw [← hw1]; exact heap_alloc_new w.drew _
  have hm1 : Mod (fun _ => False) w w1 := by rw [← hw1]; exact ((Mod.refl (fun _ => False) w).drew).alloc _
  have hrl : ((xs.take i).flatMap encR ++ zs).length = G * 2 := by
    rw [List.length_append, htl, hzl, ← Nat.add_mul]
    congr 1
    omega
  obtain ⟨C1, hC1⟩ : ∃ C1, C1 = (splc ((xs.take i).flatMap encR ++ zs) (i * 2) (encR y)).toArray := ⟨_, rfl⟩
  have hf3 : i * 2 + (encR y).length ≤ G * 2 := by
    rw [encR_len]
    have := Nat.mul_le_mul_right 2 (show i + 1 ≤ G by omega)
    omega
  have hcp1 : ∀ ty dl dc, dl = n + 1 - i → (Builtin.copy_ #[128, 128] ty #[.slice (some ⟨w.heap.size, i * 2, none⟩) dl dc, .slice (some ⟨vb, 0, none⟩) 1 1]).run Try.prog w1 = .ok (goInt (1 : Nat)) (w1.setRow w.heap.size C1) := by
    rintro ty dl dc rfl
    have hmin : Nat.min 1 (n + 1 - i) = 1 := Nat.min_eq_left (by omega)
    have := run_copy_rowK (P := Try.prog) w1 128 128 ty 131 w.heap.size (i * 2) (n + 1 - i) dc ⟨vb, 0, none⟩ 1 1 _ 131 2 (encR y) Try.underlying128 i_size hg1 (by rw [hmin, encR_len]) (fun k u hk => by
      rw [Go.WideShapes.add_plain, Nat.zero_add, (hvb.mod hm1 (fun e => e)).cell]
      simpa using hk) (by rw [List.size_toArray, hrl]; exact hf3) (SlR.one_at y)
    rw [hmin, List.toList_toArray, ← hC1] at this
    first
      | exact this
      | simpa using this
  obtain ⟨w2, hw2⟩ : ∃ w2, w1.setRow w.heap.size C1 = w2 := ⟨_, rfl⟩
  have hg2 : w2.heap[w.heap.size]? = some (.cells C1 131 (0, 0)) := by
    rw [← hw2]
    exact setRow_heap w1 _ _ _ _ _ hg1
  have hm2 : Mod (fun _ => False) w w2 := by
    rw [← hw2]
    exact hm1.trans (show Mod (fun k => k = w.heap.size) w1 (w1.setRow w.heap.size C1) from ⟨rfl, rfl, rfl, by simp [World.setRow], fun i hi hn => setRow_other _ _ i _ hn⟩) (fun i hi e => by omega)
  have hc1l : C1.size = G * 2 := by rw [hC1, List.size_toArray, splc_len (by rw [hrl]; exact hf3), hrl]
  obtain ⟨C2, hC2⟩ : ∃ C2, C2 = (splc C1.toList ((i + 1) * 2) ((xs.drop i).flatMap encR)).toArray := ⟨_, rfl⟩
  have hcp2 : ∀ ty dl dc sl sc, dl = n - i → sl = n - i → (Builtin.copy_ #[128, 128] ty #[.slice (some ⟨w.heap.size, (i + 1) * 2, none⟩) dl dc, .slice (some ⟨g, i * 2, none⟩) sl sc]).run Try.prog w2.drew = .ok (goInt (n - i : Nat)) (w2.drew.setRow w.heap.size C2) := by
    rintro ty dl dc sl sc rfl rfl
    have hmin : Nat.min (n - i) (n - i) = n - i := Nat.min_self _
    have := run_copy_rowK (P := Try.prog) w2.drew 128 128 ty 131 w.heap.size ((i + 1) * 2) (n - i) dc ⟨g, i * 2, none⟩ (n - i) sc C1 131 2 ((xs.drop i).flatMap encR) Try.underlying128 i_size hg2 (by rw [hdl, hmin]) (fun k u hk => by
      rw [Go.WideShapes.add_plain]
      exact (hm2.cell (p := ⟨g, i * 2 + k, none⟩) hlt (fun e => e)).trans (hcells k u hk)) (by
        rw [hdl, hc1l, ← Nat.add_mul]
        exact Nat.mul_le_mul_right _ (by omega)) (one_enc' _)
    rw [hmin, ← hC2] at this
    first
      | exact this
      | simpa using this
  have hfin : ∀ w' : World, w'.heap[w.heap.size]? = some (.cells C2 131 (0, 0)) → Own w' B 131 2 encR (.slice (some ⟨w.heap.size, 0, none⟩) (n + 1) G) (xs.take i ++ y :: xs.drop i) := fun w' hw' => by
    rw [hC2, hC1, List.toList_toArray] at hw'
    exact Own.ins_new encR_len hnl (by omega) hGn hGm hB (by rw [hzl, ← Nat.add_mul]; congr 1; omega) hw'
  have HC1 := Lib.hid hcp1
  have HC2 := Lib.hid hcp2
  have HRZ := Lib.hid hrz
  have HFIN := Lib.hid hfin
  have HM2 := Lib.hid hm2
  have HG2 := Lib.hid hg2
  rw [hw1] at HRZ
  rw [hw2] at HC1
  have hw1' : IntKind.i64.wrap ((i : Int) + 1) = (i : Int) + 1 := by rw [IntKind.wrap_i64]; omega
  have hw3 : IntKind.i64.wrap ((n : Int) + 1) = (n : Int) + 1 := by rw [IntKind.wrap_i64]; omega
  have hw4 : IntKind.i64.wrap ((n : Int) + 1 - (i : Int)) = (n : Int) + 1 - (i : Int) := by rw [IntKind.wrap_i64]; omega
  have hz2' : ¬ ((i : Int) = (n : Int)) := by omega
  have hb1 : (0 : Int) ≤ (i : Int) + 1 := by omega
  have htn : ((i : Int) + 1).toNat = i + 1 := by omega
  have hb2 : ¬ (G = i + 1) := by omega
  have hb3 : (i : Int) ≤ (n : Int) + 1 := by omega
  have hb4 : ¬ (cap = i) := by omega
  have hb4' : ¬ (G = i) := by omega
  have hb5 : (i : Int) ≤ (n : Int) := by omega
  have hb6 : (i : Int) ≤ (cap : Int) := by omega
  have hb7 : (i : Int) + 1 ≤ (n : Int) + 1 := by omega
  have hb8 : (cap : Int) < (n : Int) + 1 := by omega
  generalize hN : w.heap.size = N at *
  clear hcp1 hcp2 hfin hm2 hm1 hg1 hg2 hw1 hw2 hC2 hC1 hcells hcells0 hdl htl hrz hold hzs hzl hrl hf3 hc1l hnl hct hG hcs hik hkk
  go_enter Try.func99, Try.ntmps99
  go_wp2_with (first
    | (refine wpList_append_runs _ rfl (.tmp 34) (.tmp 39) 128 3 rfl (.slice (some ⟨g, 0, none⟩) i cap) (.int .i64 ((n : Int) + 1 - (i : Int))) rfl rfl (HRZ.out _) ?_)
    | (refine wpList_copy_run _ rfl (.tmp 43) (.tmp 44) 128 128 rfl (.slice (some ⟨N, i * 2, none⟩) (n + 1 - i) (G - i)) (.slice (some ⟨vb, 0, none⟩) 1 1) rfl rfl (HC1.out _ _ _ rfl) ?_))
  go_region_law (refine step_copy_run _ rfl (.tmp 50) (.tmp 53) 128 128 rfl (.slice (some ⟨N, (i + 1) * 2, none⟩) (n - i) (G - (i + 1))) (.slice (some ⟨g, i * 2, none⟩) (n - i) (cap - i)) (by simp [Act.eval, Act.put]) (by simp [Act.eval, Act.put]) (HC2.out _ _ _ _ _ rfl rfl) ?_)
  go_wp2_with fail
  go_ret
  have hmm : Mod (fun k => k = N) w2.drew (w2.drew.setRow N C2) := ⟨rfl, rfl, rfl, by simp [World.setRow], fun i hi hn => setRow_other _ _ i _ hn⟩
  exact ⟨G, rfl, HFIN.out _ (setRow_heap w2.drew _ _ _ _ _ HG2.out), HM2.out.drew.trans hmm (fun i hi e => by omega)⟩
/-- One thing put in. -/
theorem insertW (v : Value) (i : Nat) (xs : List (Int × Int)) (y : (Int × Int)) (w : World) (B : Nat) (h : Own w B 131 2 encR v xs) (hi : i ≤ xs.length) (hn : xs.length ≤ 1000000) (vb : Nat) (hvb : Blk w vb 131 (encR y).toArray) (hne : v.ownBlock ≠ some vb) (hB : B ≤ w.heap.size) :
    Calls Try.prog 99 #[v, .int .i64 i, .slice (some ⟨vb, 0, none⟩) 1 1] w fun e w' => ∃ v', e = .returned v' ∧ Own w' B 131 2 encR v' (xs.take i ++ y :: xs.drop i) ∧ Mod (fun k => v.ownBlock = some k) w w' ∧ (v'.ownBlock = v.ownBlock ∨ v'.ownBlock = some w.heap.size) := by
  by_cases hie : i = xs.length
  · subst hie
    refine (insert_end v xs y w B h hn vb hvb hB).mono ?_
    rintro e w' ⟨v', rfl, h1, h2, h3⟩
    refine ⟨v', rfl, ?_, h2, h3⟩
    rwa [List.take_of_length_le (Nat.le_refl _), List.drop_eq_nil_of_le (Nat.le_refl _)]
  · obtain ⟨g, cap, rfl, hc, hg1, hg2⟩ := h.form1 (by omega)
    have hne' : vb ≠ g := fun e => hne (by rw [e]; rfl)
    by_cases hr : xs.length + 1 ≤ cap
    · refine (insert_room g cap _ i xs y w B h (by omega) hn hr vb hvb hne').mono ?_
      rintro e w' ⟨rfl, h1, h2⟩
      exact ⟨_, rfl, h1, h2.mono (fun k hk e => by rw [e]; rfl), .inl rfl⟩
    · refine (insert_grow g cap _ i xs y w B h (by omega) hn (by omega) vb hvb hne' hB).mono ?_
      rintro e w' ⟨G, rfl, h1, h2⟩
      exact ⟨_, rfl, h1, h2.mono (fun k hk e => e.elim), .inr rfl⟩
end Go.Proofs.Ytddnlbkocmpffaa.SlR
namespace Go.Proofs.Ytddnlbkocmpffaa.SlR
open Go.RowKit
set_option linter.unusedVariables false
set_option maxHeartbeats 8000000
set_option maxRecDepth 100000
theorem rep_mid (g cap n i j : Nat) (xs : List (Int × Int)) (y : (Int × Int)) (w : World) (B : Nat) (h : Own w B 131 2 encR (.slice (some ⟨g, 0, none⟩) n cap) xs) (hij : i < j) (hj : j ≤ n) (hjl : j < n) (hn : n ≤ 1000000) (vb : Nat) (hvb : Blk w vb 131 (encR y).toArray) (hne : vb ≠ g) :
    ∃ (w1 w2 : World) (C3 : Array Value), (∀ ty dl dc, 1 ≤ dl → (Builtin.copy_ #[128, 128] ty #[.slice (some ⟨g, i * 2, none⟩) dl dc, .slice (some ⟨vb, 0, none⟩) 1 1]).run Try.prog w = .ok (goInt (1 : Nat)) w1) ∧
      (∀ ty dl dc sc, dl = n - j → (Builtin.copy_ #[128, 128] ty #[.slice (some ⟨g, (i + 1) * 2, none⟩) dl dc, .slice (some ⟨g, j * 2, none⟩) (n - j) sc]).run Try.prog w1.drew = .ok (goInt (n - j : Nat)) w2) ∧
      (∀ ty o k c', k = n - (i + 1 + (n - j)) → o + k * 2 ≤ cap * 2 → (0 < k → o = (i + 1 + (n - j)) * 2) → (Builtin.clear_ #[128] ty #[.slice (some ⟨g, o, none⟩) k c']).run Try.prog w2 = .ok (.tuple #[]) (w2.setRow g C3)) ∧
      Own (w2.setRow g C3) B 131 2 encR (.slice (some ⟨g, 0, none⟩) (i + 1 + (n - j)) cap) (xs.take i ++ y :: xs.drop j) ∧ Mod (fun k => k = g) w (w2.setRow g C3) := by
  obtain ⟨i0, hi0, hz0, hz1, hz2⟩ := info_parts i_info
  have hnl : n = xs.length := h.len rfl
  have hcm : cap ≤ maxLen := by obtain ⟨cur, r, _, _, _, _, h5, _⟩ := h.row; exact h5
  have hnc : n ≤ cap := by obtain ⟨cur, r, _, _, _, h4, _⟩ := h.row; exact h4
  have hzz : ∀ w, (zeroValue 131).run Try.prog w = .ok (.agg #[.int .i64 0, .int .i64 0]) w := fun w => by kernel_rfl
  obtain ⟨cur, hg, hlt, hcs, hf1, hl1, hf2, hl2, hcell, hfin⟩ := h.rep (y := y) encR_len hij hj (Builtin.zeroCells (Value.cells (.agg #[.int .i64 0, .int .i64 0])) (n - (i + 1 + (n - j)))).toList (zeros_len (sz := 2) rfl _)
  have hdl : (((xs.drop j).flatMap encR)).length = (n - j) * 2 := by rw [flat_len encR_len, List.length_drop, hnl]
  have hval : ∀ (W : World) (m : Mod (fun k => k = g) w W) j u, (encR y)[j]? = some u → W.cell? ((⟨vb, 0, none⟩ : Addr).add j) = some u := fun W m j u hu => by
    rw [Go.WideShapes.add_plain, Nat.zero_add, (hvb.mod m hne).cell]
    simpa using hu
  have setm : ∀ (W : World) (C : Array Value), Mod (fun k => k = g) W (W.setRow g C) := fun W C => ⟨rfl, rfl, rfl, by simp [World.setRow], fun i hi hn => setRow_other _ _ i _ hn⟩
  obtain ⟨C1, hC1⟩ : ∃ C1, C1 = (splc cur.toList (i * 2) (encR y)).toArray := ⟨_, rfl⟩
  obtain ⟨C2, hC2⟩ : ∃ C2, C2 = (splc (splc cur.toList (i * 2) (encR y)) ((i + 1) * 2) ((xs.drop j).flatMap encR)).toArray := ⟨_, rfl⟩
  obtain ⟨C3, hC3⟩ : ∃ C3, C3 = (splc (splc (splc cur.toList (i * 2) (encR y)) ((i + 1) * 2) ((xs.drop j).flatMap encR)) ((i + 1 + (n - j)) * 2) (Builtin.zeroCells (Value.cells (.agg #[.int .i64 0, .int .i64 0])) (n - (i + 1 + (n - j)))).toList).toArray := ⟨_, rfl⟩
  rw [← hC3] at hfin
  have hs1 : C1.size = cur.size := by rw [hC1, List.size_toArray, hl1]
  have hs2 : C2.size = cur.size := by rw [hC2, List.size_toArray, hl2]
  obtain ⟨w1, hw1⟩ : ∃ w1, w.setRow g C1 = w1 := ⟨_, rfl⟩
  have hg1 : w1.heap[g]? = some (.cells C1 131 (0, 0)) := by rw [← hw1]; exact setRow_heap w g cur _ _ _ hg
  have hm1 : Mod (fun k => k = g) w w1 := by rw [← hw1]; exact setm _ _
  have htot : (i + 1 + (n - j)) * 2 + (n - (i + 1 + (n - j))) * 2 ≤ cur.size := by
    rw [← Nat.add_mul, hcs]
    exact Nat.mul_le_mul_right _ (by omega)
  obtain ⟨t, ht⟩ : ∃ t, t = i + 1 + (n - j) := ⟨_, rfl⟩
  rw [← ht] at hfin htot ⊢
  have hcp1 : ∀ ty dl dc, 1 ≤ dl → (Builtin.copy_ #[128, 128] ty #[.slice (some ⟨g, i * 2, none⟩) dl dc, .slice (some ⟨vb, 0, none⟩) 1 1]).run Try.prog w = .ok (goInt (1 : Nat)) w1 := by
    intro ty dl dc hdl1
    have hmin : Nat.min 1 dl = 1 := Nat.min_eq_left hdl1
    have := run_copy_rowK (P := Try.prog) w 128 128 ty 131 g (i * 2) dl dc ⟨vb, 0, none⟩ 1 1 cur 131 2 (encR y) Try.underlying128 i_size hg (by rw [hmin, encR_len]) (hval w (Mod.refl _ _)) hf1 (SlR.one_at y)
    rw [hmin, ← hC1, hw1] at this
    first
      | exact this
      | simpa using this
  obtain ⟨w2, hw2⟩ : ∃ w2, w1.drew.setRow g C2 = w2 := ⟨_, rfl⟩
  have hg2 : w2.heap[g]? = some (.cells C2 131 (0, 0)) := by rw [← hw2]; exact setRow_heap w1.drew g _ _ _ _ hg1
  have hm2 : Mod (fun k => k = g) w w2 := by rw [← hw2]; exact hm1.drew.trans (setm _ _) (fun i hi e => e)
  have hcp2 : ∀ ty dl dc sc, dl = n - j → (Builtin.copy_ #[128, 128] ty #[.slice (some ⟨g, (i + 1) * 2, none⟩) dl dc, .slice (some ⟨g, j * 2, none⟩) (n - j) sc]).run Try.prog w1.drew = .ok (goInt (n - j : Nat)) w2 := by
    rintro ty dl dc sc rfl
    have hmin : Nat.min (n - j) (n - j) = n - j := Nat.min_self _
    have := run_copy_rowK (P := Try.prog) w1.drew 128 128 ty 131 g ((i + 1) * 2) (n - j) dc ⟨g, j * 2, none⟩ (n - j) sc C1 131 2 ((xs.drop j).flatMap encR) Try.underlying128 i_size hg1 (by rw [hdl, hmin]) (fun k u hk => by
      rw [Go.WideShapes.add_plain, cell_of_row w1.drew g _ C1 _ (0, 0) hg1, hC1]
      simpa using hcell k u hk) (by rw [hs1]; exact hf2) (one_enc' _)
    rw [hmin, hC1, List.toList_toArray, ← hC2, hw2] at this
    first
      | exact this
      | simpa using this
  have hC : ∀ ty o k c', k = n - t → o + k * 2 ≤ cap * 2 → (0 < k → o = t * 2) → (Builtin.clear_ #[128] ty #[.slice (some ⟨g, o, none⟩) k c']).run Try.prog w2 = .ok (.tuple #[]) (w2.setRow g C3) := by
    rintro ty o k c' rfl ho hpos
    have := run_clear_rowK w2 128 131 ty (.agg #[.int .i64 0, .int .i64 0]) 2 Try.underlying128 hzz rfl (fun v hv => SlR.one_zero v hv) g o (n - t) c' _ _ hg2 (by rw [hs2, hcs]; exact ho)
    rw [this, hC3, hC2, List.toList_toArray, ← ht]
    rcases Nat.eq_zero_or_pos (n - t) with h0 | h0
    · have hz0 : (Builtin.zeroCells (Value.cells (.agg #[.int .i64 0, .int .i64 0])) (n - t)).toList = [] := List.eq_nil_of_length_eq_zero (by have := zeros_len (z := (.agg #[.int .i64 0, .int .i64 0])) (sz := 2) rfl (n - t); rw [h0, Nat.zero_mul] at this; rw [h0]; exact this)
      rw [hz0, splc_nil, splc_nil]
    · rw [hpos h0]
  rw [ht] at hC hfin ⊢
  exact ⟨w1, w2, C3, hcp1, hcp2, hC, hfin _ (setRow_heap w2 g _ _ _ _ hg2), hm2.trans (setm _ _) (fun i hi e => e)⟩
theorem replace_some (g cap n i j : Nat) (xs : List (Int × Int)) (y : (Int × Int)) (w : World) (B : Nat) (h : Own w B 131 2 encR (.slice (some ⟨g, 0, none⟩) n cap) xs) (hij : i < j) (hj : j ≤ n) (hn : n ≤ 1000000) (vb : Nat) (hvb : Blk w vb 131 (encR y).toArray) (hne : vb ≠ g) :
    Calls Try.prog 87 #[.slice (some ⟨g, 0, none⟩) n cap, .int .i64 i, .int .i64 j, .slice (some ⟨vb, 0, none⟩) 1 1] w fun e w' => e = .returned (.slice (some ⟨g, 0, none⟩) (i + 1 + (n - j)) cap) ∧ Own w' B 131 2 encR (.slice (some ⟨g, 0, none⟩) (i + 1 + (n - j)) cap) (xs.take i ++ y :: xs.drop j) ∧ Mod (fun k => k = g) w w' := by
  obtain ⟨i0, hi0, hz0, hz1, hz2⟩ := info_parts i_info
  have hnl : n = xs.length := h.len rfl
  have hcm : cap ≤ maxLen := by obtain ⟨cur, r, _, _, _, _, h5, _⟩ := h.row; exact h5
  have hnc : n ≤ cap := by obtain ⟨cur, r, _, _, _, h4, _⟩ := h.row; exact h4
  have hzz : ∀ w, (zeroValue 131).run Try.prog w = .ok (.agg #[.int .i64 0, .int .i64 0]) w := fun w => by kernel_rfl
  obtain ⟨cur, hg, hlt, hcs, hf1, hl1, hf2, hl2, hcell, hfin⟩ := h.rep (y := y) encR_len hij hj (Builtin.zeroCells (Value.cells (.agg #[.int .i64 0, .int .i64 0])) (n - (i + 1 + (n - j)))).toList (zeros_len (sz := 2) rfl _)
  have hdl : (((xs.drop j).flatMap encR)).length = (n - j) * 2 := by rw [flat_len encR_len, List.length_drop, hnl]
  have hval : ∀ (W : World) (m : Mod (fun k => k = g) w W) j u, (encR y)[j]? = some u → W.cell? ((⟨vb, 0, none⟩ : Addr).add j) = some u := fun W m j u hu => by
    rw [Go.WideShapes.add_plain, Nat.zero_add, (hvb.mod m hne).cell]
    simpa using hu
  have setm : ∀ (W : World) (C : Array Value), Mod (fun k => k = g) W (W.setRow g C) := fun W C => ⟨rfl, rfl, rfl, by simp [World.setRow], fun i hi hn => setRow_other _ _ i _ hn⟩
  obtain ⟨C1, hC1⟩ : ∃ C1, C1 = (splc cur.toList (i * 2) (encR y)).toArray := ⟨_, rfl⟩
  obtain ⟨C2, hC2⟩ : ∃ C2, C2 = (splc (splc cur.toList (i * 2) (encR y)) ((i + 1) * 2) ((xs.drop j).flatMap encR)).toArray := ⟨_, rfl⟩
  obtain ⟨C3, hC3⟩ : ∃ C3, C3 = (splc (splc (splc cur.toList (i * 2) (encR y)) ((i + 1) * 2) ((xs.drop j).flatMap encR)) ((i + 1 + (n - j)) * 2) (Builtin.zeroCells (Value.cells (.agg #[.int .i64 0, .int .i64 0])) (n - (i + 1 + (n - j)))).toList).toArray := ⟨_, rfl⟩
  rw [← hC3] at hfin
  have hs1 : C1.size = cur.size := by rw [hC1, List.size_toArray, hl1]
  have hs2 : C2.size = cur.size := by rw [hC2, List.size_toArray, hl2]
  obtain ⟨w1, hw1⟩ : ∃ w1, w.setRow g C1 = w1 := ⟨_, rfl⟩
  have hg1 : w1.heap[g]? = some (.cells C1 131 (0, 0)) := by rw [← hw1]; exact setRow_heap w g cur _ _ _ hg
  have hm1 : Mod (fun k => k = g) w w1 := by rw [← hw1]; exact setm _ _
  have htot : (i + 1 + (n - j)) * 2 + (n - (i + 1 + (n - j))) * 2 ≤ cur.size := by
    rw [← Nat.add_mul, hcs]
    exact Nat.mul_le_mul_right _ (by omega)
  have hij' : (i : Int) < (j : Int) := by omega
  have hij2 : (i : Int) ≤ (j : Int) := by omega
  have hij3 : ¬ (i : Int) = (j : Int) := by omega
  have hjn : (j : Int) ≤ (n : Int) := by omega
  have hjc : (j : Int) ≤ (cap : Int) := by omega
  have hic : (i : Int) ≤ (cap : Int) := by omega
  have hw1i : IntKind.i64.wrap ((i : Int) + 1) = (i : Int) + 1 := by rw [IntKind.wrap_i64]; omega
  have hb1 : (0 : Int) ≤ (i : Int) + 1 := by omega
  have htn : ((i : Int) + 1).toNat = i + 1 := by omega
  have hb4 : ¬ (cap = i) := by omega
  by_cases hjn2 : j = n
  · subst hjn2
    have hA : ∀ ty, (Builtin.append_ #[128, 128] ty #[.slice (some ⟨g, 0, none⟩) i cap, .slice (some ⟨vb, 0, none⟩) 1 1]).run Try.prog w = .ok (.slice (some ⟨g, 0, none⟩) (i + 1) cap) w1 := fun ty => by
      have := run_append_room (P := Try.prog) w 128 ty 131 i0 Try.underlying128 hi0 g i cap cur hg ⟨vb, 0, none⟩ 1 1 (encR y) (by rw [hz1, encR_len]) (hval w (Mod.refl _ _)) (SlR.one_at y) (by omega) (by rw [hz1]; exact hf1)
      rw [hz1] at this
      rw [this, ← hw1, hC1]
      rfl
    have hd0 : ((xs.drop j).flatMap encR) = [] := List.eq_nil_of_length_eq_zero (by rw [hdl]; simp)
    have hC21 : C2 = C1 := by rw [hC2, hC1, hd0, splc_nil]
    have hC : ∀ ty o k c', k = j - (i + 1) → o = (i + 1) * 2 → (Builtin.clear_ #[128] ty #[.slice (some ⟨g, o, none⟩) k c']).run Try.prog w1 = .ok (.tuple #[]) (w1.setRow g C3) := by
      rintro ty o k c' rfl rfl
      have e0 : i + 1 + (j - j) = i + 1 := by omega
      have := run_clear_rowK w1 128 131 ty (.agg #[.int .i64 0, .int .i64 0]) 2 Try.underlying128 hzz rfl (fun v hv => SlR.one_zero v hv) g ((i + 1) * 2) (j - (i + 1)) c' _ _ hg1 (by rw [e0] at htot; rw [hs1]; exact htot)
      rw [this, hC3, ← hC21, hC2, List.toList_toArray, e0]
    have HA := Lib.hid hA
    have HC := Lib.hid hC
    have HFIN := Lib.hid hfin
    have HM1 := Lib.hid hm1
    have HG1 := Lib.hid hg1
    have HS := Lib.hid setm
    clear hA hC hfin hm1 hg1 setm hC1 hC2 hC3 hC21 hd0 hcell hdl hval hf1 hf2 hl1 hl2 hs1 hs2 htot hw1 hnl hcs
    by_cases hlast : i + 1 < j
    · have hl1' : (i : Int) + 1 < (j : Int) := by omega
      have hb2 : ¬ (cap = i + 1) := by omega
      go_enter Try.func87, Try.ntmps87
      go_wp2_with (first
        | (refine wpList_append_runs _ rfl (.tmp 32) (.tmp 33) 128 128 rfl (.slice (some ⟨g, 0, none⟩) i cap) (.slice (some ⟨vb, 0, none⟩) 1 1) rfl rfl (HA.out _) ?_)
        | (refine wpList_clear_runs _ rfl (.tmp 43) 128 rfl (.slice (some ⟨g, (i + 1) * 2, none⟩) (j - (i + 1)) (cap - (i + 1))) rfl (HC.out _ _ _ _ rfl (by simp)) ?_))
      go_ret
      have h1 := HFIN.out _ (setRow_heap w1 g _ _ _ _ HG1.out)
      simp only [Nat.sub_self, Nat.add_zero] at h1 ⊢
      exact ⟨rfl, h1, HM1.out.trans (HS.out _ _) (fun i hi e => e)⟩
    · obtain rfl : j = i + 1 := by omega
      have hl1' : ¬ (i : Int) + 1 < ((i + 1 : Nat) : Int) := by omega
      have h3 := HC.out 0 ((i + 1) * 2) 0 0 (by omega) rfl
      have h0 : (Builtin.clear_ #[128] 0 #[.slice (some ⟨g, (i + 1) * 2, none⟩) 0 0]).run Try.prog w1 = .ok (.tuple #[]) w1 := by
        simp [Builtin.clear_, run_underlying Try.underlying128]
      have h4 : w1.setRow g C3 = w1 := by
        rw [h0] at h3
        injection h3 with _ h3
        exact h3.symm
      have h1 := HFIN.out _ (setRow_heap w1 g _ _ _ _ HG1.out)
      rw [h4] at h1
      have H1 := Lib.hid h1
      clear h0 h3 h4 h1
      go_enter Try.func87, Try.ntmps87
      go_wp2_with (refine wpList_append_runs _ rfl (.tmp 32) (.tmp 33) 128 128 rfl (.slice (some ⟨g, 0, none⟩) i cap) (.slice (some ⟨vb, 0, none⟩) 1 1) rfl rfl (HA.out _) ?_)
      go_ret
      have h1 := H1.out
      simp only [Nat.sub_self, Nat.add_zero] at h1 ⊢
      exact ⟨rfl, h1, HM1.out⟩
  · have hjl : j < n := by omega
    obtain ⟨t, ht⟩ : ∃ t, t = i + 1 + (n - j) := ⟨_, rfl⟩
    have HMID := Lib.hid (fun N : Nat => rep_mid g cap n i j xs y (w.drewN N) B h hij hj hjl hn vb hvb hne)
    rw [← ht] at HMID ⊢
    have hte : (i : Int) + 1 + ((n - j : Nat) : Int) = (t : Int) := by omega
    have htc : t ≤ n := by omega
    have ht1 : i + 1 ≤ t := by omega
    have htd : t - (i + 1) = n - j := by omega
    have HTD := Lib.hid htd
    have hz1' : ¬ (cap : Int) < (t : Int) := by omega
    have hz2' : (t : Int) ≤ (cap : Int) := by omega
    have hz3' : (i : Int) + 1 ≤ (j : Int) := by omega
    have hz4' : (i : Int) ≤ (t : Int) := by omega
    have hz5' : (i : Int) + 1 ≤ (t : Int) := by omega
    have hz6' : (t : Int) ≤ (n : Int) := by omega
    have hz7' : ¬ (j : Int) = (n : Int) := by omega
    have hb2 : ¬ (cap = i + 1) := by omega
    have hb3 : ¬ (cap = j) := by omega
    clear hfin hm1 hg1 setm hC1 hC2 hC3 hcell hdl hval hf1 hf2 hl1 hl2 hs1 hs2 htot hw1 hnl hcs ht htd
    by_cases hct : cap = t
    · subst hct
      go_enter Try.func87, Try.ntmps87
      go_wp2_with fail
      go_quiet (fail)
      obtain ⟨w1, w2, C3, hcp1, hcp2, hcl, hown, hmod⟩ := HMID.out nq
      have HC1 := Lib.hid (fun ty dc => hcp1 ty (cap - i) dc (by omega))
      have HC2 := Lib.hid (fun ty dc sc => hcp2 ty (cap - (i + 1)) dc sc HTD.out)
      have HC := Lib.hid (fun ty => hcl ty 0 0 0 (by omega) (by omega) (by omega))
      have HO := Lib.hid hown
      have HMM := Lib.hid ((show Mod (fun k => k = g) w (w.drewN nq) from (Mod.refl _ w).drewN nq).trans hmod (fun i hi e => e))
      clear hcp1 hcp2 hcl hown hmod
      go_wp2_with (refine wpList_copy_run _ rfl (.tmp 95) (.tmp 96) 128 128 rfl (.slice (some ⟨g, i * 2, none⟩) (cap - i) (cap - i)) (.slice (some ⟨vb, 0, none⟩) 1 1) rfl rfl (HC1.out _ _) ?_)
      go_region_law (refine step_copy_run _ rfl (.tmp 103) (.tmp 106) 128 128 rfl (.slice (some ⟨g, (i + 1) * 2, none⟩) (cap - (i + 1)) (cap - (i + 1))) (.slice (some ⟨g, j * 2, none⟩) (n - j) (cap - j)) (by simp [Act.eval, Act.put]) (by simp [Act.eval, Act.put]) (HC2.out _ _ _) ?_)
      go_wp2_with (refine wpList_clear_runs _ rfl (.tmp 110) 128 rfl (.slice (some ⟨g, 0, none⟩) 0 0) rfl (HC.out _) ?_)
      go_ret
      exact ⟨rfl, HO.out, HMM.out⟩
    · have hct' : ¬ (cap = t) := hct
      go_enter Try.func87, Try.ntmps87
      go_wp2_with fail
      go_quiet (fail)
      obtain ⟨w1, w2, C3, hcp1, hcp2, hcl, hown, hmod⟩ := HMID.out nq
      have HC1 := Lib.hid (fun ty dc => hcp1 ty (t - i) dc (by omega))
      have HC2 := Lib.hid (fun ty dc sc => hcp2 ty (t - (i + 1)) dc sc HTD.out)
      have HC := Lib.hid (fun ty => hcl ty (t * 2) (n - t) (cap - t) rfl (by rw [← Nat.add_mul]; exact Nat.mul_le_mul_right _ (by omega)) (fun _ => rfl))
      have HO := Lib.hid hown
      have HMM := Lib.hid ((show Mod (fun k => k = g) w (w.drewN nq) from (Mod.refl _ w).drewN nq).trans hmod (fun i hi e => e))
      clear hcp1 hcp2 hcl hown hmod
      go_wp2_with (refine wpList_copy_run _ rfl (.tmp 95) (.tmp 96) 128 128 rfl (.slice (some ⟨g, i * 2, none⟩) (t - i) (cap - i)) (.slice (some ⟨vb, 0, none⟩) 1 1) rfl rfl (HC1.out _ _) ?_)
      go_region_law (refine step_copy_run _ rfl (.tmp 103) (.tmp 106) 128 128 rfl (.slice (some ⟨g, (i + 1) * 2, none⟩) (t - (i + 1)) (cap - (i + 1))) (.slice (some ⟨g, j * 2, none⟩) (n - j) (cap - j)) (by simp [Act.eval, Act.put]) (by simp [Act.eval, Act.put]) (HC2.out _ _ _) ?_)
      go_wp2_with (refine wpList_clear_runs _ rfl (.tmp 110) 128 rfl (.slice (some ⟨g, t * 2, none⟩) (n - t) (cap - t)) rfl (HC.out _) ?_)
      go_ret
      exact ⟨rfl, HO.out, HMM.out⟩
/-- Things i to j replaced by one. -/
theorem replaceW (v : Value) (i j : Nat) (xs : List (Int × Int)) (y : (Int × Int)) (w : World) (B : Nat) (h : Own w B 131 2 encR v xs) (hij : i ≤ j) (hj : j ≤ xs.length) (hn : xs.length ≤ 1000000) (vb : Nat) (hvb : Blk w vb 131 (encR y).toArray) (hne : v.ownBlock ≠ some vb) (hB : B ≤ w.heap.size) :
    Calls Try.prog 87 #[v, .int .i64 i, .int .i64 j, .slice (some ⟨vb, 0, none⟩) 1 1] w fun e w' => ∃ v', e = .returned v' ∧ Own w' B 131 2 encR v' (xs.take i ++ y :: xs.drop j) ∧ Mod (fun k => v.ownBlock = some k) w w' ∧ (v'.ownBlock = v.ownBlock ∨ v'.ownBlock = some w.heap.size) := by
  by_cases hie : i = j
  · subst hie
    have HI := Lib.hid (insertW v i xs y w B h hj hn vb hvb hne hB)
    obtain ⟨A, cap, rfl, hc, -⟩ := h.form
    generalize hN : xs.length = n at *
    have hi1 : (i : Int) ≤ (cap : Int) := by omega
    have hi2 : (i : Int) ≤ (n : Int) := by omega
    clear h hvb hne hN
    by_cases hci : cap = i
    · subst hci
      go_enter Try.func87, Try.ntmps87
      go_wp2_with fail
      refine HI.out.mono ?_
      rintro e w' ⟨v', rfl, h1, h2, h3⟩
      have H1 := Lib.hid h1
      have H2 := Lib.hid h2
      have H3 := Lib.hid h3
      clear h1 h2 h3
      go_wp2_with fail
      go_ret
      exact ⟨v', rfl, H1.out, H2.out, H3.out⟩
    · go_enter Try.func87, Try.ntmps87
      go_wp2_with fail
      refine HI.out.mono ?_
      rintro e w' ⟨v', rfl, h1, h2, h3⟩
      have H1 := Lib.hid h1
      have H2 := Lib.hid h2
      have H3 := Lib.hid h3
      clear h1 h2 h3
      go_wp2_with fail
      go_ret
      exact ⟨v', rfl, H1.out, H2.out, H3.out⟩
  · obtain ⟨g, cap, rfl, hc, hg1, hg2⟩ := h.form1 (by omega)
    have hne' : vb ≠ g := fun e => hne (by rw [e]; rfl)
    refine (replace_some g cap _ i j xs y w B h (by omega) hj hn vb hvb hne').mono ?_
    rintro e w' ⟨rfl, h1, h2⟩
    exact ⟨_, rfl, h1, h2.mono (fun k hk e => by rw [e]; rfl), .inl rfl⟩
end Go.Proofs.Ytddnlbkocmpffaa.SlR
namespace Go.Proofs.Ytddnlbkocmpffaa.SlU
open Go.RowKit
set_option linter.unusedVariables false
set_option maxHeartbeats 4000000
set_option maxRecDepth 100000
theorem one_enc (l : List Int) : ∀ v ∈ l.flatMap encU, v.oneCell' = true := fun v hv => by
  obtain ⟨x, _, hx⟩ := List.mem_flatMap.1 hv
  exact SlU.one_at x v hx
theorem deleteW (g cap n i j : Nat) (xs : List Int) (w : World) (B : Nat) (h : Own w B 29 1 encU (.slice (some ⟨g, 0, none⟩) n cap) xs) (hij : i < j) (hj : j ≤ n) (hn : n ≤ 1000000) :
    Calls Try.prog 93 #[.slice (some ⟨g, 0, none⟩) n cap, .int .i64 i, .int .i64 j] w fun e w' => e = .returned (.slice (some ⟨g, 0, none⟩) (n - (j - i)) cap) ∧ Own w' B 29 1 encU (.slice (some ⟨g, 0, none⟩) (n - (j - i)) cap) (xs.take i ++ xs.drop j) ∧ Mod (fun k => k = g) w w' := by
  obtain ⟨i0, hi0, hz0, hz1, hz2⟩ := info_parts (show (Try.prog.info? 29).map (fun i => (i.zero, i.size, i.bytes)) = some (some (.int .u64 0), 1, 8) by kernel_rfl)
  have hcells := h.cells encU_len j
  have hnc : n ≤ cap := by obtain ⟨A, c, e, h1, _⟩ := h.form; injection e with _ e2 e3; omega
  have hnl : n = xs.length := h.len rfl
  have hdl : ((xs.drop j).flatMap encU).length = (n - j) * 1 := by rw [flat_len encU_len, List.length_drop, hnl]
  have hcm : cap ≤ maxLen := by obtain ⟨cur, r, _, _, _, _, h5, _⟩ := h.row; exact h5
  have hzz : ∀ w, (zeroValue 29).run Try.prog w = .ok (.int .u64 0) w := fun w => by kernel_rfl
  obtain ⟨cur, hg, hlt, hf1, hf2, hf3, hfin⟩ := h.del encU_len (Nat.le_of_lt hij) hj (Builtin.zeroCells (Value.cells (.int .u64 0)) (j - i)).toList (zeros_len (sz := 1) rfl _)
  have hA : ∀ ty (a : Addr) c', (0 < n - j → a = ⟨g, j, none⟩) → (Builtin.append_ #[67, 67] ty #[.slice (some ⟨g, 0, none⟩) i cap, .slice (some a) (n - j) c']).run Try.prog w.drew = .ok (.slice (some ⟨g, 0, none⟩) (i + (n - j)) cap) (w.drew.setRow g (splc cur.toList (i * 1) ((xs.drop j).flatMap encU)).toArray) := fun ty a c' ha => by
    have := run_append_room (P := Try.prog) w.drew 67 ty 29 i0 Try.underlying67 hi0 g i cap cur hg a (n - j) c' ((xs.drop j).flatMap encU) (by rw [hdl, hz1]) (fun k u hk => by
      have hk' := (List.getElem?_eq_some_iff.1 hk).1
      have hnj : 0 < n - j := by
        rcases Nat.eq_zero_or_pos (n - j) with h0 | h0
        · rw [hdl, h0] at hk'; omega
        · exact h0
      rw [ha hnj, Go.WideShapes.add_plain]
      exact (by simpa using hcells k u hk)) (one_enc _) (by omega) (by rw [hz1]; exact hf1)
    rw [hz1] at this
    exact this
  obtain ⟨w2, hw2⟩ : ∃ w2, w.drew.setRow g (splc cur.toList (i * 1) ((xs.drop j).flatMap encU)).toArray = w2 := ⟨_, rfl⟩
  have hg2 : w2.heap[g]? = some (.cells (splc cur.toList (i * 1) ((xs.drop j).flatMap encU)).toArray 29 (0, 0)) := by
    rw [← hw2]
    exact setRow_heap w.drew g cur _ _ _ hg
  have hC : ∀ ty c', (Builtin.clear_ #[67] ty #[.slice (some ⟨g, (n - (j - i)) * 1, none⟩) (j - i) c']).run Try.prog w2 = .ok (.tuple #[]) (w2.setRow g (splc (splc cur.toList (i * 1) ((xs.drop j).flatMap encU)) ((n - (j - i)) * 1) (Builtin.zeroCells (Value.cells (.int .u64 0)) (j - i)).toList).toArray) := fun ty c' => by
    have := run_clear_rowK w2 67 29 ty (.int .u64 0) 1 Try.underlying67 hzz rfl (fun v hv => SlU.one_zero v hv) g ((n - (j - i)) * 1) (j - i) c' _ _ hg2 (by rw [List.size_toArray, hf2]; omega)
    rw [List.toList_toArray] at this
    exact this
  obtain ⟨C2, hC2e⟩ : ∃ C2, C2 = (splc (splc cur.toList (i * 1) ((xs.drop j).flatMap encU)) ((n - (j - i)) * 1) (Builtin.zeroCells (Value.cells (.int .u64 0)) (j - i)).toList).toArray := ⟨_, rfl⟩
  rw [← hC2e] at hC hfin
  have hC2 : ∀ ty c' o k, o = n - (j - i) → k = j - i → (Builtin.clear_ #[67] ty #[.slice (some ⟨g, o, none⟩) k c']).run Try.prog w2 = .ok (.tuple #[]) (w2.setRow g C2) := by
    rintro ty c' o k rfl rfl
    exact (by simpa using hC ty c')
  have HC := Lib.hid hC2
  clear hC hC2
  rw [hw2] at hA
  have HFIN := Lib.hid (fun w' h => hfin w' h)
  have hm2 : Mod (fun k => k = g) w w2 := by
    rw [← hw2]
    exact ⟨rfl, rfl, rfl, by simp [World.setRow], fun i hi hn => setRow_other _ _ i _ hn⟩
  have HM2 := Lib.hid hm2
  have HG2 := Lib.hid hg2
  have hz1' : (i : Int) ≤ (j : Int) := by omega
  have hz2' : (j : Int) ≤ (n : Int) := by omega
  have hz4' : (i : Int) ≤ (cap : Int) := by omega
  have hz5' : (j : Int) ≤ (cap : Int) := by omega
  have hz6' : (n : Int) ≤ (cap : Int) := by omega
  have hz3' : ¬ (i : Int) = (j : Int) := by omega
  clear hC2e hfin hm2 hg2 hw2 hcells hdl hf1 hf2 hf3 hnl
  by_cases hjc : j = cap
  · subst hjc
    obtain rfl : n = j := by omega
    have hA1 := fun ty c' => hA ty ⟨g, 0, none⟩ c' (fun e => by omega)
    simp only [Nat.sub_self, Nat.add_zero] at hA1
    have HA := Lib.hid hA1
    clear hA hA1
    go_enter Try.func93, Try.ntmps93
    go_wp2_with fail
    go_region_law (refine step_append_runs _ rfl (.tmp 22) (.tmp 25) 67 67 rfl (.slice (some ⟨g, 0, none⟩) i n) (.slice (some ⟨g, 0, none⟩) 0 0) (by simp [Act.eval, Act.put]) (by simp [Act.eval, Act.put]) (HA.out _ _) ?_)
    go_wp2_with (refine wpList_clear_runs _ rfl (.tmp 31) 67 rfl (.slice (some ⟨g, i, none⟩) (n - i) (n - i)) (by simp [Act.eval]) (HC.out _ _ _ _ (by omega) (by omega)) ?_)
    go_ret
    have hown := HFIN.out _ (setRow_heap w2 g _ _ _ _ HG2.out)
    have hmod := HM2.out.trans (show Mod (fun k => k = g) w2 (w2.setRow g C2) from ⟨rfl, rfl, rfl, by simp [World.setRow], fun i hi hn => setRow_other _ _ i _ hn⟩) (fun i hi e => e)
    have he : i = n - (n - i) := by omega
    exact ⟨by rw [← he]; rfl, hown, hmod⟩
  · have hjc' : ¬ cap = j := fun e => hjc e.symm
    have hA1 := fun ty c' => hA ty ⟨g, j, none⟩ c' (fun e => rfl)
    have HA := Lib.hid hA1
    clear hA hA1
    go_enter Try.func93, Try.ntmps93
    go_wp2_with fail
    go_region_law (refine step_append_runs _ rfl (.tmp 22) (.tmp 25) 67 67 rfl (.slice (some ⟨g, 0, none⟩) i cap) (.slice (some ⟨g, j, none⟩) (n - j) (cap - j)) (by simp [Act.eval, Act.put]) (by simp [Act.eval, Act.put]) (HA.out _ _) ?_)
    go_wp2_with (refine wpList_clear_runs _ rfl (.tmp 31) 67 rfl (.slice (some ⟨g, i + (n - j), none⟩) (n - (i + (n - j))) (cap - (i + (n - j)))) (by simp [Act.eval]) (HC.out _ _ _ _ (by omega) (by omega)) ?_)
    go_ret
    have hown := HFIN.out _ (setRow_heap w2 g _ _ _ _ HG2.out)
    have hmod := HM2.out.trans (show Mod (fun k => k = g) w2 (w2.setRow g C2) from ⟨rfl, rfl, rfl, by simp [World.setRow], fun i hi hn => setRow_other _ _ i _ hn⟩) (fun i hi e => e)
    have he : i + (n - j) = n - (j - i) := by omega
    exact ⟨by rw [← he]; rfl, hown, hmod⟩
end Go.Proofs.Ytddnlbkocmpffaa.SlU
namespace Go.Proofs.Ytddnlbkocmpffaa.SlU
open Go.RowKit
set_option linter.unusedVariables false
set_option maxHeartbeats 8000000
set_option maxRecDepth 100000
theorem one_enc' (l : List Int) : ∀ v ∈ l.flatMap encU, v.oneCell' = true := fun v hv => by
  obtain ⟨x, _, hx⟩ := List.mem_flatMap.1 hv
  exact SlU.one_at x v hx
theorem i_info : (Try.prog.info? 29).map (fun i => (i.zero, i.size, i.bytes)) = some (some (.int .u64 0), 1, 8) := by kernel_rfl
theorem i_size : (Try.prog.info? 29).map (·.size) = some 1 := by kernel_rfl
theorem i_sizeOf (w : World) : (sizeOf 29).run Try.prog w = .ok 1 w := by kernel_rfl
/-- Behind the last one. -/
theorem insert_end (v : Value) (xs : List Int) (y : Int) (w : World) (B : Nat) (h : Own w B 29 1 encU v xs) (hn : xs.length ≤ 1000000) (vb : Nat) (hvb : Blk w vb 29 (encU y).toArray) (hB : B ≤ w.heap.size) :
    Calls Try.prog 68 #[v, .int .i64 xs.length, .slice (some ⟨vb, 0, none⟩) 1 1] w fun e w' => ∃ v', e = .returned v' ∧ Own w' B 29 1 encU v' (xs ++ [y]) ∧ Mod (fun k => v.ownBlock = some k) w w' ∧ (v'.ownBlock = v.ownBlock ∨ v'.ownBlock = some w.heap.size) := by
  obtain ⟨i0, hi0, hz0, hz1, hz2⟩ := info_parts i_info
  obtain ⟨A, cap, rfl, hc, -⟩ := h.form
  generalize hnl : xs.length = n at *
  have hnc : (n : Int) ≤ (cap : Int) := by omega
  have HOW := Lib.hid (show w.ownsRow B 29 1 (.slice A n cap) n (xs.flatMap encU) by have := h; unfold Own at this; rwa [hnl] at this)
  have hread : Reads w w.heap.size 1 (some ⟨vb, 0, none⟩) 1 (encU y) := ⟨by rw [encU_len, Nat.one_mul], fun _ => ⟨_, rfl, hvb.lt, fun j u hu => by
    rw [Go.WideShapes.add_plain, Nat.zero_add, hvb.cell]
    simpa using hu⟩⟩
  have HV := Lib.hid hread
  have HNL := Lib.hid hnl
  clear hread hnl h hvb
  by_cases hcn : cap = n
  · subst hcn
    go_enter Try.func68, Try.ntmps68
    go_wp2_with (at_builtin
                 refine wpList_append_any _ rfl (.tmp 23) (.tmp 24) 67 rfl B 29 i0 _ 1 8 Try.underlying67 hi0 hz0 hz1 hz2 rfl (by omega) (.slice A cap cap) cap (xs.flatMap encU) rfl HOW.out _ (some ⟨vb, 0, none⟩) 1 1 (encU y) rfl HV.out (SlU.one_at y) (by simp only [maxLen]; omega) (by omega) hB ?_
                 intro v' w' hown hgr hat)
    have ho : Own w' B 29 1 encU v' (xs ++ [y]) := by
      unfold Own
      rw [List.length_append, flat_snoc, HNL.out]
      exact hown
    have HO := Lib.hid ho
    have HM := Lib.hid (Mod.ofGrown hgr)
    have HBB := Lib.hid hat
    clear ho hown hgr hat
    go_wp2_with fail
    go_ret
    exact ⟨_, rfl, HO.out, HM.out, HBB.out⟩
  · go_enter Try.func68, Try.ntmps68
    go_wp2_with (at_builtin
                 refine wpList_append_any _ rfl (.tmp 23) (.tmp 24) 67 rfl B 29 i0 _ 1 8 Try.underlying67 hi0 hz0 hz1 hz2 rfl (by omega) (.slice A n cap) n (xs.flatMap encU) rfl HOW.out _ (some ⟨vb, 0, none⟩) 1 1 (encU y) rfl HV.out (SlU.one_at y) (by simp only [maxLen]; omega) (by omega) hB ?_
                 intro v' w' hown hgr hat)
    have ho : Own w' B 29 1 encU v' (xs ++ [y]) := by
      unfold Own
      rw [List.length_append, flat_snoc, HNL.out]
      exact hown
    have HO := Lib.hid ho
    have HM := Lib.hid (Mod.ofGrown hgr)
    have HBB := Lib.hid hat
    clear ho hown hgr hat
    go_wp2_with fail
    go_ret
    exact ⟨_, rfl, HO.out, HM.out, HBB.out⟩
/-- Ahead of others, where there is room. -/
theorem insert_room (g cap n i : Nat) (xs : List Int) (y : Int) (w : World) (B : Nat) (h : Own w B 29 1 encU (.slice (some ⟨g, 0, none⟩) n cap) xs) (hi : i < n) (hn : n ≤ 1000000) (hroom : n + 1 ≤ cap) (vb : Nat) (hvb : Blk w vb 29 (encU y).toArray) (hne : vb ≠ g) :
    Calls Try.prog 68 #[.slice (some ⟨g, 0, none⟩) n cap, .int .i64 i, .slice (some ⟨vb, 0, none⟩) 1 1] w fun e w' => e = .returned (.slice (some ⟨g, 0, none⟩) (n + 1) cap) ∧ Own w' B 29 1 encU (.slice (some ⟨g, 0, none⟩) (n + 1) cap) (xs.take i ++ y :: xs.drop i) ∧ Mod (fun k => k = g) w w' := by
  have hnl : n = xs.length := h.len rfl
  have hcm : cap ≤ maxLen := by obtain ⟨cur, r, _, _, _, _, h5, _⟩ := h.row; exact h5
  obtain ⟨cur, hg, hlt, hcs, hf1, hf2, hf3, hfin⟩ := h.ins (y := y) encU_len (Nat.le_of_lt hi) hroom
  have hcells := h.cells encU_len i
  have hdl : (((xs.drop i).flatMap encU)).length = (n - i) * 1 := by rw [flat_len encU_len, List.length_drop, hnl]
  have hbs := hvb.lt
  have hov : ∀ lb cb, (callFunc 91 #[.slice (some ⟨vb, 0, none⟩) 1 1, .slice (some ⟨g, i + 1, none⟩) lb cb]).run Try.prog w = .ok (.value (.bool false)) w := fun lb cb => by
    rw [run_callFunc_extern Try.func91 (by kernel_rfl) (by kernel_rfl) (by kernel_rfl) (e := Extern.SlicesOverlaps.overlaps #[67, 67] #[4]) (by kernel_rfl),
      Lib.run_overlaps_apart w 67 4 29 Try.underlying67 1 i_sizeOf ⟨vb, 0, none⟩ ⟨g, i + 1, none⟩ 1 1 lb cb hne 29 29 1 (cap * 1) (by have := shape_row hvb; simpa using this) (by have := shape_row hg; rwa [hcs] at this) (by omega) (hvb.free _) (hvb.free _)]
    rfl
  have hcp1 : ∀ ty dl dc sl sc, dl = n - i → sl = n + 1 - i → (Builtin.copy_ #[67, 67] ty #[.slice (some ⟨g, i + 1, none⟩) dl dc, .slice (some ⟨g, i, none⟩) sl sc]).run Try.prog w.drew = .ok (goInt (n - i : Nat)) (w.drew.setRow g (splc cur.toList ((i + 1) * 1) ((xs.drop i).flatMap encU)).toArray) := by
    rintro ty dl dc sl sc rfl rfl
    have hmin : Nat.min (n + 1 - i) (n - i) = n - i := Nat.min_eq_right (by omega)
    have := run_copy_rowK (P := Try.prog) w.drew 67 67 ty 29 g ((i + 1) * 1) (n - i) dc ⟨g, i * 1, none⟩ (n + 1 - i) sc cur 29 1 ((xs.drop i).flatMap encU) Try.underlying67 i_size hg (by rw [hdl, hmin]) (fun k u hk => by
      rw [Go.WideShapes.add_plain]
      exact hcells k u hk) hf1 (one_enc' _)
    rw [hmin] at this
    first
      | exact this
      | simpa using this
  obtain ⟨w2, hw2⟩ : ∃ w2, w.drew.setRow g (splc cur.toList ((i + 1) * 1) ((xs.drop i).flatMap encU)).toArray = w2 := ⟨_, rfl⟩
  have hg2 : w2.heap[g]? = some (.cells (splc cur.toList ((i + 1) * 1) ((xs.drop i).flatMap encU)).toArray 29 (0, 0)) := by
    rw [← hw2]
    exact setRow_heap w.drew g cur _ _ _ hg
  have hm2 : Mod (fun k => k = g) w w2 := by
    rw [← hw2]
    exact ⟨rfl, rfl, rfl, by simp [World.setRow], fun i hi hn => setRow_other _ _ i _ hn⟩
  obtain ⟨C2, hC2e⟩ : ∃ C2, C2 = (splc (splc cur.toList ((i + 1) * 1) ((xs.drop i).flatMap encU)) (i * 1) (encU y)).toArray := ⟨_, rfl⟩
  have hcp2 : ∀ ty dl dc, dl = n + 1 - i → (Builtin.copy_ #[67, 67] ty #[.slice (some ⟨g, i, none⟩) dl dc, .slice (some ⟨vb, 0, none⟩) 1 1]).run Try.prog w2 = .ok (goInt (1 : Nat)) (w2.setRow g C2) := by
    rintro ty dl dc rfl
    have hmin : Nat.min 1 (n + 1 - i) = 1 := Nat.min_eq_left (by omega)
    have := run_copy_rowK (P := Try.prog) w2 67 67 ty 29 g (i * 1) (n + 1 - i) dc ⟨vb, 0, none⟩ 1 1 _ 29 1 (encU y) Try.underlying67 i_size hg2 (by rw [hmin, encU_len]) (fun k u hk => by
      rw [Go.WideShapes.add_plain, Nat.zero_add, (hvb.mod hm2 hne).cell]
      simpa using hk) (by rw [List.size_toArray, hf2]; exact hf3) (SlU.one_at y)
    rw [hmin, List.toList_toArray, ← hC2e] at this
    first
      | exact this
      | simpa using this
  rw [← hC2e] at hfin
  rw [hw2] at hcp1
  have HC1 := Lib.hid hcp1
  have HC2 := Lib.hid hcp2
  have HFIN := Lib.hid hfin
  have HM2 := Lib.hid hm2
  have HG2 := Lib.hid hg2
  have hw1 : IntKind.i64.wrap ((i : Int) + 1) = (i : Int) + 1 := by rw [IntKind.wrap_i64]; omega
  have hw3 : IntKind.i64.wrap ((n : Int) + 1) = (n : Int) + 1 := by rw [IntKind.wrap_i64]; omega
  have hz2 : ¬ ((i : Int) = (n : Int)) := by omega
  have hb1 : (0 : Int) ≤ (i : Int) + 1 := by omega
  have htn : ((i : Int) + 1).toNat = i + 1 := by omega
  have htm : ((n : Int) + 1).toNat = n + 1 := by omega
  have hb2 : ¬ (cap = i + 1) := by omega
  have hb3 : (i : Int) ≤ (n : Int) + 1 := by omega
  have hb4 : ¬ (cap = i) := by omega
  have hb5 : (i : Int) ≤ (n : Int) := by omega
  have hb6 : (n : Int) + 1 ≤ (cap : Int) := by omega
  have hb7 : (i : Int) + 1 ≤ (n : Int) + 1 := by omega
  have hb8 : ¬ (cap : Int) < (n : Int) + 1 := by omega
  clear hcp1 hcp2 hfin hm2 hg2 hw2 hC2e hcells hdl hf1 hf2 hf3 hnl
  go_enter Try.func68, Try.ntmps68
  go_wp2_with (simp only [hov])
  go_region_law (refine step_copy_run _ rfl (.tmp 73) (.tmp 76) 67 67 rfl (.slice (some ⟨g, i + 1, none⟩) (n - i) (cap - (i + 1))) (.slice (some ⟨g, i, none⟩) (n + 1 - i) (cap - i)) (by simp [Act.eval, Act.put]) (by simp [Act.eval, Act.put]) (HC1.out _ _ _ _ _ rfl rfl) ?_)
  go_wp2_with (refine wpList_copy_run _ rfl (.tmp 80) (.tmp 81) 67 67 rfl (.slice (some ⟨g, i, none⟩) (n + 1 - i) (cap - i)) (.slice (some ⟨vb, 0, none⟩) 1 1) rfl rfl (HC2.out _ _ _ rfl) ?_)
  go_ret
  exact ⟨rfl, HFIN.out _ (setRow_heap w2 g _ _ _ _ HG2.out), HM2.out.trans (show Mod (fun k => k = g) w2 (w2.setRow g C2) from ⟨rfl, rfl, rfl, by simp [World.setRow], fun i hi hn => setRow_other _ _ i _ hn⟩) (fun i hi e => e)⟩
/-- Ahead of others, where there is no room. -/
theorem insert_grow (g cap n i : Nat) (xs : List Int) (y : Int) (w : World) (B : Nat) (h : Own w B 29 1 encU (.slice (some ⟨g, 0, none⟩) n cap) xs) (hi : i < n) (hn : n ≤ 1000000) (hroom : cap < n + 1) (vb : Nat) (hvb : Blk w vb 29 (encU y).toArray) (hne : vb ≠ g) (hB : B ≤ w.heap.size) :
    Calls Try.prog 68 #[.slice (some ⟨g, 0, none⟩) n cap, .int .i64 i, .slice (some ⟨vb, 0, none⟩) 1 1] w fun e w' => ∃ G, e = .returned (.slice (some ⟨w.heap.size, 0, none⟩) (n + 1) G) ∧ Own w' B 29 1 encU (.slice (some ⟨w.heap.size, 0, none⟩) (n + 1) G) (xs.take i ++ y :: xs.drop i) ∧ Mod (fun _ => False) w w' := by
  obtain ⟨i0, hi0, hz0, hz1, hz2⟩ := info_parts i_info
  have hnl : n = xs.length := h.len rfl
  obtain ⟨cur, r, hg, hb, -, hnc, hcm, hcs, hct⟩ := h.row
  have hlt : g < w.heap.size := (Array.getElem?_eq_some_iff.1 hg).1
  have hcells := h.cells encU_len i
  have hcells0 := h.cells encU_len 0
  have hdl : (((xs.drop i).flatMap encU)).length = (n - i) * 1 := by rw [flat_len encU_len, List.length_drop, hnl]
  have htl : ((xs.take i).flatMap encU).length = i * 1 := by rw [flat_len encU_len, List.length_take, ← hnl, Nat.min_eq_left (by omega)]
  have hold : (Builtin.firstCells i0.size i (.slice (some ⟨g, 0, none⟩) i cap)).run Try.prog w.drew = .ok ((xs.take i).flatMap encU).toArray w.drew := by
    rw [hz1]
    exact run_firstCells_some w.drew 1 i ⟨g, 0, none⟩ i cap _ (by rw [htl]) (fun k u hk => by
      rw [Go.WideShapes.add_plain]
      rw [← flat_take encU_len i xs, List.getElem?_take] at hk
      split at hk
      · have := hcells0 k u (by rw [List.drop_zero]; exact hk)
        simpa using this
      · cases hk)
  have hik : i + (n + 1 - i) = n + 1 := by omega
  have hkk : (n : Int) + 1 - (i : Int) = ((n + 1 - i : Nat) : Int) := by omega
  obtain ⟨G, hG⟩ : ∃ G, G = grownCap w (n + 1) cap 29 := ⟨_, rfl⟩
  have hGn : n + 1 ≤ G := by rw [hG]; exact grownCap_ge w _ _ _
  have hGm : G ≤ maxLen := by rw [hG]; exact grownCap_le_maxLen w (n + 1) cap 29 (by unfold maxLen; omega)
  obtain ⟨zs, hzs⟩ : ∃ zs, zs = (Builtin.zeroCells (Value.cells (.int .u64 0)) (n + 1 - i) ++ Builtin.zeroCells (Value.cells (.int .u64 0)) (G - (n + 1))).toList := ⟨_, rfl⟩
  have hzl : zs.length = (G - i) * 1 := by
    rw [hzs, Array.length_toList, Array.size_append, size_zeroCells, size_zeroCells, show (Value.cells (.int .u64 0)).size = 1 from rfl, ← Nat.add_mul]
    congr 1
    omega
  have hrz : ∀ ty, (Builtin.append_ #[67, 3] ty #[.slice (some ⟨g, 0, none⟩) i cap, .int .i64 ((n : Int) + 1 - (i : Int))]).run Try.prog w = .ok (.slice (some ⟨w.heap.size, 0, none⟩) (n + 1) G) (w.drew.alloc (.cells ((xs.take i).flatMap encU ++ zs).toArray 29)) := fun ty => by
    have h := Lib.run_append_grow_zeros w 67 3 ty 29 i0 _ .i64 .i64 Try.underlying67 Try.underlying3 hi0 hz0 (some ⟨g, 0, none⟩) i cap _ hold (n + 1 - i) (by omega) (by omega) (by omega) (by omega) (by rw [hz2]; omega) (by rw [hz2, hik]; exact growslice_fits (by omega) (by omega))
    rw [hik, ← hG] at h
    have happ : ∀ (l : List Value) (A B : Array Value), (l ++ (A ++ B).toList).toArray = l.toArray ++ A ++ B := fun l A B => by
      apply Array.toList_inj.1
      simp
    rw [hkk, h, hzs, happ]
  obtain ⟨w1, hw1⟩ : ∃ w1, w.drew.alloc (.cells ((xs.take i).flatMap encU ++ zs).toArray 29) = w1 := ⟨_, rfl⟩
  have hg1 : w1.heap[w.heap.size]? = some (.cells ((xs.take i).flatMap encU ++ zs).toArray 29 (0, 0)) := by rw [← hw1]; exact heap_alloc_new w.drew _
  have hm1 : Mod (fun _ => False) w w1 := by rw [← hw1]; exact ((Mod.refl (fun _ => False) w).drew).alloc _
  have hrl : ((xs.take i).flatMap encU ++ zs).length = G * 1 := by
    rw [List.length_append, htl, hzl, ← Nat.add_mul]
    congr 1
    omega
  obtain ⟨C1, hC1⟩ : ∃ C1, C1 = (splc ((xs.take i).flatMap encU ++ zs) (i * 1) (encU y)).toArray := ⟨_, rfl⟩
  have hf3 : i * 1 + (encU y).length ≤ G * 1 := by
    rw [encU_len]
    have := Nat.mul_le_mul_right 1 (show i + 1 ≤ G by omega)
    omega
  have hcp1 : ∀ ty dl dc, dl = n + 1 - i → (Builtin.copy_ #[67, 67] ty #[.slice (some ⟨w.heap.size, i, none⟩) dl dc, .slice (some ⟨vb, 0, none⟩) 1 1]).run Try.prog w1 = .ok (goInt (1 : Nat)) (w1.setRow w.heap.size C1) := by
    rintro ty dl dc rfl
    have hmin : Nat.min 1 (n + 1 - i) = 1 := Nat.min_eq_left (by omega)
    have := run_copy_rowK (P := Try.prog) w1 67 67 ty 29 w.heap.size (i * 1) (n + 1 - i) dc ⟨vb, 0, none⟩ 1 1 _ 29 1 (encU y) Try.underlying67 i_size hg1 (by rw [hmin, encU_len]) (fun k u hk => by
      rw [Go.WideShapes.add_plain, Nat.zero_add, (hvb.mod hm1 (fun e => e)).cell]
      simpa using hk) (by rw [List.size_toArray, hrl]; exact hf3) (SlU.one_at y)
    rw [hmin, List.toList_toArray, ← hC1] at this
    first
      | exact this
      | simpa using this
  obtain ⟨w2, hw2⟩ : ∃ w2, w1.setRow w.heap.size C1 = w2 := ⟨_, rfl⟩
  have hg2 : w2.heap[w.heap.size]? = some (.cells C1 29 (0, 0)) := by
    rw [← hw2]
    exact setRow_heap w1 _ _ _ _ _ hg1
  have hm2 : Mod (fun _ => False) w w2 := by
    rw [← hw2]
    exact hm1.trans (show Mod (fun k => k = w.heap.size) w1 (w1.setRow w.heap.size C1) from ⟨rfl, rfl, rfl, by simp [World.setRow], fun i hi hn => setRow_other _ _ i _ hn⟩) (fun i hi e => by omega)
  have hc1l : C1.size = G * 1 := by rw [hC1, List.size_toArray, splc_len (by rw [hrl]; exact hf3), hrl]
  obtain ⟨C2, hC2⟩ : ∃ C2, C2 = (splc C1.toList ((i + 1) * 1) ((xs.drop i).flatMap encU)).toArray := ⟨_, rfl⟩
  have hcp2 : ∀ ty dl dc sl sc, dl = n - i → sl = n - i → (Builtin.copy_ #[67, 67] ty #[.slice (some ⟨w.heap.size, i + 1, none⟩) dl dc, .slice (some ⟨g, i, none⟩) sl sc]).run Try.prog w2.drew = .ok (goInt (n - i : Nat)) (w2.drew.setRow w.heap.size C2) := by
    rintro ty dl dc sl sc rfl rfl
    have hmin : Nat.min (n - i) (n - i) = n - i := Nat.min_self _
    have := run_copy_rowK (P := Try.prog) w2.drew 67 67 ty 29 w.heap.size ((i + 1) * 1) (n - i) dc ⟨g, i * 1, none⟩ (n - i) sc C1 29 1 ((xs.drop i).flatMap encU) Try.underlying67 i_size hg2 (by rw [hdl, hmin]) (fun k u hk => by
      rw [Go.WideShapes.add_plain]
      exact (hm2.cell (p := ⟨g, i * 1 + k, none⟩) hlt (fun e => e)).trans (hcells k u hk)) (by
        rw [hdl, hc1l, ← Nat.add_mul]
        exact Nat.mul_le_mul_right _ (by omega)) (one_enc' _)
    rw [hmin, ← hC2] at this
    first
      | exact this
      | simpa using this
  have hfin : ∀ w' : World, w'.heap[w.heap.size]? = some (.cells C2 29 (0, 0)) → Own w' B 29 1 encU (.slice (some ⟨w.heap.size, 0, none⟩) (n + 1) G) (xs.take i ++ y :: xs.drop i) := fun w' hw' => by
    rw [hC2, hC1, List.toList_toArray] at hw'
    exact Own.ins_new encU_len hnl (by omega) hGn hGm hB (by rw [hzl, ← Nat.add_mul]; congr 1; omega) hw'
  have HC1 := Lib.hid hcp1
  have HC2 := Lib.hid hcp2
  have HRZ := Lib.hid hrz
  have HFIN := Lib.hid hfin
  have HM2 := Lib.hid hm2
  have HG2 := Lib.hid hg2
  rw [hw1] at HRZ
  rw [hw2] at HC1
  have hw1' : IntKind.i64.wrap ((i : Int) + 1) = (i : Int) + 1 := by rw [IntKind.wrap_i64]; omega
  have hw3 : IntKind.i64.wrap ((n : Int) + 1) = (n : Int) + 1 := by rw [IntKind.wrap_i64]; omega
  have hw4 : IntKind.i64.wrap ((n : Int) + 1 - (i : Int)) = (n : Int) + 1 - (i : Int) := by rw [IntKind.wrap_i64]; omega
  have hz2' : ¬ ((i : Int) = (n : Int)) := by omega
  have hb1 : (0 : Int) ≤ (i : Int) + 1 := by omega
  have htn : ((i : Int) + 1).toNat = i + 1 := by omega
  have hb2 : ¬ (G = i + 1) := by omega
  have hb3 : (i : Int) ≤ (n : Int) + 1 := by omega
  have hb4 : ¬ (cap = i) := by omega
  have hb4' : ¬ (G = i) := by omega
  have hb5 : (i : Int) ≤ (n : Int) := by omega
  have hb6 : (i : Int) ≤ (cap : Int) := by omega
  have hb7 : (i : Int) + 1 ≤ (n : Int) + 1 := by omega
  have hb8 : (cap : Int) < (n : Int) + 1 := by omega
  generalize hN : w.heap.size = N at *
  clear hcp1 hcp2 hfin hm2 hm1 hg1 hg2 hw1 hw2 hC2 hC1 hcells hcells0 hdl htl hrz hold hzs hzl hrl hf3 hc1l hnl hct hG hcs hik hkk
  go_enter Try.func68, Try.ntmps68
  go_wp2_with (first
    | (refine wpList_append_runs _ rfl (.tmp 34) (.tmp 39) 67 3 rfl (.slice (some ⟨g, 0, none⟩) i cap) (.int .i64 ((n : Int) + 1 - (i : Int))) rfl rfl (HRZ.out _) ?_)
    | (refine wpList_copy_run _ rfl (.tmp 43) (.tmp 44) 67 67 rfl (.slice (some ⟨N, i, none⟩) (n + 1 - i) (G - i)) (.slice (some ⟨vb, 0, none⟩) 1 1) rfl rfl (HC1.out _ _ _ rfl) ?_))
  go_region_law (refine step_copy_run _ rfl (.tmp 50) (.tmp 53) 67 67 rfl (.slice (some ⟨N, i + 1, none⟩) (n - i) (G - (i + 1))) (.slice (some ⟨g, i, none⟩) (n - i) (cap - i)) (by simp [Act.eval, Act.put]) (by simp [Act.eval, Act.put]) (HC2.out _ _ _ _ _ rfl rfl) ?_)
  go_wp2_with fail
  go_ret
  have hmm : Mod (fun k => k = N) w2.drew (w2.drew.setRow N C2) := ⟨rfl, rfl, rfl, by simp [World.setRow], fun i hi hn => setRow_other _ _ i _ hn⟩
  exact ⟨G, rfl, HFIN.out _ (setRow_heap w2.drew _ _ _ _ _ HG2.out), HM2.out.drew.trans hmm (fun i hi e => by omega)⟩
/-- One thing put in. -/
theorem insertW (v : Value) (i : Nat) (xs : List Int) (y : Int) (w : World) (B : Nat) (h : Own w B 29 1 encU v xs) (hi : i ≤ xs.length) (hn : xs.length ≤ 1000000) (vb : Nat) (hvb : Blk w vb 29 (encU y).toArray) (hne : v.ownBlock ≠ some vb) (hB : B ≤ w.heap.size) :
    Calls Try.prog 68 #[v, .int .i64 i, .slice (some ⟨vb, 0, none⟩) 1 1] w fun e w' => ∃ v', e = .returned v' ∧ Own w' B 29 1 encU v' (xs.take i ++ y :: xs.drop i) ∧ Mod (fun k => v.ownBlock = some k) w w' ∧ (v'.ownBlock = v.ownBlock ∨ v'.ownBlock = some w.heap.size) := by
  by_cases hie : i = xs.length
  · subst hie
    refine (insert_end v xs y w B h hn vb hvb hB).mono ?_
    rintro e w' ⟨v', rfl, h1, h2, h3⟩
    refine ⟨v', rfl, ?_, h2, h3⟩
    rwa [List.take_of_length_le (Nat.le_refl _), List.drop_eq_nil_of_le (Nat.le_refl _)]
  · obtain ⟨g, cap, rfl, hc, hg1, hg2⟩ := h.form1 (by omega)
    have hne' : vb ≠ g := fun e => hne (by rw [e]; rfl)
    by_cases hr : xs.length + 1 ≤ cap
    · refine (insert_room g cap _ i xs y w B h (by omega) hn hr vb hvb hne').mono ?_
      rintro e w' ⟨rfl, h1, h2⟩
      exact ⟨_, rfl, h1, h2.mono (fun k hk e => by rw [e]; rfl), .inl rfl⟩
    · refine (insert_grow g cap _ i xs y w B h (by omega) hn (by omega) vb hvb hne' hB).mono ?_
      rintro e w' ⟨G, rfl, h1, h2⟩
      exact ⟨_, rfl, h1, h2.mono (fun k hk e => e.elim), .inr rfl⟩
end Go.Proofs.Ytddnlbkocmpffaa.SlU
namespace Go.Proofs.Ytddnlbkocmpffaa.SlM
open Go.RowKit
set_option linter.unusedVariables false
set_option maxHeartbeats 4000000
set_option maxRecDepth 100000
theorem one_enc (l : List MsgV) : ∀ v ∈ l.flatMap encM, v.oneCell' = true := fun v hv => by
  obtain ⟨x, _, hx⟩ := List.mem_flatMap.1 hv
  exact SlM.one_at x v hx
theorem deleteW (g cap n i j : Nat) (xs : List MsgV) (w : World) (B : Nat) (h : Own w B 33 3 encM (.slice (some ⟨g, 0, none⟩) n cap) xs) (hij : i < j) (hj : j ≤ n) (hn : n ≤ 1000000) :
    Calls Try.prog 42 #[.slice (some ⟨g, 0, none⟩) n cap, .int .i64 i, .int .i64 j] w fun e w' => e = .returned (.slice (some ⟨g, 0, none⟩) (n - (j - i)) cap) ∧ Own w' B 33 3 encM (.slice (some ⟨g, 0, none⟩) (n - (j - i)) cap) (xs.take i ++ xs.drop j) ∧ Mod (fun k => k = g) w w' := by
  obtain ⟨i0, hi0, hz0, hz1, hz2⟩ := info_parts (show (Try.prog.info? 33).map (fun i => (i.zero, i.size, i.bytes)) = some (some (.agg #[.int .i64 0, .int .u64 0, .slice none 0 0]), 3, 40) by kernel_rfl)
  have hcells := h.cells encM_len j
  have hnc : n ≤ cap := by obtain ⟨A, c, e, h1, _⟩ := h.form; injection e with _ e2 e3; omega
  have hnl : n = xs.length := h.len rfl
  have hdl : ((xs.drop j).flatMap encM).length = (n - j) * 3 := by rw [flat_len encM_len, List.length_drop, hnl]
  have hcm : cap ≤ maxLen := by obtain ⟨cur, r, _, _, _, _, h5, _⟩ := h.row; exact h5
  have hzz : ∀ w, (zeroValue 33).run Try.prog w = .ok (.agg #[.int .i64 0, .int .u64 0, .slice none 0 0]) w := fun w => by kernel_rfl
  obtain ⟨cur, hg, hlt, hf1, hf2, hf3, hfin⟩ := h.del encM_len (Nat.le_of_lt hij) hj (Builtin.zeroCells (Value.cells (.agg #[.int .i64 0, .int .u64 0, .slice none 0 0])) (j - i)).toList (zeros_len (sz := 3) rfl _)
  have hA : ∀ ty (a : Addr) c', (0 < n - j → a = ⟨g, j * 3, none⟩) → (Builtin.append_ #[84, 84] ty #[.slice (some ⟨g, 0, none⟩) i cap, .slice (some a) (n - j) c']).run Try.prog w.drew = .ok (.slice (some ⟨g, 0, none⟩) (i + (n - j)) cap) (w.drew.setRow g (splc cur.toList (i * 3) ((xs.drop j).flatMap encM)).toArray) := fun ty a c' ha => by
    have := run_append_room (P := Try.prog) w.drew 84 ty 33 i0 Try.underlying84 hi0 g i cap cur hg a (n - j) c' ((xs.drop j).flatMap encM) (by rw [hdl, hz1]) (fun k u hk => by
      have hk' := (List.getElem?_eq_some_iff.1 hk).1
      have hnj : 0 < n - j := by
        rcases Nat.eq_zero_or_pos (n - j) with h0 | h0
        · rw [hdl, h0] at hk'; omega
        · exact h0
      rw [ha hnj, Go.WideShapes.add_plain]
      exact (by simpa using hcells k u hk)) (one_enc _) (by omega) (by rw [hz1]; exact hf1)
    rw [hz1] at this
    exact this
  obtain ⟨w2, hw2⟩ : ∃ w2, w.drew.setRow g (splc cur.toList (i * 3) ((xs.drop j).flatMap encM)).toArray = w2 := ⟨_, rfl⟩
  have hg2 : w2.heap[g]? = some (.cells (splc cur.toList (i * 3) ((xs.drop j).flatMap encM)).toArray 33 (0, 0)) := by
    rw [← hw2]
    exact setRow_heap w.drew g cur _ _ _ hg
  have hC : ∀ ty c', (Builtin.clear_ #[84] ty #[.slice (some ⟨g, (n - (j - i)) * 3, none⟩) (j - i) c']).run Try.prog w2 = .ok (.tuple #[]) (w2.setRow g (splc (splc cur.toList (i * 3) ((xs.drop j).flatMap encM)) ((n - (j - i)) * 3) (Builtin.zeroCells (Value.cells (.agg #[.int .i64 0, .int .u64 0, .slice none 0 0])) (j - i)).toList).toArray) := fun ty c' => by
    have := run_clear_rowK w2 84 33 ty (.agg #[.int .i64 0, .int .u64 0, .slice none 0 0]) 3 Try.underlying84 hzz rfl (fun v hv => SlM.one_zero v hv) g ((n - (j - i)) * 3) (j - i) c' _ _ hg2 (by rw [List.size_toArray, hf2]; omega)
    rw [List.toList_toArray] at this
    exact this
  obtain ⟨C2, hC2e⟩ : ∃ C2, C2 = (splc (splc cur.toList (i * 3) ((xs.drop j).flatMap encM)) ((n - (j - i)) * 3) (Builtin.zeroCells (Value.cells (.agg #[.int .i64 0, .int .u64 0, .slice none 0 0])) (j - i)).toList).toArray := ⟨_, rfl⟩
  rw [← hC2e] at hC hfin
  have hC2 : ∀ ty c' o k, o = n - (j - i) → k = j - i → (Builtin.clear_ #[84] ty #[.slice (some ⟨g, o * 3, none⟩) k c']).run Try.prog w2 = .ok (.tuple #[]) (w2.setRow g C2) := by
    rintro ty c' o k rfl rfl
    exact (by simpa using hC ty c')
  have HC := Lib.hid hC2
  clear hC hC2
  rw [hw2] at hA
  have HFIN := Lib.hid (fun w' h => hfin w' h)
  have hm2 : Mod (fun k => k = g) w w2 := by
    rw [← hw2]
    exact ⟨rfl, rfl, rfl, by simp [World.setRow], fun i hi hn => setRow_other _ _ i _ hn⟩
  have HM2 := Lib.hid hm2
  have HG2 := Lib.hid hg2
  have hz1' : (i : Int) ≤ (j : Int) := by omega
  have hz2' : (j : Int) ≤ (n : Int) := by omega
  have hz4' : (i : Int) ≤ (cap : Int) := by omega
  have hz5' : (j : Int) ≤ (cap : Int) := by omega
  have hz6' : (n : Int) ≤ (cap : Int) := by omega
  have hz3' : ¬ (i : Int) = (j : Int) := by omega
  clear hC2e hfin hm2 hg2 hw2 hcells hdl hf1 hf2 hf3 hnl
  by_cases hjc : j = cap
  · subst hjc
    obtain rfl : n = j := by omega
    have hA1 := fun ty c' => hA ty ⟨g, 0, none⟩ c' (fun e => by omega)
    simp only [Nat.sub_self, Nat.add_zero] at hA1
    have HA := Lib.hid hA1
    clear hA hA1
    go_enter Try.func42, Try.ntmps42
    go_wp2_with fail
    go_region_law (refine step_append_runs _ rfl (.tmp 22) (.tmp 25) 84 84 rfl (.slice (some ⟨g, 0, none⟩) i n) (.slice (some ⟨g, 0, none⟩) 0 0) (by simp [Act.eval, Act.put]) (by simp [Act.eval, Act.put]) (HA.out _ _) ?_)
    go_wp2_with (refine wpList_clear_runs _ rfl (.tmp 31) 84 rfl (.slice (some ⟨g, i * 3, none⟩) (n - i) (n - i)) (by simp [Act.eval]) (HC.out _ _ _ _ (by omega) (by omega)) ?_)
    go_ret
    have hown := HFIN.out _ (setRow_heap w2 g _ _ _ _ HG2.out)
    have hmod := HM2.out.trans (show Mod (fun k => k = g) w2 (w2.setRow g C2) from ⟨rfl, rfl, rfl, by simp [World.setRow], fun i hi hn => setRow_other _ _ i _ hn⟩) (fun i hi e => e)
    have he : i = n - (n - i) := by omega
    exact ⟨by rw [← he]; rfl, hown, hmod⟩
  · have hjc' : ¬ cap = j := fun e => hjc e.symm
    have hA1 := fun ty c' => hA ty ⟨g, j * 3, none⟩ c' (fun e => rfl)
    have HA := Lib.hid hA1
    clear hA hA1
    go_enter Try.func42, Try.ntmps42
    go_wp2_with fail
    go_region_law (refine step_append_runs _ rfl (.tmp 22) (.tmp 25) 84 84 rfl (.slice (some ⟨g, 0, none⟩) i cap) (.slice (some ⟨g, j * 3, none⟩) (n - j) (cap - j)) (by simp [Act.eval, Act.put]) (by simp [Act.eval, Act.put]) (HA.out _ _) ?_)
    go_wp2_with (refine wpList_clear_runs _ rfl (.tmp 31) 84 rfl (.slice (some ⟨g, (i + (n - j)) * 3, none⟩) (n - (i + (n - j))) (cap - (i + (n - j)))) (by simp [Act.eval]) (HC.out _ _ _ _ (by omega) (by omega)) ?_)
    go_ret
    have hown := HFIN.out _ (setRow_heap w2 g _ _ _ _ HG2.out)
    have hmod := HM2.out.trans (show Mod (fun k => k = g) w2 (w2.setRow g C2) from ⟨rfl, rfl, rfl, by simp [World.setRow], fun i hi hn => setRow_other _ _ i _ hn⟩) (fun i hi e => e)
    have he : i + (n - j) = n - (j - i) := by omega
    exact ⟨by rw [← he]; rfl, hown, hmod⟩
end Go.Proofs.Ytddnlbkocmpffaa.SlM
