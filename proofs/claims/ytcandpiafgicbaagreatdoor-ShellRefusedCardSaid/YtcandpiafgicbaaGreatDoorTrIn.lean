/- maps.Values and slices.Collect over the messages that come (one at most). -/
import Derived.RangeFuncBox
import Derived.RangeFuncLeaves
import Derived.Shelf.Abstract
import Derived.WalkKit
import Derived.OwnWalkIn
import Derived.TacticsInMore
import Derived.LoopNIn
import Derived.LoopIn
import Derived.Maps.AppendAt
import Derived.Maps.RangeRun
import Derived.Test.YtcandpiafgicbaaGreatDoorRows
import Derived.Test.YtcandpiafgicbaaGreatDoorMem
import Derived.Test.YtcandpiafgicbaaGreatDoorReg
namespace Go.Proofs.YtcandpiafgicbaaGreatDoor
open Go.RowKit Go.Shelf Go.Maps
set_option linter.unusedVariables false
set_option maxHeartbeats 4000000
set_option maxRecDepth 100000
attribute [local go_sem] Oper.semAt_some
abbrev NoB : Nat → Prop := fun _ => False
abbrev encI1 (b : Nat × Nat) : Value := .pointer (some ⟨b.1, b.2, none⟩)
theorem In_info : (Tryz.prog.info? 254).map (fun i => (i.zero, i.size, i.bytes)) = some (some (.pointer none), 1, 8) := by kernel_rfl
/-- At most one thing in a map. -/
def One1 (es : Array MapEntry) (clock : Nat) (l : List (Nat × Nat)) : Prop := (es = #[] ∧ l = []) ∨ ∃ (k : Value) (b : Nat × Nat) (bo : Nat), es = #[{ key := k, val := encI1 b, born := bo }] ∧ bo < clock ∧ l = [b]
theorem vals1_in (F : Fence) (n : Nat) (hf : F.fn 321) (hro : F.round = none) (hn : 1 ≤ n) (l Bm Bo ib : Nat) (es : Array MapEntry) (clock : Nat) (xs : List (Nat × Nat)) (hone : One1 es clock xs) (J Jx : List (Nat × Nat) → World → Prop)
    (hY : ∀ pre x W, J pre W → pre.length < 1 → YieldAt F (n - 1) Tryz.prog l #[encI1 x] W fun e W' =>
      (e = .returned (.bool true) ∧ J (pre ++ [x]) W' ∧ KeepsWalks W W') ∨ (e = .returned (.bool false) ∧ Jx (pre ++ [x]) W'))
    (W : World) (hJ : AbidesFrom W.heap.size J) (hm : W.cell? ⟨Bm, Bo, none⟩ = some (.map (some ib))) (hb : W.heap[ib]? = some (.map es clock)) (h0 : J [] W) :
    CallsIn F n Tryz.prog 321 #[.func (.yield l) #[] #[], .pointer (some ⟨Bm, Bo, none⟩)] W fun e W' => (∃ v, e = .returned v) ∧
      ((∃ ys, ys = xs ∧ J ys W') ∨ (∃ pre, pre <+: xs ∧ Jx pre W')) := by
  have hbl : ib < W.heap.size := (Array.getElem?_eq_some_iff.1 hb).1
  have hrg := run_range_map (P := Tryz.prog) W 251 242 254 ib es clock (by kernel_rfl) hb
  obtain ⟨W1, hW1⟩ : ∃ W1, W.alloc (.mapIter (some ib) clock #[] clock) = W1 := ⟨_, rfl⟩
  have hr1 : W1.heap[W.heap.size]? = some (.mapIter (some ib) clock #[] clock) := hW1 ▸ World.alloc_heap_new W _
  have hb1 : W1.heap[ib]? = some (.map es clock) := hW1 ▸ (Below.heap_alloc _ _ _ hbl).trans hb
  have hg1 : W.grownBy W1 none := hW1 ▸ World.grownBy_alloc W _ none
  rw [hW1] at hrg
  have hJ1 : J [] W1 := hJ [] W W1 none h0 hg1 (fun r e => by cases e)
  obtain ⟨R, hR⟩ : ∃ R, W.heap.size = R := ⟨_, rfl⟩
  rw [hR] at hrg hr1 hJ
  clear hW1 hb
  rcases hone with ⟨rfl, rfl⟩ | ⟨k, b, bo, rfl, hlt, rfl⟩
  · have hnx : ∀ ty, (Instr.next (.pointer (some ⟨R, 0, none⟩)) false ty).run Tryz.prog W1 = .ok (.tuple #[.bool false]) W1 := fun ty => by
      rcases run_next_at (P := Tryz.prog) W1 ty R ib clock clock #[] #[] clock hr1 hb1 (fun x hx => by simp at hx) (Nat.le_refl _) with ⟨-, h⟩ | ⟨e, he, -⟩
      · exact h
      · simp [leftOf] at he
    refine callsIn_of_wp Tryz.func321 rfl hf ?_ hro
    simp only [Tryz.ntmps321, List.size_toArray, List.length_cons, List.length_nil, Nat.reduceAdd, Nat.reduceSub, Array.replicate_succ, Array.replicate_zero, List.push_toArray, List.append_toArray, List.nil_append, List.cons_append]
    gi_wp2
    refine wpIn_loop_rounds 1 ?_
    rw [roundsIn_succ]
    gi_wp2
    go_end0
    exact ⟨⟨_, rfl⟩, .inl ⟨[], rfl, hJ1⟩⟩
  · have hnx : ∃ W2 : World, (∀ ty, (Instr.next (.pointer (some ⟨R, 0, none⟩)) false ty).run Tryz.prog W1 = .ok (.tuple #[.bool true, k, encI1 b]) W2) ∧ W2.heap[R]? = some (.mapIter (some ib) clock #[bo] clock) ∧ W2.heap[ib]? = some (.map #[{ key := k, val := encI1 b, born := bo }] clock) ∧ W1.grownBy W2 (some R) := by
      rcases run_next_at (P := Tryz.prog) W1 0 R ib clock clock #[] #[{ key := k, val := encI1 b, born := bo }] clock hr1 hb1 (fun x hx => by simp at hx; subst hx; exact hlt) (Nat.le_refl _) with ⟨h, -⟩ | ⟨e, he, w1, hw1, h⟩
      · simp [leftOf] at h
      · have he' : e = { key := k, val := encI1 b, born := bo } := by simpa [leftOf] using he
        subst he'
        have hr1' : w1.heap[R]? = some (.mapIter (some ib) clock #[] clock) := by rcases hw1 with rfl | rfl <;> exact hr1
        have hb1' : w1.heap[ib]? = some (.map #[{ key := k, val := encI1 b, born := bo }] clock) := by rcases hw1 with rfl | rfl <;> exact hb1
        have hset := MapKept.heap_set (o' := .mapIter (some ib) clock (#[].push bo) clock) hr1'
        have hne : ib ≠ R := fun e => by rw [e, hr1] at hb1; cases hb1
        refine ⟨_, fun ty => h, hset.1, (hset.2 ib hne).trans hb1', ?_⟩
        rcases hw1 with rfl | rfl <;> exact ⟨rfl, rfl, rfl, by simp [ChangeMaps.setBlock], fun i _ hi => hset.2 i (fun e1 => hi (by rw [e1]))⟩
    obtain ⟨W2, hnx, hr2, hb2, hg2⟩ := hnx
    have hen := run_entry_at (P := Tryz.prog) W2 R ib clock #[] #[{ key := k, val := encI1 b, born := bo }] clock { key := k, val := encI1 b, born := bo } hr2 hb2 (by simp) (by simp)
    have hJ2 : J [] W2 := hJ [] W1 W2 (some R) hJ1 hg2 (fun r e => by cases e; exact ⟨Nat.le_refl _, _, hr1, rfl⟩)
    obtain ⟨fn, tmps, assign, body, hy, hRd⟩ := hY [] b W2 hJ2 (by simp)
    refine callsIn_of_wp Tryz.func321 rfl hf ?_ hro
    simp only [Tryz.ntmps321, List.size_toArray, List.length_cons, List.length_nil, Nat.reduceAdd, Nat.reduceSub, Array.replicate_succ, Array.replicate_zero, List.push_toArray, List.append_toArray, List.nil_append, List.cons_append]
    gi_wp2
    refine wpIn_loop_rounds 2 ?_
    rw [roundsIn_succ]
    gi_wp2
    refine hRd.mono ?_
    rintro e W3 (⟨rfl, hJ3, hk3⟩ | ⟨rfl, hJx3⟩)
    · have hr3 := hk3.same R _ hr2 rfl
      have hb3 := hk3.same ib _ hb2 rfl
      have hnx3 : ∀ ty, (Instr.next (.pointer (some ⟨R, 0, none⟩)) false ty).run Tryz.prog W3 = .ok (.tuple #[.bool false]) W3 := fun ty => by
        rcases run_next_at (P := Tryz.prog) W3 ty R ib clock clock #[bo] #[{ key := k, val := encI1 b, born := bo }] clock hr3 hb3 (fun x hx => by simp at hx; subst hx; exact hlt) (Nat.le_refl _) with ⟨-, h⟩ | ⟨e, he, -⟩
        · exact h
        · simp [leftOf] at he
      clear hnx hen
      gi_wp2
      rw [roundsIn_succ]
      gi_wp2
      go_end0
      exact ⟨⟨_, rfl⟩, .inl ⟨[b], rfl, hJ3⟩⟩
    · gi_wp2
      refine bodyPost_ret (results_none rfl _ _ _) rfl ?_
      exact ⟨⟨_, rfl⟩, .inr ⟨[b], ⟨[], rfl⟩, hJx3⟩⟩
theorem vals_stops (F : Fence) (n : Nat) (hf : F.fn 321) (hro : F.round = none) (hn : 1 ≤ n) (Bm Bo ib : Nat) (es : Array MapEntry) (clock : Nat) (xs : List (Nat × Nat)) (hone : One1 es clock xs) (w : World) (hBm : Bm < w.heap.size)
    (hm : w.cell? ⟨Bm, Bo, none⟩ = some (.map (some ib))) (hb : w.heap[ib]? = some (.map es clock)) :
    SeqStopsK F n Tryz.prog 321 #[.pointer (some ⟨Bm, Bo, none⟩)] (fun x : Nat × Nat => #[encI1 x]) KeepsWalks (fun ys => ys = xs) (fun pre => pre <+: xs) 1 w := fun l J Jx W hW hJ _ hY h0 =>
  vals1_in F n hf hro hn l Bm Bo ib es clock xs hone J Jx hY W hJ ((hW.cell (p := ⟨Bm, Bo, none⟩) hBm).trans hm) ((hW.block ib (Array.getElem?_eq_some_iff.1 hb).1).trans hb) h0
/-- slices.AppendSeq. -/
theorem apSeq_in (F : Fence) (n : Nat) (h1f : F.fn 320) (hf : F.fn 321) (hro : F.round = none) (hn : 3 ≤ n) (Bm Bo ib : Nat) (es : Array MapEntry) (clock : Nat) (xs : List (Nat × Nat)) (hone : One1 es clock xs) (w : World) (hBm : Bm < w.heap.size)
    (hm : w.cell? ⟨Bm, Bo, none⟩ = some (.map (some ib))) (hb : w.heap[ib]? = some (.map es clock)) :
    CallsIn F n Tryz.prog 320 #[.slice none 0 0, .func (.func 321) #[] #[.pointer (some ⟨Bm, Bo, none⟩)]] w fun e w' => ∃ v, e = .returned v ∧ w'.ownsRow w.heap.size 254 1 v xs.length (xs.map encI1) ∧ (v = .slice none 0 0 ↔ xs = []) ∧ Below w.heap.size w w' := by
  have h1 : 1 ≤ n := by omega
  obtain ⟨i0, hi, hz0, hz1, hz2⟩ := info_parts In_info
  have hb1 : (w.alloc (.cells #[.slice none 0 0] 391)).heap[ib]? = some (.map es clock) := (Below.heap_alloc _ _ _ (Array.getElem?_eq_some_iff.1 hb).1).trans hb
  have hm1 : (w.alloc (.cells #[.slice none 0 0] 391)).cell? ⟨Bm, Bo, none⟩ = some (.map (some ib)) := ((((Mod.refl NoB w).alloc _).cell (p := ⟨Bm, Bo, none⟩) hBm (fun e => e)).trans hm)
  refine callsIn_of_wp_marks Tryz.func320 rfl h1f ?_ hro
  simp only [Tryz.ntmps320, List.size_toArray, List.length_cons, List.length_nil, Nat.reduceAdd, Nat.reduceSub, Array.replicate_succ, Array.replicate_zero, List.push_toArray, List.append_toArray, List.nil_append, List.cons_append]
  gi_wp2
  have bO := Boxed.new w 391 (.slice none 0 0)
  have hB0 : Below w.heap.size w (w.alloc (.cells #[.slice none 0 0] 391)) := (Below.refl _ w).alloc (Nat.le_refl _) _
  refine wpIn_rangeFunc_ownG hro h1 (gf := 321) (lb := #[.pointer (some ⟨Bm, Bo, none⟩)]) rfl hf (enters_of Tryz.func321 (by kernel_rfl) rfl)
    (vals_stops F (n - 1) hf hro (by omega) Bm Bo ib es clock xs hone _ (by simp; omega) hm1 hb1) walksK_t walksK_b (Below.refl _ _) (fun _ => rfl)
    (fun pre W => (∃ v, Boxed W w.heap.size 391 v ∧ W.ownsRow w.heap.size 254 1 v pre.length (pre.map encI1) ∧ (v = .slice none 0 0 ↔ pre = [])) ∧ Below w.heap.size w W)
    (fun _ _ _ => False)
    (OwnFrom.and (Own.from (holdsRow_own w.heap.size w.heap.size 391 254 1 (fun pre => pre.length) (fun pre => pre.map encI1) (fun pre v => v = .slice none 0 0 ↔ pre = [])) _) (ownFrom_below (Nat.le_refl _) (by simp)))
    (fun _ _ _ _ _ hs _ _ => hs)
    ⟨⟨_, bO, World.ownsRow_nil _ _ _ _, by simp⟩, hB0⟩
    (fun x => { tmps := #[.slice none 0 0, .func (.func 321) #[] #[.pointer (some ⟨Bm, Bo, none⟩)], .pointer (some ⟨w.heap.size, 0, none⟩), undef, .slice none 0 0, encI1 x, .func (.func 321) #[] #[.pointer (some ⟨Bm, Bo, none⟩)], encI1 x, undef, undef, undef, undef, undef], defers := [] }) ?assign ?body ?done ?stop
  case assign =>
    intro l x W K hK
    gi_wp2
    exact hK
  case body =>
    rintro l pre x W ⟨⟨v, hv, hrow, hnil⟩, hB⟩ hlt
    have hc := hv.cell
    gi_wp2_with (gi_at_builtin; refine wpListIn_append_own _ rfl _ _ 391 rfl w.heap.size 254 i0 (.pointer none) 1 8 Tryz.underlying391 hi hz0 hz1 hz2 rfl (by decide) _ _ _ rfl (hrow.alloc _) ⟨W.heap.size, 0, none⟩ 1 1 [encI1 x] rfl rfl (cell_one_new _ _ _) (by simp [Value.oneCell', encI1]) (by simp only [maxLen]; omega) (by omega) (by have := hB.size; simp; omega) ?_; intro v' w1 hown' hgrow _; obtain ⟨g', cap', rfl⟩ := ownsRow_succ hown'; obtain ⟨hv1, hv2, hr2, hk2, hb2⟩ := hv.appended (by decide) hrow hB.size (Nat.le_refl _) hown' hgrow; have hc1 := hv1.cell; have hf1 := hv1.frozen)
    exact ⟨hk2.from _, hk2.walks, ⟨_, hv2, by simpa using hr2, by simp⟩, hB.trans hb2⟩
  case done =>
    rintro D ys W hD rfl ⟨⟨v, hv, hrow, hnil⟩, hB⟩ hK
    have hc := hv.cell
    gi_wp2
    refine ⟨by simp, .inl ⟨_, _, rfl, run_takeDeferred hK, ?_⟩⟩
    exact ⟨_, results_tmp rfl _ _ _, v, rfl, ownsRow_putObj hrow _ hK rfl, hnil, hB.trans (belowK_b (w := w) (Nat.le_refl _) W D _ _ (by simp at hD; omega) hK rfl rfl)⟩
  case stop =>
    rintro D c pre W _ _ h _
    exact h.elim
end Go.Proofs.YtcandpiafgicbaaGreatDoor
