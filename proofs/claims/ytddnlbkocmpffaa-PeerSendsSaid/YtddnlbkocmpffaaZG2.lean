/- slices.Clone at Range. -/
import Derived.Test.YtddnlbkocmpffaaZSplc
import Derived.Test.YtddnlbkocmpffaaZPeeP
import Derived.Lib.SliceRun
namespace Go.Proofs.Ytddnlbkocmpffaa.SlR
open Go.RowKit
set_option linter.unusedVariables false
set_option maxHeartbeats 4000000
set_option maxRecDepth 100000
theorem cloneW (v : Value) (xs : List (Int × Int)) (w : World) (h : Has w w.heap.size 2 encR v xs) (hn : xs.length ≤ 1000000) :
    Calls Try.prog 82 #[v] w fun e w' => ∃ v', e = .returned v' ∧ Own w' w.heap.size 131 2 encR v' xs ∧ Mod (fun _ => False) w w' := by
  obtain ⟨A, cap, rfl, hc, hA, hr, -⟩ := h
  obtain ⟨i0, hi0, hz0, hz1, hz2⟩ := info_parts (show (Try.prog.info? 131).map (fun i => (i.zero, i.size, i.bytes)) = some (some (.agg #[.int .i64 0, .int .i64 0]), 2, 16) by kernel_rfl)
  obtain ⟨n, hnl⟩ : ∃ n, xs.length = n := ⟨_, rfl⟩
  rw [hnl] at hn hc hr ⊢
  have HNL := Lib.hid hnl
  have q22 : ∀ (w : World) (a : Option Addr) (n c n' c' : Nat), (binOp .eql 128 (.slice a n c) (.slice none n' c')).run Try.prog w = .ok (.bool a.isNone) w := fun w a n c n' c' => Lib.run_eql_slice_nil w _ _ a n c n' c' Try.underlying128
  cases A with
  | none =>
    obtain rfl : cap = 0 := hA rfl
    obtain rfl : n = 0 := by omega
    obtain rfl : xs = [] := List.eq_nil_of_length_eq_zero hnl
    clear hr hA hnl
    go_enter Try.func82, Try.ntmps82
    go_wp2_with fail
    go_ret
    exact ⟨_, rfl, Own.nil, Mod.refl _ _⟩
  | some a =>
    have hlit : (w.alloc (.cells #[] 131)).ownsRow w.heap.size 131 2 (.slice (some ⟨w.heap.size, 0, none⟩) 0 0) 0 [] := World.ownsRow_lit (base := w.heap.size) (size := 2) (e := 131) w #[] 0 (Nat.le_refl _) (by decide) rfl
    have hm := (Mod.refl (fun _ => False) w).alloc (.cells #[] 131)
    have HR := Lib.hid (hr.keep (w' := w.alloc (.cells #[] 131)) fun p hp => hm.cell (p := p) hp (fun e => e))
    have HLIT := Lib.hid hlit
    have HM := Lib.hid hm
    have h1 : ∀ u ∈ xs.flatMap encR, u.oneCell' = true := fun u hu => by
      obtain ⟨x, _, hx⟩ := List.mem_flatMap.1 hu
      exact SlR.one_at x u hx
    have H1 := Lib.hid h1
    have hsz : (w.alloc (.cells #[] 131)).heap.size = w.heap.size + 1 := by simp
    clear hlit hm hr h1 hA hnl
    go_enter Try.func82, Try.ntmps82
    go_wp2_with (at_builtin
                 refine wpList_append_any _ rfl (.tmp 5) (.tmp 6) 128 rfl w.heap.size 131 i0 _ 2 16 Try.underlying128 hi0 hz0 hz1 hz2 (by decide) (by decide) (.slice (some ⟨w.heap.size, 0, none⟩) 0 0) 0 [] rfl HLIT.out _ (some a) n cap (xs.flatMap encR) rfl HR.out H1.out (by simp only [maxLen]; omega) (by omega) (by rw [hsz]; omega) ?_
                 intro v' w' hown hgr hat)
    have ho : Own w' w.heap.size 131 2 encR v' xs := by
      unfold Own
      rw [HNL.out]
      simpa using hown
    have HO := Lib.hid ho
    have HM2 := Lib.hid (HM.out.trans (Mod.ofGrown hgr) (fun i hi e => by simp [Value.ownBlock] at e; omega))
    clear ho hown hgr hat hsz
    go_wp2_with fail
    go_ret
    exact ⟨_, rfl, HO.out, HM2.out⟩
end Go.Proofs.Ytddnlbkocmpffaa.SlR
namespace Go.Proofs.Ytddnlbkocmpffaa
set_option linter.unusedVariables false
abbrev encB (z : Int) : List Value := [.int .u8 z]
theorem encB_len (z : Int) : (encB z).length = 1 := rfl
theorem SlB.one_at (x : Int) : ∀ v ∈ encB x, v.oneCell' = true := fun v hv => by
  simp at hv
  rw [hv]
  rfl
theorem SlB.one_zero : ∀ v ∈ (Value.cells (.int .u8 0)).toList, v.oneCell' = true := fun v hv => by
  simp [Value.cells] at hv
  rw [hv]
  rfl
end Go.Proofs.Ytddnlbkocmpffaa
namespace Go.Proofs.Ytddnlbkocmpffaa.SlB
open Go.RowKit
set_option linter.unusedVariables false
set_option maxHeartbeats 4000000
set_option maxRecDepth 100000
theorem cloneW (v : Value) (xs : List Int) (w : World) (h : Has w w.heap.size 1 encB v xs) (hn : xs.length ≤ 1000000) :
    Calls Try.prog 45 #[v] w fun e w' => ∃ v', e = .returned v' ∧ Own w' w.heap.size 5 1 encB v' xs ∧ Mod (fun _ => False) w w' := by
  obtain ⟨A, cap, rfl, hc, hA, hr, -⟩ := h
  obtain ⟨i0, hi0, hz0, hz1, hz2⟩ := info_parts (show (Try.prog.info? 5).map (fun i => (i.zero, i.size, i.bytes)) = some (some (.int .u8 0), 1, 1) by kernel_rfl)
  obtain ⟨n, hnl⟩ : ∃ n, xs.length = n := ⟨_, rfl⟩
  rw [hnl] at hn hc hr ⊢
  have HNL := Lib.hid hnl
  have q22 : ∀ (w : World) (a : Option Addr) (n c n' c' : Nat), (binOp .eql 30 (.slice a n c) (.slice none n' c')).run Try.prog w = .ok (.bool a.isNone) w := fun w a n c n' c' => Lib.run_eql_slice_nil w _ _ a n c n' c' Try.underlying30
  cases A with
  | none =>
    obtain rfl : cap = 0 := hA rfl
    obtain rfl : n = 0 := by omega
    obtain rfl : xs = [] := List.eq_nil_of_length_eq_zero hnl
    clear hr hA hnl
    go_enter Try.func45, Try.ntmps45
    go_wp2_with fail
    go_ret
    exact ⟨_, rfl, Own.nil, Mod.refl _ _⟩
  | some a =>
    have hlit : (w.alloc (.cells #[] 5)).ownsRow w.heap.size 5 1 (.slice (some ⟨w.heap.size, 0, none⟩) 0 0) 0 [] := World.ownsRow_lit (base := w.heap.size) (size := 1) (e := 5) w #[] 0 (Nat.le_refl _) (by decide) rfl
    have hm := (Mod.refl (fun _ => False) w).alloc (.cells #[] 5)
    have HR := Lib.hid (hr.keep (w' := w.alloc (.cells #[] 5)) fun p hp => hm.cell (p := p) hp (fun e => e))
    have HLIT := Lib.hid hlit
    have HM := Lib.hid hm
    have h1 : ∀ u ∈ xs.flatMap encB, u.oneCell' = true := fun u hu => by
      obtain ⟨x, _, hx⟩ := List.mem_flatMap.1 hu
      exact SlB.one_at x u hx
    have H1 := Lib.hid h1
    have hsz : (w.alloc (.cells #[] 5)).heap.size = w.heap.size + 1 := by simp
    clear hlit hm hr h1 hA hnl
    go_enter Try.func45, Try.ntmps45
    go_wp2_with (at_builtin
                 refine wpList_append_any _ rfl (.tmp 5) (.tmp 6) 30 rfl w.heap.size 5 i0 _ 1 1 Try.underlying30 hi0 hz0 hz1 hz2 (by decide) (by decide) (.slice (some ⟨w.heap.size, 0, none⟩) 0 0) 0 [] rfl HLIT.out _ (some a) n cap (xs.flatMap encB) rfl HR.out H1.out (by simp only [maxLen]; omega) (by omega) (by rw [hsz]; omega) ?_
                 intro v' w' hown hgr hat)
    have ho : Own w' w.heap.size 5 1 encB v' xs := by
      unfold Own
      rw [HNL.out]
      simpa using hown
    have HO := Lib.hid ho
    have HM2 := Lib.hid (HM.out.trans (Mod.ofGrown hgr) (fun i hi e => by simp [Value.ownBlock] at e; omega))
    clear ho hown hgr hat hsz
    go_wp2_with fail
    go_ret
    exact ⟨_, rfl, HO.out, HM2.out⟩
end Go.Proofs.Ytddnlbkocmpffaa.SlB
