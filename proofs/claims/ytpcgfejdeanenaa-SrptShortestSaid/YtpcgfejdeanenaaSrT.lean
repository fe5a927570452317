/- Messages made as the program's. -/
import Derived.Test.YtpcgfejdeanenaaSrM
import Derived.WalkLawsBesides
namespace Go.Proofs.Ytpcgfejdeanenaa
open Go.RowKit
set_option linter.unusedVariables false
set_option maxHeartbeats 2000000
set_option maxRecDepth 100000
theorem msg_info : (Try.prog.info? 39).map (fun i => (i.zero, i.size, i.bytes)) = some (some (.agg #[.int .i64 0, .int .u64 0, .int .i64 0, .int .i64 0, .int .i64 0, .int .i64 0]), 6, 48) := by kernel_rfl
theorem one_M (a b c d e f : Int) : ∀ y ∈ [Value.int .i64 a, Value.int .u64 b, Value.int .i64 c, Value.int .i64 d, Value.int .i64 e, Value.int .i64 f], y.oneCell' = true := fun y hy => by
  simp at hy
  rcases hy with rfl | rfl | rfl | rfl | rfl | rfl <;> rfl
theorem madeW (v : Value) (ms : List Ms) (w : World) (h : Has w w.heap.size 6 encM v ms) (hl : ms.length ≤ 100000) :
    Calls Try.prog 8 #[v] w fun e w' => ∃ v', e = .returned v' ∧ Own w' w.heap.size 39 6 encM v' ms ∧ Mod (fun _ => False) w w' := by
  obtain ⟨i0, hi0, hz0, hz1, hz2⟩ := info_parts msg_info
  obtain ⟨A, cap, rfl, hcap⟩ := h.form
  have HH := Lib.hid h
  clear h
  generalize hn : ms.length = n at *
  have HN := Lib.hid hn
  clear hn
  go_enter Try.func8, Try.ntmps8
  go_wp2_with fail
  go_loopw [3, 4] (fun o i wr => ∃ k : Nat, i = .int .i64 k ∧ k ≤ n ∧ Own wr w.heap.size 39 6 encM o (ms.take k) ∧ Mod (fun _ => False) w wr) (fun _ i _ => n - (intOf i).toNat)
  case atStart => exact ⟨0, rfl, by omega, Own.nil, Mod.refl _ _⟩
  case round =>
    obtain ⟨k, rfl, hk, hown, hm⟩ := hrel
    have htl : (ms.take k).length = k := by rw [List.length_take, HN.out]; omega
    obtain ⟨Ao, co, rfl, hco, -⟩ := hown.form
    rw [htl] at hown hco ⊢
    by_cases hkl : k < n
    · have hkx : k < ms.length := by rw [HN.out]; exact hkl
      have hx? := List.getElem?_eq_getElem hkx
      obtain ⟨g, off, rfl, hg, c0, c1, c2, c3, c4, c5⟩ := (HH.out.later hm (Nat.le_refl _)).atM hx?
      have hsn : ms.take (k + 1) = ms.take k ++ [ms[k]] := List.take_succ_eq_append_getElem hkx
      generalize ms[k]'hkx = m at *
      have HSN := Lib.hid hsn
      have hrow : wr.ownsRow w.heap.size 39 6 (.slice Ao k co) k ((ms.take k).flatMap encM) := by
        have h := hown
        unfold Own at h
        rw [htl] at h
        exact h
      have hbase : ∀ q, (Value.slice Ao k co).ownBlock = some q → w.heap.size ≤ q := fun q e => hown.base e
      have HRW := Lib.hid (own_mod (((Mod.refl (fun _ => False) wr).alloc (.cells #[.int .i64 m.peer, .int .u64 m.id, .int .i64 m.total, .int .i64 m.hav, .int .i64 m.granted, .int .i64 m.born] 41)).alloc (.cells #[.int .i64 m.peer, .int .u64 m.id, .int .i64 m.total, .int .i64 m.hav, .int .i64 m.granted, .int .i64 m.born] 39)) hrow (fun _ _ e => e))
      have hlit := World.ownsRow_lit (base := 0) (size := 6) (e := 39) (wr.alloc (.cells #[.int .i64 m.peer, .int .u64 m.id, .int .i64 m.total, .int .i64 m.hav, .int .i64 m.granted, .int .i64 m.born] 41)) #[.int .i64 m.peer, .int .u64 m.id, .int .i64 m.total, .int .i64 m.hav, .int .i64 m.granted, .int .i64 m.born] 1 (Nat.zero_le _) (by decide) rfl
      have hsz1 : (wr.alloc (.cells #[.int .i64 m.peer, .int .u64 m.id, .int .i64 m.total, .int .i64 m.hav, .int .i64 m.granted, .int .i64 m.born] 41)).heap.size = wr.heap.size + 1 := by simp
      rw [hsz1] at hlit
      have HLIT := Lib.hid (Reads.of_own hlit)
      have hszr := hm.size
      have HM := Lib.hid hm
      have HBA := Lib.hid hbase
      clear hlit hrow hbase hown hm hx? hsn hsz1
      go_wp2_with (at_builtin
                   refine wpList_append_any _ rfl (.tmp 16) (.tmp 30) _ rfl w.heap.size 39 i0 _ 6 48 Try.underlying24 hi0 hz0 hz1 hz2 rfl (by omega) (.slice Ao k co) k ((ms.take k).flatMap encM) rfl HRW.out _ (some ⟨wr.heap.size + 1, 0, none⟩) 1 1 [.int .i64 m.peer, .int .u64 m.id, .int .i64 m.total, .int .i64 m.hav, .int .i64 m.granted, .int .i64 m.born] rfl HLIT.out (one_M _ _ _ _ _ _) (by simp only [maxLen]; omega) (by omega) (by simp; omega) ?_
                   intro v2 w9 hown2 hgr2 hat2
                   have hown3 : Own w9 w.heap.size 39 6 encM v2 (ms.take (k + 1)) := by
                     unfold Own
                     rw [HSN.out, flat_snoc, List.length_append, htl]
                     exact hown2
                   have m9 := ((HM.out.alloc (.cells #[.int .i64 m.peer, .int .u64 m.id, .int .i64 m.total, .int .i64 m.hav, .int .i64 m.granted, .int .i64 m.born] 41)).alloc (.cells #[.int .i64 m.peer, .int .u64 m.id, .int .i64 m.total, .int .i64 m.hav, .int .i64 m.granted, .int .i64 m.born] 39)).trans (Mod.ofGrown hgr2) (fun q hq e => by have := HBA.out q e; omega)
                   have M9 := Lib.hid m9
                   have HO9 := Lib.hid hown3
                   clear hown2 hgr2 hat2 hown3 m9)
      go_wp2_with fail
      go_roundw
      case rel => exact ⟨k + 1, by go_num, by omega, HO9.out, M9.out⟩
      case measure => simp [intOf]; omega
    · obtain rfl : k = n := by omega
      rw [List.take_of_length_le (by rw [HN.out]; exact Nat.le_refl _)] at hown
      have HO := Lib.hid hown
      have HM := Lib.hid hm
      clear hown hm
      go_wp2_with fail
      go_ret
      exact ⟨_, rfl, HO.out, HM.out⟩
end Go.Proofs.Ytpcgfejdeanenaa
