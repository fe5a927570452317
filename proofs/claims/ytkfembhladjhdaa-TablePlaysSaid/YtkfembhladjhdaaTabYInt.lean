/- Contracts of a table of int that write: Put with growing, Set, Delete. -/
import Derived.Test.YtkfembhladjhdaaTabXInt
namespace Go.Proofs.Ytkfembhladjhdaa.TabInt
open Go.RowKit
set_option linter.unusedVariables false
set_option maxHeartbeats 2000000
set_option maxRecDepth 100000
theorem putGrow (bt bs : Nat) (most n : Int) (s : List (Option ((Int × Int) × Int))) (p i : Int) (x : Int) (w : World) (h : Mem w bt bs most n s) (hok : Tab.Ok home s) (hL2 : s.length ≤ 4294967296) (hne : bt ≠ bs)
    (habs : ∀ v, ¬ Tab.has s (p, i) v) (hn : n < most) (hm : most ≤ 100000) (hn0 : 0 ≤ n) (hc : s.length < 2 * (n + 1)) :
    Calls Try.prog 22 #[.pointer (some ⟨bt, 0, none⟩), .agg #[.int .i64 p, .int .u64 i], .int .i64 x] w fun e w' => e = .returned (.int .i64 0) ∧ ∃ bq, w.heap.size ≤ bq ∧ Mem w' bt bq most (n + 1) (Tab.put home (Tab.refill home (List.replicate (2 * s.length) none) s) (p, i) x) ∧ Mod (· = bt) w w' := by
  have hL : 1 ≤ s.length := by obtain ⟨i, hi, _⟩ := hok.room; omega
  obtain ⟨t1, t2, t3⟩ := Tab.refill_take (fun k L hL => home_lt k hL) hok s.length
  rw [List.take_length] at t1 t2 t3
  have hl2 : (Tab.refill home (List.replicate (2 * s.length) none) s).length = 2 * s.length := by rw [Tab.refill_length, List.length_replicate]
  have habs2 : ∀ v, ¬ Tab.has (Tab.refill home (List.replicate (2 * s.length) none) s) (p, i) v := fun v hv => habs v ((t2 _ _).1 hv)
  obtain ⟨hR1, hR2, _⟩ := Tab.find_none (t1.home_lt _) t1.room habs2
  have hf0 := (Tab.find_none (hok.home_lt _) hok.room habs).2.1
  have hr := hok.room
  have hroom := t1.room
  have hA : Mem (w.alloc (.cells #[.int .i64 p, .int .u64 i] 29)) bt bs most n s := h.mod ((Mod.refl (fun _ => False) w).alloc _) (fun e => e) (fun e => e)
  have HG := Lib.hid (fun w1 (hmem : Mem w1 bt bs most n s) => growW bt bs most n s w1 hmem hok hL2 hne)
  unfold Tab.put
  generalize Tab.refill home (List.replicate (2 * s.length) none) s = q at *
  generalize hRe : Tab.find home q (p, i) = R at *
  have HRe := Lib.hid hRe
  clear hRe t1 t2 t3 habs habs2 hok
  rw [hl2] at hR1
  have hd : decide (n ≥ most) = false := by rw [decide_eq_false_iff_not]; omega
  have hlt := h.top.lt
  go_enter Try.func22, Try.ntmps22
  go_wp2_with fail
  refine (hasW _ _ _ _ _ _ _ _ hA hL (by omega) hr).mono ?_
  rintro e w1 ⟨rfl, m1⟩
  rw [hf0]
  simp only [Option.isSome_none]
  have hmem := hA.mod m1 (fun e => e) (fun e => e)
  have htop := hmem.top.cell
  have hK1 : Blk w1 w.heap.size 29 #[.int .i64 p, .int .u64 i] := Blk.mod m1 (Blk.new _ _ _) (fun e => e)
  have m2 : Mod (fun _ => False) w w1 := ((Mod.refl (fun _ => False) w).alloc _).trans m1 (fun _ _ h => h)
  clear m1 hA hf0 hr
  go_wp2_with fail
  go_quiet (fail)
  replace hmem := hmem.mod ((Mod.refl (fun _ => False) w1).drewN nq) (fun e => e) (fun e => e)
  replace hK1 := hK1.drewN nq
  replace m2 := m2.drewN nq
  generalize World.drewN w1 nq = w2 at hmem hK1 m2 ⊢
  clear htop nq
  have htop := hmem.top.cell
  go_wp2_with fail
  go_quiet (fail)
  replace hmem := hmem.mod ((Mod.refl (fun _ => False) w2).drewN nq) (fun e => e) (fun e => e)
  replace hK1 := hK1.drewN nq
  replace m2 := m2.drewN nq
  generalize World.drewN w2 nq = w3 at hmem hK1 m2 ⊢
  clear htop nq
  go_wp2_with fail
  refine (HG.out w3 hmem).mono ?_
  rintro e w4 ⟨rfl, bq, hbq, hmem4, m4⟩
  have hwsz : w.heap.size ≤ w3.heap.size := m2.size
  have hneq : bt ≠ bq := by omega
  have hKlt := hK1.lt
  replace hK1 : Blk w4 w.heap.size 29 #[.int .i64 p, .int .u64 i] := hK1.mod m4 (by omega)
  replace m2 : Mod (· = bt) w w4 := (m2.mono (fun _ _ h => h.elim)).trans m4 (fun _ _ h => h)
  clear hmem m4
  have hmem := hmem4
  clear hmem4
  replace hbq : w.heap.size ≤ bq := by omega
  clear hwsz hKlt h HG
  go_wp2_with fail
  have hf : ∀ (y : Later w4), Calls Try.prog 47 #[.pointer (some ⟨bt, 0, none⟩), .agg #[.int .i64 p, .int .u64 i]] y.world fun e w' => e = .returned (.int .i64 R) ∧ Mod (fun _ => False) y.world w' := fun y => by
    have := findW bt bq most n q p i y.world (hmem.later y) (by omega) (by omega) hroom
    rw [HRe.out] at this
    exact this
  have HFD := Lib.hid hf
  clear hf
  have hT := fun (y : Later w4) => (hmem.later y).top.cell
  have hK := fun (y : Later w4) => (hK1.later y).cell
  have hLL := Lib.hid hl2
  rw [hl2] at hT
  clear hl2
  refine region_later_tail 11 (by kernel_rfl) (by kernel_rfl) ?_
  simp only [List.take_succ_cons, List.take_zero, List.drop_succ_cons, List.drop_zero]
  repeat (go_big_quiet_step ((go_at_call 47; exact later_call (HFD.out _))))
  refine wpQuiet_nil ?_
  intro _ hw'
  obtain ⟨y, hw''⟩ := hw'
  subst hw''
  have hfr := (hmem.later y).row.free
  obtain ⟨s0, s1, s2, s3⟩ := (hmem.later y).slot (show R < q.length by rw [hLL.out]; exact hR1)
  rw [hR2] at s0 s1 s2 s3
  simp only [enc, List.getElem?_cons_zero, List.getElem?_cons_succ] at s0 s1 s2 s3
  have hne' := hneq.symm
  have htop := (hmem.later y).top.cell
  have hftop := (hmem.later y).top.free
  rw [hLL.out] at htop
  clear hT hK
  go_wp2
  go_ret
  refine ⟨rfl, bq, hbq, ⟨?_, ?_⟩, ?_⟩
  · have := ((((((hmem.later y).top.setOther (a := ⟨bq, R * 4, none⟩) hneq (.bool true)).setOther (a := ⟨bq, R * 4 + 1, none⟩) hneq (.int .i64 p)).setOther (a := ⟨bq, R * 4 + 2, none⟩) hneq (.int .u64 i)).setOther (a := ⟨bq, R * 4 + 3, none⟩) hneq (.int .i64 x)).set 1 (.int .i64 (n + 1)))
    rw [List.length_set]
    exact this
  · have := ((((((hmem.later y).row.set (R * 4) (.bool true)).set (R * 4 + 1) (.int .i64 p)).set (R * 4 + 2) (.int .u64 i)).set (R * 4 + 3) (.int .i64 x)).setOther (a := ⟨bt, 1, none⟩) hne' (.int .i64 (n + 1)))
    rw [flat_set q (by rw [hLL.out]; exact hR1) (some ((p, i), x)) _ _ _ _ rfl] at this
    exact this
  · have h0 : Mod (· = bt) w y.world := m2.trans y.mod (fun _ _ h => h.elim)
    exact ((((h0.setCell (p := ⟨bq, R * 4, none⟩) (fun h => absurd h (Nat.not_lt.2 hbq)) _).setCell (p := ⟨bq, R * 4 + 1, none⟩) (fun h => absurd h (Nat.not_lt.2 hbq)) _).setCell (p := ⟨bq, R * 4 + 2, none⟩) (fun h => absurd h (Nat.not_lt.2 hbq)) _).setCell (p := ⟨bq, R * 4 + 3, none⟩) (fun h => absurd h (Nat.not_lt.2 hbq)) _).setCell (p := ⟨bt, 1, none⟩) (fun _ => rfl) _
theorem putThere (bt bs : Nat) (most n : Int) (s : List (Option ((Int × Int) × Int))) (p i : Int) (x : Int) (w : World) (h : Mem w bt bs most n s) (hok : Tab.Ok home s) (hL2 : s.length ≤ 4294967296) {v : Int} (hv : Tab.has s (p, i) v) :
    Calls Try.prog 22 #[.pointer (some ⟨bt, 0, none⟩), .agg #[.int .i64 p, .int .u64 i], .int .i64 x] w fun e w' => e = .returned (.int .i64 6) ∧ Mod (fun _ => False) w w' := by
  have hL : 1 ≤ s.length := by obtain ⟨i, hi, _⟩ := hok.room; omega
  have hA : Mem (w.alloc (.cells #[.int .i64 p, .int .u64 i] 29)) bt bs most n s := h.mod ((Mod.refl (fun _ => False) w).alloc _) (fun e => e) (fun e => e)
  have hf0 : (Tab.at_ s (Tab.find home s (p, i))).isSome = true := by
    obtain ⟨j, hj⟩ := hv
    rw [Tab.find_has hok hj, hj]; rfl
  have HF := Lib.hid hf0
  have hr := hok.room
  clear hv hf0 hok
  go_enter Try.func22, Try.ntmps22
  go_wp2_with fail
  refine (hasW _ _ _ _ _ _ _ _ hA hL (by omega) hr).mono ?_
  rintro e w1 ⟨rfl, m1⟩
  rw [HF.out]
  have m2 : Mod (fun _ => False) w w1 := ((Mod.refl (fun _ => False) w).alloc _).trans m1 (fun _ _ h => h)
  clear m1
  go_wp2
  go_ret
  exact ⟨rfl, m2⟩
theorem putFull (bt bs : Nat) (most n : Int) (s : List (Option ((Int × Int) × Int))) (p i : Int) (x : Int) (w : World) (h : Mem w bt bs most n s) (hok : Tab.Ok home s) (hL2 : s.length ≤ 4294967296) (habs : ∀ v, ¬ Tab.has s (p, i) v) (hn : most ≤ n) :
    Calls Try.prog 22 #[.pointer (some ⟨bt, 0, none⟩), .agg #[.int .i64 p, .int .u64 i], .int .i64 x] w fun e w' => e = .returned (.int .i64 4) ∧ Mod (fun _ => False) w w' := by
  have hL : 1 ≤ s.length := by obtain ⟨i, hi, _⟩ := hok.room; omega
  have hA : Mem (w.alloc (.cells #[.int .i64 p, .int .u64 i] 29)) bt bs most n s := h.mod ((Mod.refl (fun _ => False) w).alloc _) (fun e => e) (fun e => e)
  have hf0 : (Tab.at_ s (Tab.find home s (p, i))).isSome = false := by
    rw [(Tab.find_none (hok.home_lt _) hok.room habs).2.1]; rfl
  have HF := Lib.hid hf0
  have hr := hok.room
  clear habs hf0 hok
  go_enter Try.func22, Try.ntmps22
  go_wp2_with fail
  refine (hasW _ _ _ _ _ _ _ _ hA hL (by omega) hr).mono ?_
  rintro e w1 ⟨rfl, m1⟩
  rw [HF.out]
  have hmem := hA.mod m1 (fun e => e) (fun e => e)
  have htop := hmem.top.cell
  have m2 : Mod (fun _ => False) w w1 := ((Mod.refl (fun _ => False) w).alloc _).trans m1 (fun _ _ h => h)
  clear m1
  go_wp2_with fail
  go_quiet (fail)
  go_wp2
  go_ret
  exact ⟨rfl, m2.drewN _⟩
theorem putNone (p i : Int) (x : Int) (w : World) :
    Calls Try.prog 22 #[.pointer none, .agg #[.int .i64 p, .int .u64 i], .int .i64 x] w fun e w' => e = .returned (.int .i64 4) ∧ Mod (fun _ => False) w w' := by
  go_enter Try.func22, Try.ntmps22
  go_wp2_with fail
  refine (hasNone _ _ _).mono ?_
  rintro e w1 ⟨rfl, m1⟩
  have m2 : Mod (fun _ => False) w w1 := ((Mod.refl (fun _ => False) w).alloc _).trans m1 (fun _ _ h => h)
  clear m1
  go_wp2_with fail
  go_quiet (fail)
  go_wp2
  go_ret
  exact ⟨rfl, m2.drewN _⟩
end Go.Proofs.Ytkfembhladjhdaa.TabInt
