/- Contracts of a table of int that write. -/
import Derived.Test.YtkfembhladjhdaaTabWInt
import Derived.Test.YtkfembhladjhdaaMake
namespace Go.Proofs.Ytkfembhladjhdaa.TabInt
open Go.RowKit
set_option linter.unusedVariables false
set_option maxHeartbeats 2000000
set_option maxRecDepth 100000
theorem enc_length (o : Option ((Int × Int) × Int)) : (enc o).length = 4 := by rcases o with _ | ⟨⟨_, _⟩, _⟩ <;> rfl
/-- Four cells written: a slot. -/
theorem flat_set (s : List (Option ((Int × Int) × Int))) {i : Nat} (hi : i < s.length) (o : Option ((Int × Int) × Int)) (v0 v1 v2 v3 : Value) (he : enc o = [v0, v1, v2, v3]) :
    ((((s.flatMap enc).toArray.setIfInBounds (i * 4) v0).setIfInBounds (i * 4 + 1) v1).setIfInBounds (i * 4 + 2) v2).setIfInBounds (i * 4 + 3) v3 = ((s.set i o).flatMap enc).toArray := by
  have hfl := flat_length s
  have hfl2 := flat_length (s.set i o)
  rw [List.length_set] at hfl2
  apply Array.ext_getElem?
  intro m
  rcases Nat.lt_or_ge m (s.length * 4) with hm | hm
  · have hm4 : m / 4 * 4 + m % 4 = m := by omega
    have h1 := flat_at s (m / 4) (m % 4) (by omega) (by omega)
    have h2 := flat_at (s.set i o) (m / 4) (m % 4) (by omega) (by rw [List.length_set]; omega)
    rw [hm4] at h1 h2
    rw [show ((s.set i o).flatMap enc).toArray[m]? = ((s.set i o).flatMap enc)[m]? from List.getElem?_toArray, h2, Tab.at_set hi]
    simp only [Array.getElem?_setIfInBounds, Array.size_setIfInBounds, List.size_toArray, List.getElem?_toArray, hfl]
    by_cases e : i = m / 4
    · rw [if_pos e, he]
      have : m % 4 = 0 ∨ m % 4 = 1 ∨ m % 4 = 2 ∨ m % 4 = 3 := by omega
      rcases this with h | h | h | h
      · rw [h, if_neg (by omega), if_neg (by omega), if_neg (by omega), if_pos (by omega), if_pos (by omega)]; rfl
      · rw [h, if_neg (by omega), if_neg (by omega), if_pos (by omega), if_pos (by omega)]; rfl
      · rw [h, if_neg (by omega), if_pos (by omega), if_pos (by omega)]; rfl
      · rw [h, if_pos (by omega), if_pos (by omega)]; rfl
    · rw [if_neg e, if_neg (by omega), if_neg (by omega), if_neg (by omega), if_neg (by omega), h1]
  · rw [Array.getElem?_eq_none (by simp only [Array.size_setIfInBounds, List.size_toArray, hfl]; omega), List.getElem?_toArray, List.getElem?_eq_none (by omega)]
theorem putTail (bt bs : Nat) (most n : Int) (s : List (Option ((Int × Int) × Int))) (p i : Int) (x : Int) (w : World) (h : Mem w bt bs most n s) (hL : 1 ≤ s.length) (hL2 : s.length ≤ 2305843009213693952) (hr : ∃ i, i < s.length ∧ Tab.at_ s i = none) (hne : bt ≠ bs)
    (h6 : Tab.at_ s (Tab.find home s (p, i)) = none) (hn : n < most) (hm : most ≤ 100000) (hn0 : 0 ≤ n) (hc : 2 * (n + 1) ≤ s.length) :
    Calls Try.prog 22 #[.pointer (some ⟨bt, 0, none⟩), .agg #[.int .i64 p, .int .u64 i], .int .i64 x] w fun e w' => e = .returned (.int .i64 0) ∧ Mem w' bt bs most (n + 1) (Tab.put home s (p, i) x) ∧ Mod (fun k => k = bt ∨ k = bs) w w' := by
  have hR := Tab.find_lt (home := home) (k := (p, i)) (home_lt _ hL) hr
  unfold Tab.put
  have hA : Mem (w.alloc (.cells #[.int .i64 p, .int .u64 i] 29)) bt bs most n s := h.mod ((Mod.refl (fun _ => False) w).alloc _) (fun e => e) (fun e => e)
  generalize hRe : Tab.find home s (p, i) = R at *
  have HRe := Lib.hid hRe
  clear hRe
  have hd : decide (n ≥ most) = false := by simp; omega
  have hd2 : decide ((s.length : Int) < 2 * (n + 1)) = false := by rw [decide_eq_false_iff_not]; omega
  go_enter Try.func22, Try.ntmps22
  go_wp2_with fail
  refine (hasW _ _ _ _ _ _ _ _ hA hL (by omega) hr).mono ?_
  rintro e w1 ⟨rfl, m1⟩
  rw [HRe.out, h6]
  simp only [Option.isSome_none]
  have hmem := hA.mod m1 (fun e => e) (fun e => e)
  have htop := hmem.top.cell
  have hK1 : Blk w1 w.heap.size 29 #[.int .i64 p, .int .u64 i] := Blk.mod m1 (Blk.new _ _ _) (fun e => e)
  have m2 : Mod (fun _ => False) w w1 := ((Mod.refl (fun _ => False) w).alloc _).trans m1 (fun _ _ h => h)
  clear m1 hA
  go_wp2_with fail
  go_quiet (fail)
  replace hmem := hmem.mod ((Mod.refl (fun _ => False) w1).drewN nq) (fun e => e) (fun e => e)
  replace hK1 := hK1.drewN nq
  replace m2 := m2.drewN nq
  generalize World.drewN w1 nq = w2 at hmem hK1 m2 ⊢
  clear htop nq
  have htop := hmem.top.cell
  go_wp2_with fail
  go_quiet (fail)
  replace hmem := hmem.mod ((Mod.refl (fun _ => False) w2).drewN nq) (fun e => e) (fun e => e)
  replace hK1 := hK1.drewN nq
  replace m2 := m2.drewN nq
  generalize World.drewN w2 nq = w3 at hmem hK1 m2 ⊢
  clear htop nq
  go_wp2_with fail
  have hf : ∀ (y : Later w3), Calls Try.prog 47 #[.pointer (some ⟨bt, 0, none⟩), .agg #[.int .i64 p, .int .u64 i]] y.world fun e w' => e = .returned (.int .i64 R) ∧ Mod (fun _ => False) y.world w' := fun y => by
    have := findW bt bs most n s p i y.world (hmem.later y) hL (by omega) hr
    rw [HRe.out] at this
    exact this
  have HFD := Lib.hid hf
  clear hf
  have hT := fun (y : Later w3) => (hmem.later y).top.cell
  have hK := fun (y : Later w3) => (hK1.later y).cell
  refine region_later_tail 11 (by kernel_rfl) (by kernel_rfl) ?_
  simp only [List.take_succ_cons, List.take_zero, List.drop_succ_cons, List.drop_zero]
  repeat (go_big_quiet_step ((go_at_call 47; exact later_call (HFD.out _))))
  refine wpQuiet_nil ?_
  intro _ hw'
  obtain ⟨y, hw''⟩ := hw'
  subst hw''
  have hfr := (hmem.later y).row.free
  obtain ⟨s0, s1, s2, s3⟩ := (hmem.later y).slot hR
  rw [h6] at s0 s1 s2 s3
  simp only [enc, List.getElem?_cons_zero, List.getElem?_cons_succ] at s0 s1 s2 s3
  have hne' := hne.symm
  have htop := (hmem.later y).top.cell
  have hftop := (hmem.later y).top.free
  go_wp2
  go_ret
  refine ⟨rfl, ⟨?_, ?_⟩, ?_⟩
  · have := ((((((hmem.later y).top.setOther (a := ⟨bs, R * 4, none⟩) hne (.bool true)).setOther (a := ⟨bs, R * 4 + 1, none⟩) hne (.int .i64 p)).setOther (a := ⟨bs, R * 4 + 2, none⟩) hne (.int .u64 i)).setOther (a := ⟨bs, R * 4 + 3, none⟩) hne (.int .i64 x)).set 1 (.int .i64 (n + 1)))
    rw [List.length_set]
    exact this
  · have := ((((((hmem.later y).row.set (R * 4) (.bool true)).set (R * 4 + 1) (.int .i64 p)).set (R * 4 + 2) (.int .u64 i)).set (R * 4 + 3) (.int .i64 x)).setOther (a := ⟨bt, 1, none⟩) hne' (.int .i64 (n + 1)))
    rw [flat_set s hR (some ((p, i), x)) _ _ _ _ rfl] at this
    exact this
  · have h0 : Mod (fun k => k = bt ∨ k = bs) w y.world := (m2.mono (fun _ _ h => h.elim)).trans y.mod (fun _ _ h => h.elim)
    exact ((((h0.setCell (p := ⟨bs, R * 4, none⟩) (fun _ => .inr rfl) _).setCell (p := ⟨bs, R * 4 + 1, none⟩) (fun _ => .inr rfl) _).setCell (p := ⟨bs, R * 4 + 2, none⟩) (fun _ => .inr rfl) _).setCell (p := ⟨bs, R * 4 + 3, none⟩) (fun _ => .inr rfl) _).setCell (p := ⟨bt, 1, none⟩) (fun _ => .inl rfl) _
theorem empties_made (m : Nat) : madeCells #[.bool false, .int .i64 0, .int .u64 0, .int .i64 0] (m * 4) = empties m := by
  apply Array.ext_getElem?
  intro k
  unfold empties
  have hfl := flat_length (List.replicate m (none : Option ((Int × Int) × Int)))
  rw [List.length_replicate] at hfl
  rcases Nat.lt_or_ge k (m * 4) with hk | hk
  · rw [made_get _ _ _ hk]
    have hk4 : k / 4 * 4 + k % 4 = k := by omega
    have h1 := flat_at (List.replicate m (none : Option ((Int × Int) × Int))) (k / 4) (k % 4) (by omega) (by rw [List.length_replicate]; omega)
    rw [hk4] at h1
    have h2 : Tab.at_ (List.replicate m (none : Option ((Int × Int) × Int))) (k / 4) = none := by
      unfold Tab.at_; rw [List.getElem?_replicate]; split <;> rfl
    rw [h2] at h1
    rw [List.getElem?_toArray, h1]
    have : k % 4 = 0 ∨ k % 4 = 1 ∨ k % 4 = 2 ∨ k % 4 = 3 := by omega
    rcases this with h | h | h | h <;> rw [h] <;> simp [enc, h]
  · rw [Array.getElem?_eq_none (by rw [made_size]; exact hk), List.getElem?_toArray, List.getElem?_eq_none (by rw [hfl]; exact hk)]
theorem slot_info : (Try.prog.info? 87).map (fun i => (i.zero, i.size, i.bytes)) = some (some (.agg #[.bool false, .int .i64 0, .int .u64 0, .int .i64 0]), 4, 32) := by kernel_rfl
theorem run_make (L : Nat) (hL : L ≤ 549755813888) (w : World) : (Instr.makeSlice 83 (.int .i64 (2 * (L : Int))) (.int .i64 (2 * (L : Int)))).run Try.prog w = .ok (.slice (some ⟨w.heap.size, 0, none⟩) (2 * L) (2 * L)) (w.alloc (.cells (empties (2 * L)) 87)) := by
  obtain ⟨i, hi, hz, hs, hb⟩ := info_parts slot_info
  have := run_make_rowN (P := Try.prog) 83 87 i _ Try.underlying83 hi hz .i64 .i64 (2 * L) (2 * L) (Nat.le_refl _) (by rw [hb]; omega) (by omega) w
  rw [hs, show ((2 * L : Nat) : Int) = 2 * (L : Int) by omega] at this
  rw [this]
  congr 3
  exact empties_made (2 * L)
theorem growW (bt bs : Nat) (most n : Int) (s : List (Option ((Int × Int) × Int))) (w : World) (h : Mem w bt bs most n s) (hok : Tab.Ok home s) (hL2 : s.length ≤ 4294967296) (hne : bt ≠ bs) :
    Calls Try.prog 46 #[.pointer (some ⟨bt, 0, none⟩)] w fun e w' => e = .returned (.tuple #[]) ∧ ∃ bs', w.heap.size ≤ bs' ∧ Mem w' bt bs' most n (Tab.refill home (List.replicate (2 * s.length) none) s) ∧ Mod (· = bt) w w' := by
  have hc := h.top.cell
  have hf := h.top.free
  have hmk := fun w => run_make s.length (by omega) w
  have hlt := h.top.lt
  have hls := h.row.lt
  have hne' := hne.symm
  have hsz : s.length ≤ 4294967296 := hL2
  go_enter Try.func46, Try.ntmps46
  go_wp2
  go_loopw [18] (fun x wr => ∃ c : Nat, c ≤ s.length ∧ x = .int .i64 c ∧ Mem wr bt w.heap.size most n (Tab.refill home (List.replicate (2 * s.length) none) (s.take c)) ∧ Blk wr bs 87 (s.flatMap enc).toArray ∧ Mod (· = bt) w wr) (fun x _ => s.length - (intOf x).toNat)
  case atStart =>
    refine ⟨0, by omega, rfl, ⟨?_, ?_⟩, ?_, ?_⟩
    · have := (h.top.set 2 (.slice (some ⟨w.heap.size, 0, none⟩) (2 * s.length) (2 * s.length))).old (.cells (empties (2 * s.length)) 87)
      rw [List.take_zero, Tab.refill, List.length_replicate]
      exact this
    · rw [List.take_zero, Tab.refill]
      exact Blk.newAt (by simp) _ _
    · exact (h.row.setOther (a := ⟨bt, 2, none⟩) hne' _).old _
    · exact ((Mod.refl _ _).set1 2 _).alloc _
  case round =>
    obtain ⟨c, hcl, rfl, hm, hr, hM⟩ := hrel
    by_cases hlt2 : c < s.length
    · have hslot : wr.cell? ⟨bs, c * 4, none⟩ = (enc (Tab.at_ s c))[0]? ∧ wr.cell? ⟨bs, c * 4 + 1, none⟩ = (enc (Tab.at_ s c))[1]? ∧ wr.cell? ⟨bs, c * 4 + 2, none⟩ = (enc (Tab.at_ s c))[2]? ∧ wr.cell? ⟨bs, c * 4 + 3, none⟩ = (enc (Tab.at_ s c))[3]? := by
        have := flat_at s c
        refine ⟨?_, ?_, ?_, ?_⟩
        · rw [hr.cell, List.getElem?_toArray]; exact this 0 (by omega) hlt2
        · rw [hr.cell, List.getElem?_toArray]; exact this 1 (by omega) hlt2
        · rw [hr.cell, List.getElem?_toArray]; exact this 2 (by omega) hlt2
        · rw [hr.cell, List.getElem?_toArray]; exact this 3 (by omega) hlt2
      obtain ⟨s0, s1, s2, s3⟩ := hslot
      have htk : s.take (c + 1) = s.take c ++ [s[c]] := by rw [List.take_succ_eq_append_getElem hlt2]
      have hat : Tab.at_ s c = s[c] := by unfold Tab.at_; rw [List.getElem?_eq_getElem hlt2]; rfl
      rcases hx : s[c] with _ | ⟨⟨p, i⟩, x⟩
      · rw [hat, hx] at s0 s1 s2 s3
        simp only [enc, List.getElem?_cons_zero, List.getElem?_cons_succ] at s0 s1 s2 s3
        have hnew : Tab.refill home (List.replicate (2 * s.length) none) (s.take (c + 1)) = Tab.refill home (List.replicate (2 * s.length) none) (s.take c) := by
          rw [htk, hx, Tab.refill_append]; rfl
        have HN := Lib.hid hnew
        clear htk hat hx hnew
        go_wp2
        go_roundw
        case rel => exact ⟨c + 1, by omega, by go_num, by rw [HN.out]; exact hm.mod ((Mod.refl (fun _ => False) wr).alloc _) (fun e => e) (fun e => e), hr.old _, hM.alloc _⟩
        case measure => simp [intOf]; omega
      · rw [hat, hx] at s0 s1 s2 s3
        simp only [enc, List.getElem?_cons_zero, List.getElem?_cons_succ] at s0 s1 s2 s3
        obtain ⟨t1, t2, t3⟩ := Tab.refill_take (fun k L hL => home_lt k hL) hok c
        have hnew : Tab.refill home (List.replicate (2 * s.length) none) (s.take (c + 1)) = Tab.put home (Tab.refill home (List.replicate (2 * s.length) none) (s.take c)) (p, i) x := by
          rw [htk, hx, Tab.refill_append]; rfl
        have hl2 : (Tab.refill home (List.replicate (2 * s.length) none) (s.take c)).length = 2 * s.length := by rw [Tab.refill_length, List.length_replicate]
        have habs : ∀ v, ¬ Tab.has (Tab.refill home (List.replicate (2 * s.length) none) (s.take c)) (p, i) v := fun v hv => by
          obtain ⟨j, hj⟩ := (t2 _ _).1 hv
          rw [Tab.at_take] at hj
          split at hj
          · have := hok.once j c _ _ _ hj (hat.trans hx)
            omega
          · cases hj
        obtain ⟨q, hq⟩ : ∃ q, q = Tab.refill home (List.replicate (2 * s.length) none) (s.take c) := ⟨_, rfl⟩
        rw [← hq] at hm t1 t2 t3 habs hnew hl2
        have hR := (Tab.find_none (t1.home_lt _) t1.room habs)
        obtain ⟨hR1, hR2, _⟩ := hR
        unfold Tab.put at hnew
        generalize hRe : Tab.find home q (p, i) = R at *
        have HRe := Lib.hid hRe
        have HN := Lib.hid hnew
        clear hRe hq hnew htk hat hx habs t2 t3 hmk
        have hroom := t1.room
        rw [hl2] at hR1
        go_wp2_with fail
        have hm1 := hm.mod ((Mod.refl (fun _ => False) wr).alloc (.cells #[.bool true, .int .i64 p, .int .u64 i, .int .i64 x] 87)) (fun e => e) (fun e => e)
        have hr1 := hr.old (.cells #[.bool true, .int .i64 p, .int .u64 i, .int .i64 x] 87)
        have hM1 := hM.alloc (.cells #[.bool true, .int .i64 p, .int .u64 i, .int .i64 x] 87)
        have hx1 := Blk.new wr 87 #[.bool true, .int .i64 p, .int .u64 i, .int .i64 x]
        generalize hW : wr.alloc (.cells #[.bool true, .int .i64 p, .int .u64 i, .int .i64 x] 87) = wx at *
        clear hW
        have hbx : wr.heap.size ≠ w.heap.size := by have := hm.row.lt; omega
        have hbt : bt ≠ w.heap.size := by omega
        have hbs : bs ≠ w.heap.size := by omega
        have hf : ∀ (y : Later wx), Calls Try.prog 47 #[.pointer (some ⟨bt, 0, none⟩), .agg #[.int .i64 p, .int .u64 i]] y.world fun e w' => e = .returned (.int .i64 R) ∧ Mod (fun _ => False) y.world w' := fun y => by
          have := findW bt w.heap.size most n q p i y.world (hm1.later y) (by omega) (by omega) hroom
          rw [HRe.out] at this
          exact this
        have HFD := Lib.hid hf
        clear hf
        have hT := fun (y : Later wx) => (hm1.later y).top.cell
        have hK := fun (y : Later wx) => (hx1.later y).cell
        have hLL := Lib.hid hl2
        rw [hl2] at hT
        clear hl2
        refine region_later_tail 10 (by kernel_rfl) (by kernel_rfl) ?_
        simp only [List.take_succ_cons, List.take_zero, List.drop_succ_cons, List.drop_zero]
        repeat (go_big_quiet_step ((go_at_call 47; exact later_call (HFD.out _))))
        refine wpQuiet_nil ?_
        intro _ hw'
        obtain ⟨y, hw''⟩ := hw'
        subst hw''
        have hfr := (hm1.later y).row.free
        obtain ⟨s0, s1, s2, s3⟩ := (hm1.later y).slot (show R < q.length by rw [hLL.out]; exact hR1)
        rw [hR2] at s0 s1 s2 s3
        simp only [enc, List.getElem?_cons_zero, List.getElem?_cons_succ] at s0 s1 s2 s3
        clear hT hK
        go_wp2
        go_roundw
        case rel =>
          refine ⟨c + 1, by omega, by go_num, ⟨?_, ?_⟩, ?_, ?_⟩
          · rw [HN.out, List.length_set]
            exact ((((hm1.later y).top.setOther (a := ⟨w.heap.size, R * 4, none⟩) hbt _).setOther (a := ⟨w.heap.size, R * 4 + 1, none⟩) hbt _).setOther (a := ⟨w.heap.size, R * 4 + 2, none⟩) hbt _).setOther (a := ⟨w.heap.size, R * 4 + 3, none⟩) hbt _
          · have := ((((hm1.later y).row.set (R * 4) (.bool true)).set (R * 4 + 1) (.int .i64 p)).set (R * 4 + 2) (.int .u64 i)).set (R * 4 + 3) (.int .i64 x)
            rw [flat_set q (by rw [hLL.out]; exact hR1) (some ((p, i), x)) _ _ _ _ rfl] at this
            rw [HN.out]
            exact this
          · exact ((((hr1.later y).setOther (a := ⟨w.heap.size, R * 4, none⟩) hbs _).setOther (a := ⟨w.heap.size, R * 4 + 1, none⟩) hbs _).setOther (a := ⟨w.heap.size, R * 4 + 2, none⟩) hbs _).setOther (a := ⟨w.heap.size, R * 4 + 3, none⟩) hbs _
          · have h0 : Mod (· = bt) w y.world := hM1.trans y.mod (fun _ _ h => h.elim)
            exact (((h0.setCell (p := ⟨w.heap.size, R * 4, none⟩) (fun h => absurd h (Nat.lt_irrefl _)) _).setCell (p := ⟨w.heap.size, R * 4 + 1, none⟩) (fun h => absurd h (Nat.lt_irrefl _)) _).setCell (p := ⟨w.heap.size, R * 4 + 2, none⟩) (fun h => absurd h (Nat.lt_irrefl _)) _).setCell (p := ⟨w.heap.size, R * 4 + 3, none⟩) (fun h => absurd h (Nat.lt_irrefl _)) _
        case measure => simp [intOf]; omega
    · obtain rfl : c = s.length := by omega
      rw [List.take_length] at hm
      go_wp2
      go_end0
      exact ⟨rfl, _, Nat.le_refl _, hm, hM⟩
end Go.Proofs.Ytkfembhladjhdaa.TabInt
