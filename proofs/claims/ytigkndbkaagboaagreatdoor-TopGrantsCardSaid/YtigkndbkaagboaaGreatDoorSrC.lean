/- How two messages compare: the closures that are handed to the library. -/
import Derived.Test.YtigkndbkaagboaaGreatDoorSrO
import Derived.Shelf.SlSortCmp.Kit1
import Derived.Deep.DrawnRows
import Derived.Deep.CutBlock
namespace Go.Proofs.YtigkndbkaagboaaGreatDoor
open Go.RowKit Go.Sort
set_option linter.unusedVariables false
set_option linter.unusedSimpArgs false
set_option maxHeartbeats 2000000
set_option maxRecDepth 100000
attribute [local go_sem ↓] Go.wp_at_zero Go.wp_at_succ
theorem nanI (a : Int) (w : World) : Calls Tryz.prog 90 #[.int .i64 a] w fun e w' => e = .returned (.bool false) ∧ w = w' := by
  have e0 : (a != a) = false := by simp
  go_enter Tryz.func90, Tryz.ntmps90
  go_wp2
  go_ret
  exact ⟨rfl, rfl⟩
theorem nanU (a : Int) (w : World) : Calls Tryz.prog 91 #[.int .u64 a] w fun e w' => e = .returned (.bool false) ∧ w = w' := by
  have e0 : (a != a) = false := by simp
  go_enter Tryz.func91, Tryz.ntmps91
  go_wp2
  go_ret
  exact ⟨rfl, rfl⟩
theorem compareI (a b : Int) (w : World) : Calls Tryz.prog 45 #[.int .i64 a, .int .i64 b] w fun e w' => e = .returned (.int .i64 (cmpZ a b)) ∧ w = w' := by
  unfold cmpZ
  by_cases h1 : a < b
  · rw [if_pos h1]
    go_enter Tryz.func45, Tryz.ntmps45
    go_wp2_with (go_at_call 90; refine (nanI _ _).mono ?_; rintro e w' ⟨rfl, rfl⟩)
    go_ret
    exact ⟨rfl, rfl⟩
  · rw [if_neg h1]
    by_cases h2 : b < a
    · rw [if_pos h2]
      go_enter Tryz.func45, Tryz.ntmps45
      go_wp2_with (go_at_call 90; refine (nanI _ _).mono ?_; rintro e w' ⟨rfl, rfl⟩)
      go_ret
      exact ⟨rfl, rfl⟩
    · rw [if_neg h2]
      go_enter Tryz.func45, Tryz.ntmps45
      go_wp2_with (go_at_call 90; refine (nanI _ _).mono ?_; rintro e w' ⟨rfl, rfl⟩)
      go_ret
      exact ⟨rfl, rfl⟩
theorem compareU (a b : Int) (w : World) : Calls Tryz.prog 46 #[.int .u64 a, .int .u64 b] w fun e w' => e = .returned (.int .i64 (cmpZ a b)) ∧ w = w' := by
  unfold cmpZ
  by_cases h1 : a < b
  · rw [if_pos h1]
    go_enter Tryz.func46, Tryz.ntmps46
    go_wp2_with (go_at_call 91; refine (nanU _ _).mono ?_; rintro e w' ⟨rfl, rfl⟩)
    go_ret
    exact ⟨rfl, rfl⟩
  · rw [if_neg h1]
    by_cases h2 : b < a
    · rw [if_pos h2]
      go_enter Tryz.func46, Tryz.ntmps46
      go_wp2_with (go_at_call 91; refine (nanU _ _).mono ?_; rintro e w' ⟨rfl, rfl⟩)
      go_ret
      exact ⟨rfl, rfl⟩
    · rw [if_neg h2]
      go_enter Tryz.func46, Tryz.ntmps46
      go_wp2_with (go_at_call 91; refine (nanU _ _).mono ?_; rintro e w' ⟨rfl, rfl⟩)
      go_ret
      exact ⟨rfl, rfl⟩
theorem orZ_drop {zs : List Int} {k : Nat} {x : Int} (h : zs[k]? = some x) : orZ (zs.drop k) = if x = 0 then orZ (zs.drop (k + 1)) else x := by
  have hk : k < zs.length := (List.getElem?_eq_some_iff.1 h).1
  rw [List.drop_eq_getElem_cons hk, orZ_cons]
  rw [List.getElem?_eq_getElem hk] at h
  rw [Option.some.inj h]
theorem orW (v : Value) (zs : List Int) (B : Nat) (w : World) (h : Has w B 1 encI v zs) (hl : zs.length ≤ 1000000) :
    Calls Tryz.prog 44 #[v] w fun e w' => e = .returned (.int .i64 (orZ zs)) ∧ w = w' := by
  obtain ⟨A, cap, rfl, hcap⟩ := h.form
  have HH := Lib.hid h
  clear h
  generalize hn : zs.length = n at *
  have HN := Lib.hid hn
  clear hn
  generalize ho : orZ zs = o
  have HO := Lib.hid ho
  clear ho
  go_enter Tryz.func44, Tryz.ntmps44
  go_wp2_with fail
  go_loop [8] (fun i => ∃ k : Nat, i = .int .i64 k ∧ k ≤ n ∧ orZ (zs.drop k) = o) (fun i => n - (intOf i).toNat)
  case atStart => exact ⟨0, rfl, by omega, HO.out⟩
  case round =>
    obtain ⟨k, rfl, hk, hd⟩ := hrel
    have HD := Lib.hid hd
    clear hd
    by_cases hkl : k < n
    · have hkx : k < zs.length := by rw [HN.out]; exact hkl
      have hx? := List.getElem?_eq_getElem hkx
      obtain ⟨g, off, rfl, _, hc⟩ := HH.out.atI hx?
      have hod := orZ_drop hx?
      generalize zs[k]'hkx = x at *
      have HOD := Lib.hid hod
      clear hod hx?
      by_cases h0 : x = 0
      · subst h0
        go_wp2_with fail
        go_round
        case rel => exact ⟨k + 1, by go_num, by omega, by rw [← HD.out, HOD.out, if_pos rfl]⟩
        case measure => simp [intOf]; omega
      · have h0' : (x != 0) = true := by simpa using h0
        go_wp2_with fail
        go_ret
        exact ⟨ret_int (by rw [← HD.out, HOD.out, if_neg h0]), rfl⟩
    · have he : o = 0 := by rw [← HD.out, List.drop_of_length_le (by rw [HN.out]; omega)]; rfl
      subst he
      go_wp2_with fail
      go_ret
      exact ⟨rfl, rfl⟩
/-- New blocks and draws alone. -/
def Grw (w w' : World) : Prop := ∃ q os, w' = Go.Sort.grow (w.drewN q) os
theorem Grw.of {w w' : World} (m : Mod (fun _ => False) w w') (hd : w.drawn ≤ w'.drawn) : Grw w w' := by
  refine ⟨w'.drawn - w.drawn, w'.heap.extract w.heap.size w'.heap.size, ?_⟩
  obtain ⟨h', t', d', o', u'⟩ := w'
  have h1 := m.os
  have h2 := m.tape
  have h3 := m.output
  have h4 := m.size
  have h5 := m.block
  simp only at h1 h2 h3 h4 h5 hd
  unfold Go.Sort.grow
  have hh : h' = w.heap ++ h'.extract w.heap.size h'.size := by
    apply Array.ext_getElem?
    intro i
    by_cases hi : i < w.heap.size
    · rw [Array.getElem?_append_left hi, h5 i hi (fun e => e)]
    · rw [Array.getElem?_append_right (by omega), Array.getElem?_extract]
      by_cases hi2 : i < h'.size
      · rw [if_pos (by omega), show w.heap.size + (i - w.heap.size) = i by omega]
      · rw [if_neg (by omega), Array.getElem?_eq_none (by omega)]
  subst h1 h2 h3
  have hd' : d' = w.drawn + (d' - w.drawn) := by omega
  show World.mk h' w.tape d' w.os w.output = World.mk (w.heap ++ h'.extract w.heap.size h'.size) w.tape (w.drawn + (d' - w.drawn)) w.os w.output
  rw [← hd', ← hh]
theorem Grw.refl (w : World) : Grw w w := ⟨0, #[], by simp [World.drewN_zero]⟩
theorem Grw.mod {w w' : World} (h : Grw w w') : Mod (fun _ => False) w w' := by
  obtain ⟨q, os, rfl⟩ := h
  refine ⟨rfl, rfl, rfl, by simp [Go.Sort.grow], fun k hk _ => ?_⟩
  show (w.heap ++ os)[k]? = _
  rw [Array.getElem?_append_left hk]
theorem Grw.drawn {w w' : World} (h : Grw w w') : w.drawn ≤ w'.drawn := by
  obtain ⟨q, os, rfl⟩ := h
  exact Nat.le_add_right _ _
theorem Grw.trans {a b c : World} (h : Grw a b) (k : Grw b c) : Grw a c := Grw.of (h.mod.trans k.mod (fun _ _ h => h)) (Nat.le_trans h.drawn k.drawn)
theorem Grw.alloc {w w' : World} (h : Grw w w') (o : Obj) : Grw w (w'.alloc o) := Grw.of (h.mod.alloc o) h.drawn
theorem Grw.drewN {w w' : World} (h : Grw w w') (n : Nat) : Grw w (w'.drewN n) := Grw.of (h.mod.drewN n) (Nat.le_trans h.drawn (Nat.le_add_right _ _))
theorem Grw.drew {w w' : World} (h : Grw w w') : Grw w w'.drew := h.drewN 1
theorem Grw.setCell {w w' : World} (h : Grw w w') {p : Addr} (hp : w.heap.size ≤ p.block) (v : Value) : Grw w (w'.setCell p v) := Grw.of (h.mod.setCell (fun e => by omega) v) h.drawn
/-- The closure of Order. -/
theorem orderFnW (Bv : Nat) (v : Value) (ms : List Ms) (B : Nat) (i k : Nat) (a b : Ms) (w : World) (hc : w.cell? ⟨Bv, 0, none⟩ = some v) (hBv : Bv < w.heap.size) (h : Has w B 6 encM v ms) (hB : B ≤ w.heap.size) (hi : ms[i]? = some a) (hk : ms[k]? = some b) (pa : mayP a) (pb : mayP b) :
    Calls Tryz.prog 43 #[.int .i64 (i : Int), .int .i64 (k : Int), .pointer (some ⟨Bv, 0, none⟩)] w fun e w' => e = .returned (.int .i64 (cmpK (keyM false a i) (keyM false b k))) ∧ Grw w w' := by
  obtain ⟨A, cap, rfl, hcap⟩ := h.form
  obtain ⟨g, off, rfl, hg, c0, c1, c2, c3, c4, c5⟩ := h.atM hi
  obtain ⟨g', off', he, _, d0, d1, d2, d3, d4, d5⟩ := h.atM hk
  obtain ⟨rfl, rfl⟩ : g = g' ∧ off = off' := by
    injection he with e
    injection e with e1 e2
    exact ⟨e1, e2⟩
  have hil : i < ms.length := (List.getElem?_eq_some_iff.1 hi).1
  have hkl : k < ms.length := (List.getElem?_eq_some_iff.1 hk).1
  generalize hn : ms.length = n at *
  obtain ⟨p1, p2, p3, p4, p5, p6, p7, p8, p9, p10⟩ := pa
  obtain ⟨q1, q2, q3, q4, q5, q6, q7, q8, q9, q10⟩ := pb
  unfold keyM cmpK
  obtain ⟨pe, id, tt, ha, gr, bo⟩ := a
  obtain ⟨pe', id', tt', ha', gr', bo'⟩ := b
  simp only [Bool.false_eq_true, if_false] at *
  have i0 : (0 : Int) ≤ (i : Int) := by omega
  have i1 : (i : Int) < (n : Int) := by omega
  have k0 : (0 : Int) ≤ (k : Int) := by omega
  have k1 : (k : Int) < (n : Int) := by omega
  clear he hi hk h hn
  go_enter Tryz.func43, Tryz.ntmps43
  go_upto_region 1 with fail
  go_cut [6, 7] from 8 to 15 (fun p q wx => ∃ x y : Nat, p = .pointer (some ⟨x, 0, none⟩) ∧ q = .pointer (some ⟨y, 0, none⟩) ∧ Blk wx x 28 #[.int .i64 pe, .int .u64 id, .int .i64 tt, .int .i64 ha, .int .i64 gr, .int .i64 bo] ∧ Blk wx y 28 #[.int .i64 pe', .int .u64 id', .int .i64 tt', .int .i64 ha', .int .i64 gr', .int .i64 bo'] ∧ Grw w wx)
  case first =>
    go_region_held3 (fun w' => w'.cell? ⟨Bv, 0, none⟩ = some (.slice (some ⟨g, off, none⟩) n cap) ∧ w'.cell? ⟨g, off + i * 6, none⟩ = some (.int .i64 pe) ∧ w'.cell? ⟨g, off + i * 6 + 1, none⟩ = some (.int .u64 id) ∧ w'.cell? ⟨g, off + i * 6 + 2, none⟩ = some (.int .i64 tt) ∧ w'.cell? ⟨g, off + i * 6 + 3, none⟩ = some (.int .i64 ha) ∧ w'.cell? ⟨g, off + i * 6 + 4, none⟩ = some (.int .i64 gr) ∧ w'.cell? ⟨g, off + i * 6 + 5, none⟩ = some (.int .i64 bo) ∧
      w'.cell? ⟨g, off + k * 6, none⟩ = some (.int .i64 pe') ∧ w'.cell? ⟨g, off + k * 6 + 1, none⟩ = some (.int .u64 id') ∧ w'.cell? ⟨g, off + k * 6 + 2, none⟩ = some (.int .i64 tt') ∧ w'.cell? ⟨g, off + k * 6 + 3, none⟩ = some (.int .i64 ha') ∧ w'.cell? ⟨g, off + k * 6 + 4, none⟩ = some (.int .i64 gr') ∧ w'.cell? ⟨g, off + k * 6 + 5, none⟩ = some (.int .i64 bo')) (go_keep) (fail)
    all_goals
      go_wp2_with fail
      go_meet
      case rel => first
        | exact ⟨w.heap.size, w.heap.size + 1, rfl, rfl, ((Blk.new w _ _).old _).drew, (Blk.newAt (by simp) _ _).drew, (((Grw.refl w).alloc _).alloc _).drew⟩
        | exact ⟨w.heap.size + 1, w.heap.size, rfl, rfl, (Blk.newAt (by simp) _ _).drew, ((Blk.new w _ _).old _).drew, (((Grw.refl w).alloc _).alloc _).drew⟩
  case rest =>
    obtain ⟨x, y, rfl, rfl, hx, hy, hgr⟩ := hcut
    have hcx := hx.cell
    have hcy := hy.cell
    have s1 : IntKind.i64.wrap (tt - ha) = tt - ha := by rw [IntKind.wrap_i64]; omega
    have s2 : IntKind.i64.wrap (tt' - ha') = tt' - ha' := by rw [IntKind.wrap_i64]; omega
    have HGR := Lib.hid hgr
    clear hgr hx hy hc c0 c1 c2 c3 c4 c5 d0 d1 d2 d3 d4 d5
    go_wp2_with fail
    refine region_quiet_tail 24 (by kernel_rfl) (by kernel_rfl) ?_
    simp only [List.take_succ_cons, List.take_zero, List.drop_succ_cons, List.drop_zero]
    repeat (go_big_quiet_step (first | (go_at_call 45; refine (compareI _ _ _).mono ?_; rintro e w' ⟨rfl, rfl⟩; exact ⟨rfl, _, rfl⟩) | (go_at_call 46; refine (compareU _ _ _).mono ?_; rintro e w' ⟨rfl, rfl⟩; exact ⟨rfl, _, rfl⟩)))
    refine wpQuiet_nil ?_
    intro _ hw'
    obtain ⟨nq, hw''⟩ := hw'
    subst hw''
    have hlit : ∀ r1 r2 r3 r4 : Int, Own (wc.alloc (.cells #[.int .i64 r1, .int .i64 r2, .int .i64 r3, .int .i64 r4] 3)) 0 3 1 encI (.slice (some ⟨wc.heap.size, 0, none⟩) 4 4) [r1, r2, r3, r4] := fun r1 r2 r3 r4 => World.ownsRow_lit (base := 0) (size := 1) (e := 3) wc #[.int .i64 r1, .int .i64 r2, .int .i64 r3, .int .i64 r4] 4 (Nat.zero_le _) (by decide) rfl
    have HL := Lib.hid fun r1 r2 r3 r4 => (hlit r1 r2 r3 r4).has.drewN nq
    clear hlit
    go_wp2_with (go_at_call 44; refine (orW _ [_, _, _, _] _ _ (HL.out _ _ _ _) (by simp)).mono ?_; rintro e w' ⟨rfl, rfl⟩)
    go_ret
    exact ⟨rfl, (HGR.out.alloc _).drewN nq⟩
/-- The closure of Oldest. -/
theorem oldestFnW (Bv : Nat) (v : Value) (ms : List Ms) (B : Nat) (i k : Nat) (a b : Ms) (w : World) (hc : w.cell? ⟨Bv, 0, none⟩ = some v) (hBv : Bv < w.heap.size) (h : Has w B 6 encM v ms) (hB : B ≤ w.heap.size) (hi : ms[i]? = some a) (hk : ms[k]? = some b) (pa : mayP a) (pb : mayP b) :
    Calls Tryz.prog 48 #[.int .i64 (i : Int), .int .i64 (k : Int), .pointer (some ⟨Bv, 0, none⟩)] w fun e w' => e = .returned (.int .i64 (cmpK (keyM true a i) (keyM true b k))) ∧ Grw w w' := by
  obtain ⟨A, cap, rfl, hcap⟩ := h.form
  obtain ⟨g, off, rfl, hg, c0, c1, c2, c3, c4, c5⟩ := h.atM hi
  obtain ⟨g', off', he, _, d0, d1, d2, d3, d4, d5⟩ := h.atM hk
  obtain ⟨rfl, rfl⟩ : g = g' ∧ off = off' := by
    injection he with e
    injection e with e1 e2
    exact ⟨e1, e2⟩
  have hil : i < ms.length := (List.getElem?_eq_some_iff.1 hi).1
  have hkl : k < ms.length := (List.getElem?_eq_some_iff.1 hk).1
  generalize hn : ms.length = n at *
  obtain ⟨p1, p2, p3, p4, p5, p6, p7, p8, p9, p10⟩ := pa
  obtain ⟨q1, q2, q3, q4, q5, q6, q7, q8, q9, q10⟩ := pb
  unfold keyM cmpK
  obtain ⟨pe, id, tt, ha, gr, bo⟩ := a
  obtain ⟨pe', id', tt', ha', gr', bo'⟩ := b
  simp only [if_true] at *
  have i0 : (0 : Int) ≤ (i : Int) := by omega
  have i1 : (i : Int) < (n : Int) := by omega
  have k0 : (0 : Int) ≤ (k : Int) := by omega
  have k1 : (k : Int) < (n : Int) := by omega
  clear he hi hk h hn
  go_enter Tryz.func48, Tryz.ntmps48
  go_upto_region 1 with fail
  go_cut [6, 7] from 8 to 15 (fun p q wx => ∃ x y : Nat, p = .pointer (some ⟨x, 0, none⟩) ∧ q = .pointer (some ⟨y, 0, none⟩) ∧ Blk wx x 28 #[.int .i64 pe, .int .u64 id, .int .i64 tt, .int .i64 ha, .int .i64 gr, .int .i64 bo] ∧ Blk wx y 28 #[.int .i64 pe', .int .u64 id', .int .i64 tt', .int .i64 ha', .int .i64 gr', .int .i64 bo'] ∧ Grw w wx)
  case first =>
    go_region_held3 (fun w' => w'.cell? ⟨Bv, 0, none⟩ = some (.slice (some ⟨g, off, none⟩) n cap) ∧ w'.cell? ⟨g, off + i * 6, none⟩ = some (.int .i64 pe) ∧ w'.cell? ⟨g, off + i * 6 + 1, none⟩ = some (.int .u64 id) ∧ w'.cell? ⟨g, off + i * 6 + 2, none⟩ = some (.int .i64 tt) ∧ w'.cell? ⟨g, off + i * 6 + 3, none⟩ = some (.int .i64 ha) ∧ w'.cell? ⟨g, off + i * 6 + 4, none⟩ = some (.int .i64 gr) ∧ w'.cell? ⟨g, off + i * 6 + 5, none⟩ = some (.int .i64 bo) ∧
      w'.cell? ⟨g, off + k * 6, none⟩ = some (.int .i64 pe') ∧ w'.cell? ⟨g, off + k * 6 + 1, none⟩ = some (.int .u64 id') ∧ w'.cell? ⟨g, off + k * 6 + 2, none⟩ = some (.int .i64 tt') ∧ w'.cell? ⟨g, off + k * 6 + 3, none⟩ = some (.int .i64 ha') ∧ w'.cell? ⟨g, off + k * 6 + 4, none⟩ = some (.int .i64 gr') ∧ w'.cell? ⟨g, off + k * 6 + 5, none⟩ = some (.int .i64 bo')) (go_keep) (fail)
    all_goals
      go_wp2_with fail
      go_meet
      case rel => first
        | exact ⟨w.heap.size, w.heap.size + 1, rfl, rfl, ((Blk.new w _ _).old _).drew, (Blk.newAt (by simp) _ _).drew, (((Grw.refl w).alloc _).alloc _).drew⟩
        | exact ⟨w.heap.size + 1, w.heap.size, rfl, rfl, (Blk.newAt (by simp) _ _).drew, ((Blk.new w _ _).old _).drew, (((Grw.refl w).alloc _).alloc _).drew⟩
  case rest =>
    obtain ⟨x, y, rfl, rfl, hx, hy, hgr⟩ := hcut
    have hcx := hx.cell
    have hcy := hy.cell
    have HGR := Lib.hid hgr
    clear hgr hx hy hc c0 c1 c2 c3 c4 c5 d0 d1 d2 d3 d4 d5
    go_wp2_with fail
    refine region_quiet_tail 18 (by kernel_rfl) (by kernel_rfl) ?_
    simp only [List.take_succ_cons, List.take_zero, List.drop_succ_cons, List.drop_zero]
    repeat (go_big_quiet_step (first | (go_at_call 45; refine (compareI _ _ _).mono ?_; rintro e w' ⟨rfl, rfl⟩; exact ⟨rfl, _, rfl⟩) | (go_at_call 46; refine (compareU _ _ _).mono ?_; rintro e w' ⟨rfl, rfl⟩; exact ⟨rfl, _, rfl⟩)))
    refine wpQuiet_nil ?_
    intro _ hw'
    obtain ⟨nq, hw''⟩ := hw'
    subst hw''
    have hlit : ∀ r1 r2 r3 r4 : Int, Own (wc.alloc (.cells #[.int .i64 r1, .int .i64 r2, .int .i64 r3, .int .i64 r4] 3)) 0 3 1 encI (.slice (some ⟨wc.heap.size, 0, none⟩) 4 4) [r1, r2, r3, r4] := fun r1 r2 r3 r4 => World.ownsRow_lit (base := 0) (size := 1) (e := 3) wc #[.int .i64 r1, .int .i64 r2, .int .i64 r3, .int .i64 r4] 4 (Nat.zero_le _) (by decide) rfl
    have HL := Lib.hid fun r1 r2 r3 r4 => (hlit r1 r2 r3 r4).has.drewN nq
    clear hlit
    go_wp2_with (go_at_call 44; refine (orW _ [_, _, _, _] _ _ (HL.out _ _ _ _) (by simp)).mono ?_; rintro e w' ⟨rfl, rfl⟩)
    go_ret
    exact ⟨rfl, (HGR.out.alloc _).drewN nq⟩
end Go.Proofs.YtigkndbkaagboaaGreatDoor
