/- The reference: which of two messages goes first. -/
import Derived.Test.YtigkndbkaagboaaGreatDoorSrC
namespace Go.Proofs.YtigkndbkaagboaaGreatDoor
open Go.RowKit Go.Sort
set_option linter.unusedVariables false
set_option linter.unusedSimpArgs false
set_option maxHeartbeats 2000000
set_option maxRecDepth 100000
attribute [local go_sem ↓] Go.wp_at_zero Go.wp_at_succ
theorem ret_bool {a b : Bool} (h : a = b) : Ending.returned (.bool a) = .returned (.bool b) := by rw [h]
theorem refFirstW (v : Value) (ms : List Ms) (B : Nat) (i k : Nat) (a b : Ms) (born : Bool) (w : World) (h : Has w B 6 encM v ms) (hB : B ≤ w.heap.size) (hi : ms[i]? = some a) (hk : ms[k]? = some b) (pa : mayP a) (pb : mayP b) :
    Calls Tryz.prog 130 #[v, .int .i64 (i : Int), .int .i64 (k : Int), .bool born] w fun e w' => e = .returned (.bool (decide (lt4 (keyM born a i) (keyM born b k)))) ∧ Mod (fun _ => False) w w' := by
  obtain ⟨A, cap, rfl, hcap⟩ := h.form
  obtain ⟨g, off, rfl, hg, c0, c1, c2, c3, c4, c5⟩ := h.atM hi
  obtain ⟨g', off', he, _, d0, d1, d2, d3, d4, d5⟩ := h.atM hk
  obtain ⟨rfl, rfl⟩ : g = g' ∧ off = off' := by
    injection he with e
    injection e with e1 e2
    exact ⟨e1, e2⟩
  have hil : i < ms.length := (List.getElem?_eq_some_iff.1 hi).1
  have hkl : k < ms.length := (List.getElem?_eq_some_iff.1 hk).1
  generalize hn : ms.length = n at *
  obtain ⟨p1, p2, p3, p4, p5, p6, p7, p8, p9, p10⟩ := pa
  obtain ⟨q1, q2, q3, q4, q5, q6, q7, q8, q9, q10⟩ := pb
  generalize hr0 : decide (lt4 (keyM born a i) (keyM born b k)) = r at *
  have hr : r = true ↔ lt4 (keyM born a i) (keyM born b k) := by rw [← hr0, decide_eq_true_iff]
  unfold lt4 keyM at hr
  clear hr0
  obtain ⟨pe, id, tt, ha, gr, bo⟩ := a
  obtain ⟨pe', id', tt', ha', gr', bo'⟩ := b
  simp only at *
  have HR := Lib.hid hr
  have i0 : (0 : Int) ≤ (i : Int) := by omega
  have i1 : (i : Int) < (n : Int) := by omega
  have k0 : (0 : Int) ≤ (k : Int) := by omega
  have k1 : (k : Int) < (n : Int) := by omega
  clear he hi hk h hn hr
  go_enter Tryz.func130, Tryz.ntmps130
  go_upto_region 1 with fail
  go_cut [9, 10] from 13 to 20 (fun p q wx => ∃ x y : Nat, p = .pointer (some ⟨x, 0, none⟩) ∧ q = .pointer (some ⟨y, 0, none⟩) ∧ Blk wx x 27 #[.int .i64 pe, .int .u64 id, .int .i64 tt, .int .i64 ha, .int .i64 gr, .int .i64 bo] ∧ Blk wx y 27 #[.int .i64 pe', .int .u64 id', .int .i64 tt', .int .i64 ha', .int .i64 gr', .int .i64 bo'] ∧ Mod (fun _ => False) w wx)
  case first =>
    go_region_held3 (fun w' => w'.cell? ⟨g, off + i * 6, none⟩ = some (.int .i64 pe) ∧ w'.cell? ⟨g, off + i * 6 + 1, none⟩ = some (.int .u64 id) ∧ w'.cell? ⟨g, off + i * 6 + 2, none⟩ = some (.int .i64 tt) ∧ w'.cell? ⟨g, off + i * 6 + 3, none⟩ = some (.int .i64 ha) ∧ w'.cell? ⟨g, off + i * 6 + 4, none⟩ = some (.int .i64 gr) ∧ w'.cell? ⟨g, off + i * 6 + 5, none⟩ = some (.int .i64 bo) ∧
      w'.cell? ⟨g, off + k * 6, none⟩ = some (.int .i64 pe') ∧ w'.cell? ⟨g, off + k * 6 + 1, none⟩ = some (.int .u64 id') ∧ w'.cell? ⟨g, off + k * 6 + 2, none⟩ = some (.int .i64 tt') ∧ w'.cell? ⟨g, off + k * 6 + 3, none⟩ = some (.int .i64 ha') ∧ w'.cell? ⟨g, off + k * 6 + 4, none⟩ = some (.int .i64 gr') ∧ w'.cell? ⟨g, off + k * 6 + 5, none⟩ = some (.int .i64 bo')) (go_keep) (fail)
    all_goals
      go_wp2_with fail
      go_meet
      case rel => first
        | exact ⟨w.heap.size, w.heap.size + 1, rfl, rfl, ((Blk.new w _ _).old _).drew, (Blk.newAt (by simp) _ _).drew, (((Mod.refl _ w).alloc _).alloc _).drew⟩
        | exact ⟨w.heap.size + 1, w.heap.size, rfl, rfl, (Blk.newAt (by simp) _ _).drew, ((Blk.new w _ _).old _).drew, (((Mod.refl _ w).alloc _).alloc _).drew⟩
  case rest =>
    obtain ⟨x, y, rfl, rfl, hx, hy, hmd⟩ := hcut
    have hcx := hx.cell
    have hcy := hy.cell
    have s1 : IntKind.i64.wrap (tt - ha) = tt - ha := by rw [IntKind.wrap_i64]; omega
    have s2 : IntKind.i64.wrap (tt' - ha') = tt' - ha' := by rw [IntKind.wrap_i64]; omega
    have HMD := Lib.hid hmd
    clear hmd hx hy c0 c1 c2 c3 c4 c5 d0 d1 d2 d3 d4 d5
    cases born with
    | false =>
      by_cases e1 : (tt - ha) = (tt' - ha')
      · have n1 : ((tt - ha) != (tt' - ha')) = false := by simp [e1]
        have HE1 := Lib.hid e1
        clear e1
        by_cases e2 : pe = pe'
        · have n2 : (pe != pe') = false := by simp [e2]
          have HE2 := Lib.hid e2
          clear e2
          by_cases e3 : id = id'
          · have n3 : (id != id') = false := by simp [e3]
            have HE3 := Lib.hid e3
            clear e3
            go_wp2_with fail
            go_quiet (fail)
            go_wp2_with fail
            go_ret
            exact ⟨ret_bool (by
              rw [Bool.eq_iff_iff, HR.out]
              simp only [decide_eq_true_eq, Bool.false_eq_true, if_false, if_true]
              have := HE1.out
              have := HE2.out
              have := HE3.out
              omega), by first | exact HMD.out | exact HMD.out.drewN _⟩
          · have n3 : (id != id') = true := by simp [e3]
            have HE3 := Lib.hid e3
            clear e3
            go_wp2_with fail
            go_quiet (fail)
            go_wp2_with fail
            go_ret
            exact ⟨ret_bool (by
              rw [Bool.eq_iff_iff, HR.out]
              simp only [decide_eq_true_eq, Bool.false_eq_true, if_false, if_true]
              have := HE1.out
              have := HE2.out
              have := HE3.out
              omega), by first | exact HMD.out | exact HMD.out.drewN _⟩
        · have n2 : (pe != pe') = true := by simp [e2]
          have HE2 := Lib.hid e2
          clear e2
          go_wp2_with fail
          go_quiet (fail)
          go_wp2_with fail
          go_ret
          exact ⟨ret_bool (by
            rw [Bool.eq_iff_iff, HR.out]
            simp only [decide_eq_true_eq, Bool.false_eq_true, if_false, if_true]
            have := HE1.out
            have := HE2.out
            omega), by first | exact HMD.out | exact HMD.out.drewN _⟩
      · have n1 : ((tt - ha) != (tt' - ha')) = true := by simpa using e1
        have HE1 := Lib.hid e1
        clear e1
        go_wp2_with fail
        go_quiet (fail)
        go_wp2_with fail
        go_ret
        exact ⟨ret_bool (by
          rw [Bool.eq_iff_iff, HR.out]
          simp only [decide_eq_true_eq, Bool.false_eq_true, if_false, if_true]
          have := HE1.out
          omega), by first | exact HMD.out | exact HMD.out.drewN _⟩
    | true =>
      by_cases e1 : bo = bo'
      · have n1 : (bo != bo') = false := by simp [e1]
        have HE1 := Lib.hid e1
        clear e1
        by_cases e2 : pe = pe'
        · have n2 : (pe != pe') = false := by simp [e2]
          have HE2 := Lib.hid e2
          clear e2
          by_cases e3 : id = id'
          · have n3 : (id != id') = false := by simp [e3]
            have HE3 := Lib.hid e3
            clear e3
            go_wp2_with fail
            go_quiet (fail)
            go_wp2_with fail
            go_quiet (fail)
            go_wp2_with fail
            go_ret
            exact ⟨ret_bool (by
              rw [Bool.eq_iff_iff, HR.out]
              simp only [decide_eq_true_eq, Bool.false_eq_true, if_false, if_true]
              have := HE1.out
              have := HE2.out
              have := HE3.out
              omega), by first | exact HMD.out | exact HMD.out.drewN _⟩
          · have n3 : (id != id') = true := by simp [e3]
            have HE3 := Lib.hid e3
            clear e3
            go_wp2_with fail
            go_quiet (fail)
            go_wp2_with fail
            go_quiet (fail)
            go_wp2_with fail
            go_ret
            exact ⟨ret_bool (by
              rw [Bool.eq_iff_iff, HR.out]
              simp only [decide_eq_true_eq, Bool.false_eq_true, if_false, if_true]
              have := HE1.out
              have := HE2.out
              have := HE3.out
              omega), by first | exact HMD.out | exact HMD.out.drewN _⟩
        · have n2 : (pe != pe') = true := by simp [e2]
          have HE2 := Lib.hid e2
          clear e2
          go_wp2_with fail
          go_quiet (fail)
          go_wp2_with fail
          go_quiet (fail)
          go_wp2_with fail
          go_ret
          exact ⟨ret_bool (by
            rw [Bool.eq_iff_iff, HR.out]
            simp only [decide_eq_true_eq, Bool.false_eq_true, if_false, if_true]
            have := HE1.out
            have := HE2.out
            omega), by first | exact HMD.out | exact HMD.out.drewN _⟩
      · have n1 : (bo != bo') = true := by simpa using e1
        have HE1 := Lib.hid e1
        clear e1
        go_wp2_with fail
        go_quiet (fail)
        go_wp2_with fail
        go_quiet (fail)
        go_wp2_with fail
        go_ret
        exact ⟨ret_bool (by
          rw [Bool.eq_iff_iff, HR.out]
          simp only [decide_eq_true_eq, Bool.false_eq_true, if_false, if_true]
          have := HE1.out
          omega), by first | exact HMD.out | exact HMD.out.drewN _⟩
end Go.Proofs.YtigkndbkaagboaaGreatDoor
