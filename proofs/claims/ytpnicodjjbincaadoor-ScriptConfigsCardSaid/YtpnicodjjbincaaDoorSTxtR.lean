/- The contract of the reference's TextOp. -/
import Derived.Test.YtpnicodjjbincaaDoorSWntW
namespace Go.Proofs.YtpnicodjjbincaaDoor
open Go.RowKit
set_option linter.unusedVariables false
set_option maxHeartbeats 8000000
set_option maxRecDepth 100000
theorem fields_filter : ∀ k : Fin 15, fieldsK k.val = ([97, 98, 110, 100] : Tx).filter (fun c => (fieldsK k.val).contains c) := by decide +kernel
theorem int_info : (Tryd.prog.info? 3).map (fun i => (i.zero, i.size, i.bytes)) = some (some (.int .i64 0), 1, 8) := by kernel_rfl
theorem textRW (o : OpT) (dv : Value) (w : World) (hd : Has w w.heap.size 1 encB dv o.data) (hl : o.data.length ≤ 1000000) :
    Calls Tryd.prog 12 #[.agg (opV o dv)] w fun e w' => e = .returned (.string (tb (textO o))) ∧ Mod (fun _ => False) w w' := by
  generalize hR : textO o = R
  unfold textO at hR
  by_cases hk : 1 ≤ o.kind ∧ o.kind ≤ 14
  · rw [if_pos hk] at hR
    obtain ⟨k, hkk⟩ : ∃ k : Nat, o.kind = k := ⟨o.kind.toNat, by omega⟩
    have hk15 : k < 15 := by omega
    have hbd := fields_bd ⟨k, hk15⟩
    have hff := fields_filter ⟨k, hk15⟩
    have hwan := wantsW k hk15
    have hnam := names_at k hk15
    rw [show o.kind.toNat = k by omega] at hR
    simp only at hbd hff
    unfold wantV at hwan
    rw [hff] at hR
    generalize wordK k = W at *
    generalize hb0 : (fieldsK k).contains 97 = b0 at *
    generalize hb1 : (fieldsK k).contains 98 = b1 at *
    generalize hb2 : (fieldsK k).contains 110 = b2 at *
    generalize hb3 : (fieldsK k).contains 100 = b3 at *
    have hfl : ([97, 98, 110, 100] : Tx).filter (fun c => (fieldsK k).contains c) = (if b0 then [97] else []) ++ ((if b1 then [98] else []) ++ ((if b2 then [110] else []) ++ (if b3 then [100] else []))) := by
      simp only [List.filter, hb0, hb1, hb2, hb3]
      cases b0 <;> cases b1 <;> cases b2 <;> cases b3 <;> rfl
    rw [hfl] at hR
    have HR := Lib.hid hR
    have HD := Lib.hid hd
    have HWAN := Lib.hid hwan
    obtain ⟨A, cap, rfl, hcap⟩ := hd.form
    have kk1 : ¬ (k : Int) < 1 := by omega
    have kk2 : ¬ (14 : Int) < (k : Int) := by omega
    have kk1' : decide ((k : Int) < 1) = false := by simpa using kk1
    have kk2' : decide ((14 : Int) < (k : Int)) = false := by simpa using kk2
    have HBK := Lib.hid (Blk.new w 24 (opV o (.slice A o.data.length cap)))
    unfold opV at *
    simp only [hkk] at *
    clear hR hd hk hff hfl hwan hb0 hb1 hb2 hb3
    have HM1 := Lib.hid ((Mod.refl (fun _ => False) w).alloc (.cells #[.int .i64 (k : Int), .int .i64 o.a, .int .i64 o.b, .int .i64 o.n, .slice A o.data.length cap] 24))
    go_enter Tryd.func12, Tryd.ntmps12
    go_wp2_with fail
    generalize hw1 : w.alloc (.cells #[.int .i64 (k : Int), .int .i64 o.a, .int .i64 o.b, .int .i64 o.n, .slice A o.data.length cap] 24) = w1 at *
    clear hw1
    refine (HWAN.out w1).mono ?_
    rintro e w2 ⟨rfl, m2⟩
    have hm2 := HM1.out.trans m2 (fun _ _ e => e)
    have HBK2 := Lib.hid ((HBK.out.mod m2 (fun e => e)).old (.cells #[.bool b0, .bool b1, .bool b2, .bool b3] 72))
    have HBW2 := Lib.hid (Blk.new w2 72 #[.bool b0, .bool b1, .bool b2, .bool b3])
    have HM2 := Lib.hid (hm2.alloc (.cells #[.bool b0, .bool b1, .bool b2, .bool b3] 72))
    have hbo := HBK.out.lt
    have hsz2 := m2.size
    clear hm2 m2
    go_upto_region 4 with fail
    generalize hw3 : w2.alloc (.cells #[.bool b0, .bool b1, .bool b2, .bool b3] 72) = w3 at *
    have hs3 : w3.heap.size = w2.heap.size + 1 := by rw [← hw3]; simp
    generalize w2.heap.size = bw at *
    generalize hbo' : w.heap.size = bo at *
    clear hw3
    have kk0 : (0 : Int) ≤ (k : Int) := by omega
    have kk15 : (k : Int) < 15 := by omega
    have hkc3 : w3.cell? ⟨bo, 0, none⟩ = some (.int .i64 (k : Int)) := HBK2.out.cell 0
    have HKC := Lib.hid (fun (w' : World) (m : Mod (fun _ => False) w3 w') => ((HBK2.out.mod m (fun e => e)).cell 0 : w'.cell? ⟨bo, 0, none⟩ = some (.int .i64 (k : Int))))
    go_region_with
      (go_at_call 31; refine (wordsRW _).mono ?_; rintro e w4 ⟨rfl, hbn4, m4⟩; have hwd4 : w4.cell? ⟨bw + 1, k, none⟩ = some (.string (tb W)) := (by rw [← hs3, ← hnam]; exact hbn4.cell k); have hm4 : Mod (fun _ => False) w3 w4 := ((Mod.refl (fun _ => False) w3).drew).trans m4 (fun _ _ e => e); have hkc4 := HKC.out w4 hm4)
    all_goals
      have HBK4 := Lib.hid (HBK2.out.mod hm4 (fun e => e))
      have HBW4 := Lib.hid (HBW2.out.mod hm4 (fun e => e))
      have HM4 := Lib.hid (HM2.out.trans hm4 (fun _ _ e => e))
      have hs4 := hm4.size
      have c1 : w4.cell? ⟨bo, 1, none⟩ = some (.int .i64 o.a) := HBK4.out.cell 1
      have c2 : w4.cell? ⟨bo, 2, none⟩ = some (.int .i64 o.b) := HBK4.out.cell 2
      have c3 : w4.cell? ⟨bo, 3, none⟩ = some (.int .i64 o.n) := HBK4.out.cell 3
      clear hbn4 m4 hwd4 hkc4 hkc3
      go_wp2_with fail
      have HBK5 := Lib.hid (HBK4.out.old (.cells #[.int .i64 o.a, .int .i64 o.b, .int .i64 o.n] 3))
      have HBW5 := Lib.hid (HBW4.out.old (.cells #[.int .i64 o.a, .int .i64 o.b, .int .i64 o.n] 3))
      have HBN5 := Lib.hid (Blk.new w4 3 #[.int .i64 o.a, .int .i64 o.b, .int .i64 o.n])
      have HM5 := Lib.hid (HM4.out.alloc (.cells #[.int .i64 o.a, .int .i64 o.b, .int .i64 o.n] 3))
      generalize w4.alloc (.cells #[.int .i64 o.a, .int .i64 o.b, .int .i64 o.n] 3) = w5 at *
      generalize w4.heap.size = bn at *
      clear c1 c2 c3 hm4
      go_loopw [4, 6] (fun s i wr => ∃ (q : Nat) (acc : Tx), s = .string (tb acc) ∧ i = .int .i64 q ∧ q ≤ 3 ∧ Mod (fun _ => False) w5 wr ∧ acc.length ≤ 7 + q * 2000002 ∧
          Hid (textF o acc ((if b0 ∧ q < 1 then [97] else []) ++ ((if b1 ∧ q < 2 then [98] else []) ++ ((if b2 ∧ q < 3 then [110] else []) ++ (if b3 then [100] else [])))) = R)) (fun _ i _ => 3 - (RowKit.intOf i).toNat)
      case atStart => exact ⟨0, W, rfl, rfl, by omega, Mod.refl _ _, by omega, by simpa using HR⟩
      case round =>
        obtain ⟨q, acc, rfl, rfl, hq, hm, hacl, hrel⟩ := hrel
        have hwc := (HBW5.out.mod hm (fun e => e)).cell
        have hnc := (HBN5.out.mod hm (fun e => e)).cell
        have HMR := Lib.hid (HM5.out.trans hm (fun _ _ e => e))
        have HMQ := Lib.hid hm
        rcases (show q = 3 ∨ q = 0 ∨ q = 1 ∨ q = 2 by omega) with rfl | rfl | rfl | rfl
        · cases b3 with
          | false =>
            have hrr : acc = R := by
              have h := hrel.out
              simpa [textF] using h
            subst hrr
            clear hrel hm
            go_wp2_with fail
            go_ret
            exact ⟨rfl, HMR.out⟩
          | true =>
            have hd4 : wr.cell? ⟨bo, 4, none⟩ = some (.slice A o.data.length cap) := (HBK5.out.mod hm (fun e => e)).cell 4
            by_cases hok : o.data.length ≤ 20000
            · have hfv : fieldV o 100 = some (hexL o.data) := by simp [fieldV, hok]
              have v1 : ¬ (20000 : Int) < (o.data.length : Int) := by omega
              have v1' : decide ((20000 : Int) < (o.data.length : Int)) = false := by simpa using v1
              have hdl := hexL_len o.data
              have hrr : acc ++ 32 :: hexL o.data = R := by
                have h := hrel.out
                simpa [textF_step, hfv, textF] using h
              have HHX := Lib.hid (hexRW _ o.data wr ((HD.out.later HMR.out (by omega)).more (by have := HMR.out.size; omega)) hl)
              have q1 : ¬ 9223372036854775807 < (tb acc).size + 1 := by rw [tb_size]; omega
              have q2 : ¬ 9223372036854775807 < (tb acc).size + 1 + (tb (hexL o.data)).size := by rw [tb_size, tb_size]; omega
              have q3 : ¬ 9223372036854775807 < (tb acc ++ (⟨#[32]⟩ : ByteArray)).size + (tb (hexL o.data)).size := by rw [show (⟨#[32]⟩ : ByteArray) = tb [32] from rfl, tb_append, tb_size, tb_size]; simp; omega
              have HRR : Hid (tb acc ++ (⟨#[32]⟩ : ByteArray) ++ tb (hexL o.data) = tb R) := Lib.hid (by rw [← hrr, show acc ++ 32 :: hexL o.data = (acc ++ [32]) ++ hexL o.data by simp, ← tb_append, ← tb_append]; rfl)
              clear hrel hm hok hrr
              go_wp2_with fail
              refine HHX.out.mono ?_
              rintro e w6 ⟨rfl, m6⟩
              have HM6 := Lib.hid (HMR.out.trans m6 (fun _ _ e => e))
              clear m6
              go_wp2_with fail
              go_ret
              exact ⟨congrArg (fun z => Ending.returned (.string z)) HRR.out, HM6.out⟩
            · have hfv : fieldV o 100 = none := by simp [fieldV, hok]
              have hrr : R = [] := by
                have h := hrel.out
                simp [textF_step, hfv] at h
                first | exact h.symm | exact h
              subst hrr
              have v1 : (20000 : Int) < (o.data.length : Int) := by omega
              clear hrel hm
              go_wp2_with fail
              go_ret
              exact ⟨rfl, HMR.out⟩
        · cases b0 with
          | false =>
            have hre : Hid (textF o acc ((if (false = true) ∧ 1 < 1 then [97] else []) ++ ((if b1 ∧ 1 < 2 then [98] else []) ++ ((if b2 ∧ 1 < 3 then [110] else []) ++ (if b3 then [100] else [])))) = R) := by
              have := hrel.out
              exact Lib.hid (by simpa using this)
            clear hrel hm
            go_wp2_with fail
            go_roundw
            case rel => exact ⟨1, acc, rfl, by go_num, by omega, HMQ.out, by omega, hre⟩
            case measure => simp [RowKit.intOf]
          | true =>
            by_cases hok : okNum o.a = true
            · have hfv : fieldV o 97 = some (Lib.decDigits o.a.toNat) := by simp [fieldV, hok]
              unfold okNum at hok
              simp only [Bool.and_eq_true, decide_eq_true_eq] at hok
              have v1 : ¬ o.a < 0 := by omega
              have v2 : ¬ 1099511627776 < o.a := by omega
              have v1' : decide (o.a < 0) = false := by simpa using v1
              have v2' : decide (1099511627776 < o.a) = false := by simpa using v2
              have hdl := decDigits_len 19 o.a.toNat (by omega) (by omega)
              have hre : Hid (textF o (acc ++ 32 :: Lib.decDigits o.a.toNat) ((if (true = true) ∧ 1 < 1 then [97] else []) ++ ((if b1 ∧ 1 < 2 then [98] else []) ++ ((if b2 ∧ 1 < 3 then [110] else []) ++ (if b3 then [100] else [])))) = R) := by
                have h := hrel.out
                simp only [true_and, Nat.lt_irrefl, and_false, if_false, List.nil_append, show ((0:Nat) < 1) = True by simp, if_true, List.cons_append, textF_step, hfv] at h
                exact Lib.hid (by first | simpa using h | (simp at h; rw [textF_step, hfv] at h; simpa using h))
              have hdec := decimalW o.a.toNat (by omega) wr
              rw [show ((o.a.toNat : Nat) : Int) = o.a by omega] at hdec
              have hst : strOfNums (dec o.a.toNat) = tb (Lib.decDigits o.a.toNat) := data_inj (by rw [dec_text _ (by omega), tb_data])
              rw [hst] at hdec
              have HDEC := Lib.hid hdec
              have q1 : ¬ 9223372036854775807 < (tb acc).size + 1 := by rw [tb_size]; omega
              have q2 : ¬ 9223372036854775807 < (tb acc).size + 1 + (tb (Lib.decDigits o.a.toNat)).size := by rw [tb_size, tb_size]; omega
              have q3 : ¬ 9223372036854775807 < (tb acc ++ (⟨#[32]⟩ : ByteArray)).size + (tb (Lib.decDigits o.a.toNat)).size := by rw [show (⟨#[32]⟩ : ByteArray) = tb [32] from rfl, tb_append, tb_size, tb_size]; simp; omega
              clear hrel hm hok hdec hst
              go_wp2_with fail
              refine HDEC.out.mono ?_
              rintro e w6 ⟨rfl, m6⟩
              have HM6 := Lib.hid (HMQ.out.trans m6 (fun _ _ e => e))
              clear m6
              go_wp2_with fail
              go_roundw
              case rel => exact ⟨1, acc ++ 32 :: Lib.decDigits o.a.toNat, by rw [show acc ++ 32 :: Lib.decDigits o.a.toNat = (acc ++ [32]) ++ Lib.decDigits o.a.toNat by simp, ← tb_append, ← tb_append]; rfl, by go_num, by omega, HM6.out, by rw [List.length_append, List.length_cons]; omega, hre⟩
              case measure => simp [RowKit.intOf]
            · have hfv : fieldV o 97 = none := by simp [fieldV, hok]
              have hrr : R = [] := by
                have h := hrel.out
                simp [textF_step, hfv] at h
                first | exact h.symm | exact h
              subst hrr
              have hbad : o.a < 0 ∨ (¬ o.a < 0 ∧ decide (o.a < 0) = false ∧ 1099511627776 < o.a) := by
                unfold okNum at hok
                simp only [Bool.and_eq_true, decide_eq_true_eq] at hok
                simp only [decide_eq_false_iff_not]
                omega
              clear hok hrel hm
              rcases hbad with v1 | ⟨v1, v1', v2⟩
              all_goals
                go_wp2_with fail
                go_ret
                exact ⟨rfl, HMR.out⟩
        · cases b1 with
          | false =>
            have hre : Hid (textF o acc ((if b0 ∧ 2 < 1 then [97] else []) ++ ((if (false = true) ∧ 2 < 2 then [98] else []) ++ ((if b2 ∧ 2 < 3 then [110] else []) ++ (if b3 then [100] else [])))) = R) := by
              have := hrel.out
              exact Lib.hid (by simpa using this)
            clear hrel hm
            go_wp2_with fail
            go_roundw
            case rel => exact ⟨2, acc, rfl, by go_num, by omega, HMQ.out, by omega, hre⟩
            case measure => simp [RowKit.intOf]
          | true =>
            by_cases hok : okNum o.b = true
            · have hfv : fieldV o 98 = some (Lib.decDigits o.b.toNat) := by simp [fieldV, hok]
              unfold okNum at hok
              simp only [Bool.and_eq_true, decide_eq_true_eq] at hok
              have v1 : ¬ o.b < 0 := by omega
              have v2 : ¬ 1099511627776 < o.b := by omega
              have v1' : decide (o.b < 0) = false := by simpa using v1
              have v2' : decide (1099511627776 < o.b) = false := by simpa using v2
              have hdl := decDigits_len 19 o.b.toNat (by omega) (by omega)
              have hre : Hid (textF o (acc ++ 32 :: Lib.decDigits o.b.toNat) ((if b0 ∧ 2 < 1 then [97] else []) ++ ((if (true = true) ∧ 2 < 2 then [98] else []) ++ ((if b2 ∧ 2 < 3 then [110] else []) ++ (if b3 then [100] else [])))) = R) := by
                have h := hrel.out
                simp only [true_and, Nat.lt_irrefl, and_false, if_false, List.nil_append, show ((1:Nat) < 2) = True by simp, if_true, List.cons_append, textF_step, hfv] at h
                exact Lib.hid (by first | simpa using h | (simp at h; rw [textF_step, hfv] at h; simpa using h))
              have hdec := decimalW o.b.toNat (by omega) wr
              rw [show ((o.b.toNat : Nat) : Int) = o.b by omega] at hdec
              have hst : strOfNums (dec o.b.toNat) = tb (Lib.decDigits o.b.toNat) := data_inj (by rw [dec_text _ (by omega), tb_data])
              rw [hst] at hdec
              have HDEC := Lib.hid hdec
              have q1 : ¬ 9223372036854775807 < (tb acc).size + 1 := by rw [tb_size]; omega
              have q2 : ¬ 9223372036854775807 < (tb acc).size + 1 + (tb (Lib.decDigits o.b.toNat)).size := by rw [tb_size, tb_size]; omega
              have q3 : ¬ 9223372036854775807 < (tb acc ++ (⟨#[32]⟩ : ByteArray)).size + (tb (Lib.decDigits o.b.toNat)).size := by rw [show (⟨#[32]⟩ : ByteArray) = tb [32] from rfl, tb_append, tb_size, tb_size]; simp; omega
              clear hrel hm hok hdec hst
              go_wp2_with fail
              refine HDEC.out.mono ?_
              rintro e w6 ⟨rfl, m6⟩
              have HM6 := Lib.hid (HMQ.out.trans m6 (fun _ _ e => e))
              clear m6
              go_wp2_with fail
              go_roundw
              case rel => exact ⟨2, acc ++ 32 :: Lib.decDigits o.b.toNat, by rw [show acc ++ 32 :: Lib.decDigits o.b.toNat = (acc ++ [32]) ++ Lib.decDigits o.b.toNat by simp, ← tb_append, ← tb_append]; rfl, by go_num, by omega, HM6.out, by rw [List.length_append, List.length_cons]; omega, hre⟩
              case measure => simp [RowKit.intOf]
            · have hfv : fieldV o 98 = none := by simp [fieldV, hok]
              have hrr : R = [] := by
                have h := hrel.out
                simp [textF_step, hfv] at h
                first | exact h.symm | exact h
              subst hrr
              have hbad : o.b < 0 ∨ (¬ o.b < 0 ∧ decide (o.b < 0) = false ∧ 1099511627776 < o.b) := by
                unfold okNum at hok
                simp only [Bool.and_eq_true, decide_eq_true_eq] at hok
                simp only [decide_eq_false_iff_not]
                omega
              clear hok hrel hm
              rcases hbad with v1 | ⟨v1, v1', v2⟩
              all_goals
                go_wp2_with fail
                go_ret
                exact ⟨rfl, HMR.out⟩
        · cases b2 with
          | false =>
            have hre : Hid (textF o acc ((if b0 ∧ 3 < 1 then [97] else []) ++ ((if b1 ∧ 3 < 2 then [98] else []) ++ ((if (false = true) ∧ 3 < 3 then [110] else []) ++ (if b3 then [100] else [])))) = R) := by
              have := hrel.out
              exact Lib.hid (by simpa using this)
            clear hrel hm
            go_wp2_with fail
            go_roundw
            case rel => exact ⟨3, acc, rfl, by go_num, by omega, HMQ.out, by omega, hre⟩
            case measure => simp [RowKit.intOf]
          | true =>
            by_cases hok : okNum o.n = true
            · have hfv : fieldV o 110 = some (Lib.decDigits o.n.toNat) := by simp [fieldV, hok]
              unfold okNum at hok
              simp only [Bool.and_eq_true, decide_eq_true_eq] at hok
              have v1 : ¬ o.n < 0 := by omega
              have v2 : ¬ 1099511627776 < o.n := by omega
              have v1' : decide (o.n < 0) = false := by simpa using v1
              have v2' : decide (1099511627776 < o.n) = false := by simpa using v2
              have hdl := decDigits_len 19 o.n.toNat (by omega) (by omega)
              have hre : Hid (textF o (acc ++ 32 :: Lib.decDigits o.n.toNat) ((if b0 ∧ 3 < 1 then [97] else []) ++ ((if b1 ∧ 3 < 2 then [98] else []) ++ ((if (true = true) ∧ 3 < 3 then [110] else []) ++ (if b3 then [100] else [])))) = R) := by
                have h := hrel.out
                simp only [true_and, Nat.lt_irrefl, and_false, if_false, List.nil_append, show ((2:Nat) < 3) = True by simp, if_true, List.cons_append, textF_step, hfv] at h
                exact Lib.hid (by first | simpa using h | (simp at h; rw [textF_step, hfv] at h; simpa using h))
              have hdec := decimalW o.n.toNat (by omega) wr
              rw [show ((o.n.toNat : Nat) : Int) = o.n by omega] at hdec
              have hst : strOfNums (dec o.n.toNat) = tb (Lib.decDigits o.n.toNat) := data_inj (by rw [dec_text _ (by omega), tb_data])
              rw [hst] at hdec
              have HDEC := Lib.hid hdec
              have q1 : ¬ 9223372036854775807 < (tb acc).size + 1 := by rw [tb_size]; omega
              have q2 : ¬ 9223372036854775807 < (tb acc).size + 1 + (tb (Lib.decDigits o.n.toNat)).size := by rw [tb_size, tb_size]; omega
              have q3 : ¬ 9223372036854775807 < (tb acc ++ (⟨#[32]⟩ : ByteArray)).size + (tb (Lib.decDigits o.n.toNat)).size := by rw [show (⟨#[32]⟩ : ByteArray) = tb [32] from rfl, tb_append, tb_size, tb_size]; simp; omega
              clear hrel hm hok hdec hst
              go_wp2_with fail
              refine HDEC.out.mono ?_
              rintro e w6 ⟨rfl, m6⟩
              have HM6 := Lib.hid (HMQ.out.trans m6 (fun _ _ e => e))
              clear m6
              go_wp2_with fail
              go_roundw
              case rel => exact ⟨3, acc ++ 32 :: Lib.decDigits o.n.toNat, by rw [show acc ++ 32 :: Lib.decDigits o.n.toNat = (acc ++ [32]) ++ Lib.decDigits o.n.toNat by simp, ← tb_append, ← tb_append]; rfl, by go_num, by omega, HM6.out, by rw [List.length_append, List.length_cons]; omega, hre⟩
              case measure => simp [RowKit.intOf]
            · have hfv : fieldV o 110 = none := by simp [fieldV, hok]
              have hrr : R = [] := by
                have h := hrel.out
                simp [textF_step, hfv] at h
                first | exact h.symm | exact h
              subst hrr
              have hbad : o.n < 0 ∨ (¬ o.n < 0 ∧ decide (o.n < 0) = false ∧ 1099511627776 < o.n) := by
                unfold okNum at hok
                simp only [Bool.and_eq_true, decide_eq_true_eq] at hok
                simp only [decide_eq_false_iff_not]
                omega
              clear hok hrel hm
              rcases hbad with v1 | ⟨v1, v1', v2⟩
              all_goals
                go_wp2_with fail
                go_ret
                exact ⟨rfl, HMR.out⟩
  · rw [if_neg hk] at hR
    subst hR
    obtain ⟨A, cap, rfl, hcap⟩ := hd.form
    have HM := Lib.hid (((Mod.refl (fun _ => False) w).alloc (.cells (opV o (.slice A o.data.length cap)) 24)))
    unfold opV at *
    have hbad : o.kind < 1 ∨ (¬ o.kind < 1 ∧ decide (o.kind < 1) = false ∧ 14 < o.kind) := by
      simp only [decide_eq_false_iff_not]
      omega
    clear hk hd
    rcases hbad with v1 | ⟨v1, v1', v2⟩
    all_goals
      go_enter Tryd.func12, Tryd.ntmps12
      go_wp2_with fail
      go_ret
      exact ⟨rfl, HM.out⟩
end Go.Proofs.YtpnicodjjbincaaDoor
