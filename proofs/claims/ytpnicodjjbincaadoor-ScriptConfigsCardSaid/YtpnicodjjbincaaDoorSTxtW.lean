/- The contract of the program's Text. -/
import Derived.Test.YtpnicodjjbincaaDoorSWrdW
import Derived.Deep.RegionHeld3
import Derived.Lib.OthersKept
import Derived.Lib.AppendIntMem
namespace Go.Proofs.YtpnicodjjbincaaDoor
open Go.RowKit
set_option linter.unusedVariables false
set_option maxHeartbeats 4000000
set_option maxRecDepth 100000
/-- The table of powers of ten lies in this world. -/
def Pow (w : World) : Prop := Lib.TabIs Tryd.prog w "internal/strconv.uint64pow10" .u64 Lib.pow10Tab
theorem Pow.later {w w' : World} (h : Pow w) (m : Mod (fun _ => False) w w') : Pow w' := Lib.tabBelow_of_tabIs h w' m.below
theorem itoaW (n : Int) (h0 : 0 ≤ n) (h1 : n ≤ 4611686018427387904) (w : World) (hp : Pow w) :
    Calls Tryd.prog 36 #[.int .i64 n] w fun e w' => e = .returned (.string (tb (Lib.decDigits n.toNat))) ∧ Mod (fun _ => False) w w' := by
  refine (Tryd.strconv_Itoa n (by omega) (by omega) w hp).mono ?_
  rintro e w' ⟨rfl, k, os, rfl⟩
  refine ⟨?_, Mod.ofBelow (Lib.below_grow _ _ (Nat.le_refl _) _ _)⟩
  unfold Lib.itoa
  rw [if_neg (by omega)]
  rfl
/-- An op as a value. -/
def opV (o : OpT) (dv : Value) : Array Value := #[.int .i64 o.kind, .int .i64 o.a, .int .i64 o.b, .int .i64 o.n, dv]
theorem tb_at (l : Tx) (p : Nat) (h : p < l.length) : ∃ c, l.drop p = c :: l.drop (p + 1) ∧ c ∈ l ∧ ∀ h', (tb l)[p]'h' = c := by
  refine ⟨l[p], List.drop_eq_getElem_cons h, List.getElem_mem h, fun h' => ?_⟩
  have := str_at (s := tb l) (q := p) (by rw [tb_size]; exact h)
  obtain ⟨c, e1, e2⟩ := this
  rw [tb_data, List.drop_eq_getElem_cons h] at e1
  rw [e2 h']
  exact (List.cons.inj e1).1.symm
theorem iter_mod (w : World) (k : Nat) (s : ByteArray) (pos : Nat) : Mod (fun i => i = k) w (w.iterAt k s pos) :=
  ⟨rfl, rfl, rfl, by rw [Lib.iterAt_size]; exact Nat.le_refl _, fun i _ hn => Lib.iterAt_other w k i s pos hn⟩
theorem hexL_len (d : Tx) : (hexL d).length ≤ 2 * d.length + 1 := by
  unfold hexL
  split
  · simp
  · rw [flat_hex_len]; omega
theorem textW (o : OpT) (dv : Value) (w : World) (hd : Has w w.heap.size 1 encB dv o.data) (hl : o.data.length ≤ 1000000) (hp : Pow w) :
    Calls Tryd.prog 10 #[.agg (opV o dv)] w fun e w' => e = .returned (.string (tb (textO o))) ∧ Mod (fun _ => False) w w' := by
  generalize hR : textO o = R
  unfold textO at hR
  by_cases hk : 1 ≤ o.kind ∧ o.kind ≤ 14
  · rw [if_pos hk] at hR
    obtain ⟨k, hkk⟩ : ∃ k : Nat, o.kind = k := ⟨o.kind.toNat, by omega⟩
    have hk15 : k < 15 := by omega
    have hbd := fields_bd ⟨k, hk15⟩
    have hch := fields_chars ⟨k, hk15⟩
    have hti := tab_idx k hk15
    rw [show o.kind.toNat = k by omega] at hR
    simp only at hbd hch
    generalize wordK k = W at *
    generalize fieldsK k = Fl at *
    have HR := Lib.hid hR
    have HD := Lib.hid hd
    have HP := Lib.hid hp
    have HCH := Lib.hid hch
    obtain ⟨A, cap, rfl, hcap⟩ := hd.form
    have kk1 : ¬ (k : Int) < 1 := by omega
    have kk2 : ¬ (14 : Int) < (k : Int) := by omega
    have kk1' : decide ((k : Int) < 1) = false := by simpa using kk1
    have kk2' : decide ((14 : Int) < (k : Int)) = false := by simpa using kk2
    have hblk0 := Blk.new w 26 (opV o (.slice A o.data.length cap))
    have HBK := Lib.hid hblk0
    unfold opV at *
    simp only [hkk] at *
    have HS : Hid (∀ w' : World, Mod (fun _ => False) (w.alloc (.cells #[.int .i64 (k : Int), .int .i64 o.a, .int .i64 o.b, .int .i64 o.n, .slice A o.data.length cap] 26)) w' → (Mod (fun _ => False) (w.alloc (.cells #[.int .i64 (k : Int), .int .i64 o.a, .int .i64 o.b, .int .i64 o.n, .slice A o.data.length cap] 26)) w' ∧ w'.cell? ⟨w.heap.size, 0, none⟩ = some (.int .i64 (k : Int)))) := Lib.hid fun w' m => ⟨m, (hblk0.mod m (fun e => e)).cell 0⟩
    have SM : Hid (∀ w' : World, (Mod (fun _ => False) (w.alloc (.cells #[.int .i64 (k : Int), .int .i64 o.a, .int .i64 o.b, .int .i64 o.n, .slice A o.data.length cap] 26)) w' ∧ w'.cell? ⟨w.heap.size, 0, none⟩ = some (.int .i64 (k : Int))) → Mod (fun _ => False) (w.alloc (.cells #[.int .i64 (k : Int), .int .i64 o.a, .int .i64 o.b, .int .i64 o.n, .slice A o.data.length cap] 26)) w') := Lib.hid fun w' h => h.1
    clear hR hd hp hch hblk0 hk
    go_enter Tryd.func10, Tryd.ntmps10
    go_upto_region 3 with fail
    go_region_held3 (fun w' => Mod (fun _ => False) (w.alloc (.cells #[.int .i64 (k : Int), .int .i64 o.a, .int .i64 o.b, .int .i64 o.n, .slice A o.data.length cap] 26)) w' ∧ w'.cell? ⟨w.heap.size, 0, none⟩ = some (.int .i64 (k : Int)))
      (first | assumption | exact HS.out _ (Mod.refl _ _).drew | exact HS.out _ ((Mod.refl _ _).alloc _).drew | exact HS.out _ ((SM.out _ (by assumption)).alloc _) | exact HS.out _ (((SM.out _ (by assumption)).setCell (fun hh => absurd hh (by simp)) _).setCell (fun hh => absurd hh (by simp)) _))
      (first
        | (go_at_call 24; refine (wordsW _).mono ?_; rintro e w5 ⟨rfl, m5⟩; have hb5 := Blk.mod m5 (Blk.newAt (w := w.alloc (.cells #[.int .i64 (k : Int), .int .i64 o.a, .int .i64 o.b, .int .i64 o.n, .slice A o.data.length cap] 26)) (n := w.heap.size + 1) (by simp) 57 #[.string ⟨#[]⟩, .string ⟨#[]⟩]).drew (fun e => e); have c0 := hb5.cell 0; have c1 := hb5.cell 1; have f0 := hb5.free 0; have f1 := hb5.free 1; have hS5 := HS.out w5 ((SM.out _ (by assumption)).trans m5 (fun _ _ e => e)))
        | (go_at_call 24; refine (wordsW _).mono ?_; rintro e w5 ⟨rfl, m5⟩; have hS5 := HS.out w5 ((SM.out _ (by assumption)).trans m5 (fun _ _ e => e))))
    all_goals
      first
        | (have hb2 := Blk.new w5 57 #[.string (tb W), .string (tb Fl)]
           have hm2 := (SM.out _ hS5).alloc (.cells #[.string (tb W), .string (tb Fl)] 57)
           have hlt2 : w.heap.size < w5.heap.size := by have := (SM.out _ hS5).size; simp at this; omega
           generalize w5.alloc (.cells #[.string (tb W), .string (tb Fl)] 57) = w2 at hb2 hm2 ⊢
           generalize w5.heap.size = bt at hb2 hlt2 ⊢
           change Exit.then _ _ _ _ w2)
        | (have hb2 := (hb5.set 0 (.string (tb W))).set 1 (.string (tb Fl))
           have hm2 := ((SM.out _ hS5).setCell (p := ⟨w.heap.size + 1, 0, none⟩) (fun hh => by simp at hh) (.string (tb W))).setCell (p := ⟨w.heap.size + 1, 1, none⟩) (fun hh => by simp at hh) (.string (tb Fl))
           have hlt2 : w.heap.size < w.heap.size + 1 := by omega
           generalize (w5.setCell ⟨w.heap.size + 1, 0, none⟩ (.string (tb W))).setCell ⟨w.heap.size + 1, 1, none⟩ (.string (tb Fl)) = w2 at hb2 hm2 ⊢
           generalize w.heap.size + 1 = bt at hb2 hlt2 ⊢
           change Exit.then _ _ _ _ w2)
    all_goals
      have d0 : w2.cell? ⟨bt, 0, none⟩ = some (.string (tb W)) := hb2.cell 0
      have d1 : w2.cell? ⟨bt, 1, none⟩ = some (.string (tb Fl)) := hb2.cell 1
      have HB2 := Lib.hid (HBK.out.mod hm2 (fun e => e))
      have HM2 := Lib.hid (((Mod.refl (fun _ => False) w).alloc _).trans hm2 (fun _ _ e => e))
      clear hb2 hm2
      go_wp2_with fail
      have hi0 := World.iter_heap w2 (tb Fl) 0
      have hm3 := HM2.out.alloc (.stringIter (tb Fl) 0)
      have hb3 := HB2.out.old (.stringIter (tb Fl) 0)
      change Code.wp _ _ _ _ (w2.iter (tb Fl) 0)
      have hbi : w.heap.size < w2.heap.size := by
        have := HB2.out.lt
        omega
      change Mod _ _ (w2.iter (tb Fl) 0) at hm3
      change Blk (w2.iter (tb Fl) 0) _ _ _ at hb3
      have hs3 : (w2.iter (tb Fl) 0).heap.size = w2.heap.size + 1 := by simp [World.iter]
      generalize w2.iter (tb Fl) 0 = w3 at *
      generalize w2.heap.size = bi at *
      have HB3 := Lib.hid hb3
      have HM3 := Lib.hid hm3
      have HI0 := Lib.hid hi0
      clear hb3 hm3 hi0 d0 d1
      go_loopw [4] (fun s wr => ∃ (pos : Nat) (acc : Tx), s = .string (tb acc) ∧ pos ≤ Fl.length ∧ wr.heap[bi]? = some (.stringIter (tb Fl) pos) ∧ Mod (fun i => i = bi) w3 wr ∧ Hid (textF o acc (Fl.drop pos) = R) ∧ acc.length ≤ 7 + pos * 2000002) (fun _ wr => Fl.length - wr.iterPos bi)
      case atStart => exact ⟨0, W, rfl, by omega, HI0.out, Mod.refl _ _, HR, by omega⟩
      case round =>
        obtain ⟨pos, acc, rfl, hpos, hit, hm, hrel, hacl⟩ := hrel
        have hmu : wr.iterPos bi = pos := by simp [World.iterPos, hit]
        have hsz := hm.size
        by_cases hp : pos < Fl.length
        · have hp2 : pos < (tb Fl).size := by rw [tb_size]; exact hp
          obtain ⟨c, hdr, hcm, hcx⟩ := tb_at Fl pos hp
          have hcc := HCH.out c hcm
          have h128 : ((tb Fl)[pos]'hp2).toNat < 128 := by rw [hcx]; rcases hcc with rfl | rfl | rfl | rfl <;> decide
          have hnext : ∀ ty, (Instr.next (.pointer (some ⟨bi, 0, none⟩)) true ty).run Tryd.prog wr = _ := fun ty => Lib.run_next_ascii_at wr bi (tb Fl) pos ty hit hp2 h128
          have hit1 := Lib.iterAt_heap wr bi (tb Fl) pos (pos + 1) hit
          have hm1 := hm.trans (iter_mod wr bi (tb Fl) (pos + 1)) (fun _ _ e => e)
          rw [hcx] at hnext
          generalize wr.iterAt bi (tb Fl) (pos + 1) = W1 at hnext hit1 hm1
          have hsz1 := hm1.size
          have HB1 := Lib.hid (HB3.out.mod hm1 (fun e => by omega))
          have HMW1 := Lib.hid (HM3.out.trans hm1 (fun i hi e => by omega))
          rw [hdr, textF_step] at hrel
          have HIT1 := Lib.hid hit1
          have HM1 := Lib.hid hm1
          have hnum := numW w.heap.size c hcc W1
          have HNUM := Lib.hid hnum
          have hb1c := HB1.out.cell
          clear hnum hit hm hit1 hm1 hcx hdr h128
          go_wp2_with fail
          refine HNUM.out.mono ?_
          rintro e wx ⟨rfl, rfl⟩
          rcases hcc with rfl | rfl | rfl | rfl
          · rw [show numPtr w.heap.size 97 = Value.pointer (some ⟨w.heap.size, 1, none⟩) from rfl]
            by_cases hok : okNum o.a = true
            · have hfv : fieldV o 97 = some (Lib.decDigits o.a.toNat) := by simp [fieldV, hok]
              rw [hfv] at hrel
              unfold okNum at hok
              simp only [Bool.and_eq_true, decide_eq_true_eq] at hok
              have v1 : ¬ o.a < 0 := by omega
              have v2 : ¬ 1099511627776 < o.a := by omega
              have v1' : decide (o.a < 0) = false := by simpa using v1
              have v2' : decide (1099511627776 < o.a) = false := by simpa using v2
              have hdl := decDigits_len 19 o.a.toNat (by omega) (by omega)
              have q1 : ¬ 9223372036854775807 < 1 + (tb (Lib.decDigits o.a.toNat)).size := by rw [tb_size]; omega
              have q2 : ¬ 9223372036854775807 < (tb acc).size + (1 + (tb (Lib.decDigits o.a.toNat)).size) := by rw [tb_size, tb_size]; omega
              have HIO := Lib.hid (itoaW o.a hok.1 (by omega) wx (HP.out.later HMW1.out))
              clear hok
              go_wp2_with fail
              refine HIO.out.mono ?_
              rintro e w6 ⟨rfl, m6⟩
              have hlt6 := HIT1.out
              have hbilt : bi < wx.heap.size := by
                rcases Nat.lt_or_ge bi wx.heap.size with h' | h'
                · exact h'
                · rw [Array.getElem?_eq_none h'] at hlt6
                  cases hlt6
              have hit6 : w6.heap[bi]? = some (.stringIter (tb Fl) (pos + 1)) := by rw [m6.block bi hbilt (fun e => e)]; exact hlt6
              have HIT6 := Lib.hid hit6
              have HM6 := Lib.hid (HM1.out.trans m6 (fun _ _ e => e.elim))
              clear m6 hlt6 hit6
              go_wp2_with fail
              go_roundw
              case rel => exact ⟨pos + 1, acc ++ 32 :: Lib.decDigits o.a.toNat, by rw [← tb_append]; exact congrArg (fun z => Value.string (tb acc ++ z)) (tb_append [32] _), by omega, HIT6.out, HM6.out, hrel, by rw [List.length_append, List.length_cons]; omega⟩
              case measure =>
                have hmu6 : w6.iterPos bi = pos + 1 := by simp [World.iterPos, HIT6.out]
                rw [hmu, hmu6]
                omega
            · have hfv : fieldV o 97 = none := by simp [fieldV, hok]
              rw [hfv] at hrel
              obtain rfl : R = [] := hrel.out.symm
              have hbad : o.a < 0 ∨ (¬ o.a < 0 ∧ decide (o.a < 0) = false ∧ 1099511627776 < o.a) := by
                unfold okNum at hok
                simp only [Bool.and_eq_true, decide_eq_true_eq] at hok
                simp only [decide_eq_false_iff_not]
                omega
              clear hok
              rcases hbad with v1 | ⟨v1, v1', v2⟩
              all_goals
                go_wp2_with fail
                go_ret
                exact ⟨rfl, HMW1.out⟩
          · rw [show numPtr w.heap.size 98 = Value.pointer (some ⟨w.heap.size, 2, none⟩) from rfl]
            by_cases hok : okNum o.b = true
            · have hfv : fieldV o 98 = some (Lib.decDigits o.b.toNat) := by simp [fieldV, hok]
              rw [hfv] at hrel
              unfold okNum at hok
              simp only [Bool.and_eq_true, decide_eq_true_eq] at hok
              have v1 : ¬ o.b < 0 := by omega
              have v2 : ¬ 1099511627776 < o.b := by omega
              have v1' : decide (o.b < 0) = false := by simpa using v1
              have v2' : decide (1099511627776 < o.b) = false := by simpa using v2
              have hdl := decDigits_len 19 o.b.toNat (by omega) (by omega)
              have q1 : ¬ 9223372036854775807 < 1 + (tb (Lib.decDigits o.b.toNat)).size := by rw [tb_size]; omega
              have q2 : ¬ 9223372036854775807 < (tb acc).size + (1 + (tb (Lib.decDigits o.b.toNat)).size) := by rw [tb_size, tb_size]; omega
              have HIO := Lib.hid (itoaW o.b hok.1 (by omega) wx (HP.out.later HMW1.out))
              clear hok
              go_wp2_with fail
              refine HIO.out.mono ?_
              rintro e w6 ⟨rfl, m6⟩
              have hlt6 := HIT1.out
              have hbilt : bi < wx.heap.size := by
                rcases Nat.lt_or_ge bi wx.heap.size with h' | h'
                · exact h'
                · rw [Array.getElem?_eq_none h'] at hlt6
                  cases hlt6
              have hit6 : w6.heap[bi]? = some (.stringIter (tb Fl) (pos + 1)) := by rw [m6.block bi hbilt (fun e => e)]; exact hlt6
              have HIT6 := Lib.hid hit6
              have HM6 := Lib.hid (HM1.out.trans m6 (fun _ _ e => e.elim))
              clear m6 hlt6 hit6
              go_wp2_with fail
              go_roundw
              case rel => exact ⟨pos + 1, acc ++ 32 :: Lib.decDigits o.b.toNat, by rw [← tb_append]; exact congrArg (fun z => Value.string (tb acc ++ z)) (tb_append [32] _), by omega, HIT6.out, HM6.out, hrel, by rw [List.length_append, List.length_cons]; omega⟩
              case measure =>
                have hmu6 : w6.iterPos bi = pos + 1 := by simp [World.iterPos, HIT6.out]
                rw [hmu, hmu6]
                omega
            · have hfv : fieldV o 98 = none := by simp [fieldV, hok]
              rw [hfv] at hrel
              obtain rfl : R = [] := hrel.out.symm
              have hbad : o.b < 0 ∨ (¬ o.b < 0 ∧ decide (o.b < 0) = false ∧ 1099511627776 < o.b) := by
                unfold okNum at hok
                simp only [Bool.and_eq_true, decide_eq_true_eq] at hok
                simp only [decide_eq_false_iff_not]
                omega
              clear hok
              rcases hbad with v1 | ⟨v1, v1', v2⟩
              all_goals
                go_wp2_with fail
                go_ret
                exact ⟨rfl, HMW1.out⟩
          · rw [show numPtr w.heap.size 110 = Value.pointer (some ⟨w.heap.size, 3, none⟩) from rfl]
            by_cases hok : okNum o.n = true
            · have hfv : fieldV o 110 = some (Lib.decDigits o.n.toNat) := by simp [fieldV, hok]
              rw [hfv] at hrel
              unfold okNum at hok
              simp only [Bool.and_eq_true, decide_eq_true_eq] at hok
              have v1 : ¬ o.n < 0 := by omega
              have v2 : ¬ 1099511627776 < o.n := by omega
              have v1' : decide (o.n < 0) = false := by simpa using v1
              have v2' : decide (1099511627776 < o.n) = false := by simpa using v2
              have hdl := decDigits_len 19 o.n.toNat (by omega) (by omega)
              have q1 : ¬ 9223372036854775807 < 1 + (tb (Lib.decDigits o.n.toNat)).size := by rw [tb_size]; omega
              have q2 : ¬ 9223372036854775807 < (tb acc).size + (1 + (tb (Lib.decDigits o.n.toNat)).size) := by rw [tb_size, tb_size]; omega
              have HIO := Lib.hid (itoaW o.n hok.1 (by omega) wx (HP.out.later HMW1.out))
              clear hok
              go_wp2_with fail
              refine HIO.out.mono ?_
              rintro e w6 ⟨rfl, m6⟩
              have hlt6 := HIT1.out
              have hbilt : bi < wx.heap.size := by
                rcases Nat.lt_or_ge bi wx.heap.size with h' | h'
                · exact h'
                · rw [Array.getElem?_eq_none h'] at hlt6
                  cases hlt6
              have hit6 : w6.heap[bi]? = some (.stringIter (tb Fl) (pos + 1)) := by rw [m6.block bi hbilt (fun e => e)]; exact hlt6
              have HIT6 := Lib.hid hit6
              have HM6 := Lib.hid (HM1.out.trans m6 (fun _ _ e => e.elim))
              clear m6 hlt6 hit6
              go_wp2_with fail
              go_roundw
              case rel => exact ⟨pos + 1, acc ++ 32 :: Lib.decDigits o.n.toNat, by rw [← tb_append]; exact congrArg (fun z => Value.string (tb acc ++ z)) (tb_append [32] _), by omega, HIT6.out, HM6.out, hrel, by rw [List.length_append, List.length_cons]; omega⟩
              case measure =>
                have hmu6 : w6.iterPos bi = pos + 1 := by simp [World.iterPos, HIT6.out]
                rw [hmu, hmu6]
                omega
            · have hfv : fieldV o 110 = none := by simp [fieldV, hok]
              rw [hfv] at hrel
              obtain rfl : R = [] := hrel.out.symm
              have hbad : o.n < 0 ∨ (¬ o.n < 0 ∧ decide (o.n < 0) = false ∧ 1099511627776 < o.n) := by
                unfold okNum at hok
                simp only [Bool.and_eq_true, decide_eq_true_eq] at hok
                simp only [decide_eq_false_iff_not]
                omega
              clear hok
              rcases hbad with v1 | ⟨v1, v1', v2⟩
              all_goals
                go_wp2_with fail
                go_ret
                exact ⟨rfl, HMW1.out⟩
          · rw [show numPtr w.heap.size 100 = Value.pointer none from rfl]
            by_cases hok : o.data.length ≤ 20000
            · have hfv : fieldV o 100 = some (hexL o.data) := by simp [fieldV, hok]
              rw [hfv] at hrel
              have v1 : ¬ (20000 : Int) < (o.data.length : Int) := by omega
              have v1' : decide ((20000 : Int) < (o.data.length : Int)) = false := by simpa using v1
              have hsw := HMW1.out.size
              have hdl := hexL_len o.data
              have q1 : ¬ 9223372036854775807 < 1 + (tb (hexL o.data)).size := by rw [tb_size]; omega
              have q2 : ¬ 9223372036854775807 < (tb acc).size + (1 + (tb (hexL o.data)).size) := by rw [tb_size, tb_size]; omega
              have HIO := Lib.hid (hexW _ o.data wx ((HD.out.later HMW1.out (Nat.le_refl _)).more hsw) hl)
              go_wp2_with fail
              refine HIO.out.mono ?_
              rintro e w6 ⟨rfl, m6⟩
              have hlt6 := HIT1.out
              have hbilt : bi < wx.heap.size := by
                rcases Nat.lt_or_ge bi wx.heap.size with h' | h'
                · exact h'
                · rw [Array.getElem?_eq_none h'] at hlt6
                  cases hlt6
              have hit6 : w6.heap[bi]? = some (.stringIter (tb Fl) (pos + 1)) := by rw [m6.block bi hbilt (fun e => e)]; exact hlt6
              have HIT6 := Lib.hid hit6
              have HM6 := Lib.hid (HM1.out.trans m6 (fun _ _ e => e.elim))
              clear m6 hlt6 hit6
              go_wp2_with fail
              go_roundw
              case rel => exact ⟨pos + 1, acc ++ 32 :: hexL o.data, by rw [← tb_append]; exact congrArg (fun z => Value.string (tb acc ++ z)) (tb_append [32] _), by omega, HIT6.out, HM6.out, hrel, by rw [List.length_append, List.length_cons]; omega⟩
              case measure =>
                have hmu6 : w6.iterPos bi = pos + 1 := by simp [World.iterPos, HIT6.out]
                rw [hmu, hmu6]
                omega
            · have hfv : fieldV o 100 = none := by simp [fieldV, hok]
              rw [hfv] at hrel
              obtain rfl : R = [] := hrel.out.symm
              have v1 : (20000 : Int) < (o.data.length : Int) := by omega
              go_wp2_with fail
              go_ret
              exact ⟨rfl, HMW1.out⟩
        · have hp2 : ¬ pos < (tb Fl).size := by rw [tb_size]; exact hp
          have hnext : ∀ ty, (Instr.next (.pointer (some ⟨bi, 0, none⟩)) true ty).run Tryd.prog wr = _ := fun ty => Lib.run_next_end_at wr bi (tb Fl) pos ty hit hp2
          rw [List.drop_eq_nil_of_le (by omega)] at hrel
          have hacc : acc = R := hrel.out
          subst hacc
          have HM := Lib.hid (HM3.out.trans hm (fun i hi e => by omega))
          clear hm hit hrel
          go_wp2_with fail
          go_ret
          exact ⟨rfl, HM.out⟩
  · rw [if_neg hk] at hR
    subst hR
    obtain ⟨A, cap, rfl, hcap⟩ := hd.form
    have HM := Lib.hid (((Mod.refl (fun _ => False) w).alloc (.cells (opV o (.slice A o.data.length cap)) 26)))
    unfold opV at *
    have hbad : o.kind < 1 ∨ (¬ o.kind < 1 ∧ decide (o.kind < 1) = false ∧ 14 < o.kind) := by
      simp only [decide_eq_false_iff_not]
      omega
    clear hk hd hp
    rcases hbad with v1 | ⟨v1, v1', v2⟩
    all_goals
      go_enter Tryd.func10, Tryd.ntmps10
      go_wp2_with fail
      go_ret
      exact ⟨rfl, HM.out⟩
end Go.Proofs.YtpnicodjjbincaaDoor
