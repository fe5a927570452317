/- The walk of ScriptConfigs, whatever config and whatever text come in. -/
import Derived.Test.YtpnicodjjbincaaDoorSOpE
import Derived.Test.YtpnicodjjbincaaDoorScfR
import Derived.Laws.StructEq
namespace Go.Proofs.YtpnicodjjbincaaDoor
open Go.ChangeShapes Go.WideShapes Go.RowKit Go.Deep
set_option linter.unusedVariables false
set_option maxHeartbeats 8000000
set_option maxRecDepth 100000
/-- A config that came in. -/
def InC (v : Value) (c : List Int × Int) : Prop := v = .agg (cfV c.1 c.2) ∧ c.1.length = 13 ∧ 0 ≤ c.2 ∧ c.2 ≤ 18446744073709551615
theorem u64_of_wf {z : Int} (h : (Lit.int .u64 z).wf = true) : 0 ≤ z ∧ z ≤ 18446744073709551615 := by
  simp [Lit.wf, IntKind.min, IntKind.max, IntKind.signed, IntKind.bits] at h
  omega
theorem open_scriptConfigs_c {H : Type} {enc : TypeId × Value → H} {w : World} {v : Value} {d : DataW H} {p : List MemPlace}
    (hv : Value.okWide Tryd.prog w .any 0 49 v) (h : DataW.Trod enc Tryd.prog w 0 (fun _ => true) true 49 v d p) : ∃ c : List Int × Int, InC v c := by
  obtain ⟨cs, rfl, hsz⟩ := okWide_struct Tryd.underlying49 hv
  obtain ⟨fuel, hf⟩ := h
  obtain ⟨ys, n, hn, hy, hlen, hyl, hf2⟩ := DataW.trod_struct Tryd.underlying49 hf
  have hys : ∀ j, j < 14 → ∃ y, ys[j]? = some y := fun j hj => ⟨_, List.getElem?_eq_getElem (by rw [hyl]; exact hj)⟩
  obtain ⟨y0, hy0⟩ := hys 0 (by omega)
  obtain ⟨y1, hy1⟩ := hys 1 (by omega)
  obtain ⟨y2, hy2⟩ := hys 2 (by omega)
  obtain ⟨y3, hy3⟩ := hys 3 (by omega)
  obtain ⟨y4, hy4⟩ := hys 4 (by omega)
  obtain ⟨y5, hy5⟩ := hys 5 (by omega)
  obtain ⟨y6, hy6⟩ := hys 6 (by omega)
  obtain ⟨y7, hy7⟩ := hys 7 (by omega)
  obtain ⟨y8, hy8⟩ := hys 8 (by omega)
  obtain ⟨y9, hy9⟩ := hys 9 (by omega)
  obtain ⟨y10, hy10⟩ := hys 10 (by omega)
  obtain ⟨y11, hy11⟩ := hys 11 (by omega)
  obtain ⟨y12, hy12⟩ := hys 12 (by omega)
  obtain ⟨y13, hy13⟩ := hys 13 (by omega)
  obtain ⟨z0, e0, _⟩ := DataW.trod_int Tryd.underlying3 ((hf2 0 _ rfl).trans hy0)
  obtain ⟨z1, e1, _⟩ := DataW.trod_int Tryd.underlying3 ((hf2 1 _ rfl).trans hy1)
  obtain ⟨z2, e2, _⟩ := DataW.trod_int Tryd.underlying3 ((hf2 2 _ rfl).trans hy2)
  obtain ⟨z3, e3, _⟩ := DataW.trod_int Tryd.underlying3 ((hf2 3 _ rfl).trans hy3)
  obtain ⟨z4, e4, _⟩ := DataW.trod_int Tryd.underlying3 ((hf2 4 _ rfl).trans hy4)
  obtain ⟨z5, e5, _⟩ := DataW.trod_int Tryd.underlying3 ((hf2 5 _ rfl).trans hy5)
  obtain ⟨z6, e6, _⟩ := DataW.trod_int Tryd.underlying3 ((hf2 6 _ rfl).trans hy6)
  obtain ⟨z7, e7, _⟩ := DataW.trod_int Tryd.underlying3 ((hf2 7 _ rfl).trans hy7)
  obtain ⟨z8, e8, _⟩ := DataW.trod_int Tryd.underlying3 ((hf2 8 _ rfl).trans hy8)
  obtain ⟨z9, e9, _⟩ := DataW.trod_int Tryd.underlying3 ((hf2 9 _ rfl).trans hy9)
  obtain ⟨z10, e10, _⟩ := DataW.trod_int Tryd.underlying3 ((hf2 10 _ rfl).trans hy10)
  obtain ⟨z11, e11, _⟩ := DataW.trod_int Tryd.underlying3 ((hf2 11 _ rfl).trans hy11)
  obtain ⟨z12, e12, _⟩ := DataW.trod_int Tryd.underlying3 ((hf2 12 _ rfl).trans hy12)
  obtain ⟨m, e13, hm⟩ := DataW.trod_int Tryd.underlying47 ((hf2 13 _ rfl).trans hy13)
  have hmb : 0 ≤ m ∧ m ≤ 18446744073709551615 := u64_of_wf (by first | exact hm | exact hm.1 | exact hm.2)
  refine ⟨([z0, z1, z2, z3, z4, z5, z6, z7, z8, z9, z10, z11, z12], m), ?_, rfl, hmb.1, hmb.2⟩
  obtain ⟨l⟩ := cs
  have hl14 : l.length = 14 := by
    have : Tryd.prog.cellsOf 49 = 14 := by kernel_rfl
    rw [this] at hsz
    simpa using hsz
  match l, hl14 with
  | [u0, u1, u2, u3, u4, u5, u6, u7, u8, u9, u10, u11, u12, u13], _ =>
    have k0 : [u0] = [Value.int .i64 z0] := e0
    have k1 : [u1] = [Value.int .i64 z1] := e1
    have k2 : [u2] = [Value.int .i64 z2] := e2
    have k3 : [u3] = [Value.int .i64 z3] := e3
    have k4 : [u4] = [Value.int .i64 z4] := e4
    have k5 : [u5] = [Value.int .i64 z5] := e5
    have k6 : [u6] = [Value.int .i64 z6] := e6
    have k7 : [u7] = [Value.int .i64 z7] := e7
    have k8 : [u8] = [Value.int .i64 z8] := e8
    have k9 : [u9] = [Value.int .i64 z9] := e9
    have k10 : [u10] = [Value.int .i64 z10] := e10
    have k11 : [u11] = [Value.int .i64 z11] := e11
    have k12 : [u12] = [Value.int .i64 z12] := e12
    have k13 : [u13] = [Value.int .u64 m] := e13
    injection k0 with k0
    injection k1 with k1
    injection k2 with k2
    injection k3 with k3
    injection k4 with k4
    injection k5 with k5
    injection k6 with k6
    injection k7 with k7
    injection k8 with k8
    injection k9 with k9
    injection k10 with k10
    injection k11 with k11
    injection k12 with k12
    injection k13 with k13
    subst k0 k1 k2 k3 k4 k5 k6 k7 k8 k9 k10 k11 k12 k13
    rfl
theorem cf_size (l : List Int) (m : Int) : (cfV l m).size = 14 := rfl
theorem parC_bd (s : Tx) : (parC s).1.1.length = 13 ∧ 0 ≤ (parC s).1.2 ∧ (parC s).1.2 ≤ 18446744073709551615 ∧ ((parC s).2 = 0 ∨ (parC s).2 = 2) := by
  unfold parC
  split
  · rename_i h
    have := pU_bd ((cutT 32 s).getD 14 [])
    exact ⟨par_len h.1, this.1, this.2, .inl rfl⟩
  · exact ⟨rfl, by decide, by decide, .inr rfl⟩
theorem textC_len {l : List Int} {m : Int} (hl : l.length = 13) : (textC (l ++ [m])).length ≤ 1000 := by
  unfold textC
  split
  · rename_i h
    have h1 := nums_len (l ++ [m]) (List.all_eq_true.1 h)
    rw [List.length_append, hl] at h1
    rw [List.length_append, show cfgT.length = 6 from rfl]
    simp at h1
    omega
  · simp
theorem walk_configs (l : List Int) (m : Int) (s : ByteArray) (w : World) (E : Env w) (hl : l.length = 13) (hm : 0 ≤ m ∧ m ≤ 18446744073709551615) :
    Calls Tryd.prog 6 #[.agg (cfV l m), .string s] w fun e w' => e = .returned (.bool true) ∧ Mod (fun _ => False) w w' := by
  obtain ⟨tx, rfl⟩ : ∃ tx, s = tb tx := ⟨s.data.toList, (tb_of s).symm⟩
  have HE := Lib.hid E
  have HB1 := Lib.hid (Blk.new w 49 (cfV l m))
  have HM1 := Lib.hid ((Mod.refl (fun _ => False) w).alloc (.cells (cfV l m) 49))
  have htz := tb_size tx
  clear E
  by_cases hlong : 1000 < tx.length
  · have hlz : (1000 : Int) < ((tb tx).size : Int) := by omega
    have HAW := Lib.hid (awakeW _ (HE.out.later HM1.out))
    clear htz
    unfold cfV at *
    go_enter Tryd.func6, Tryd.ntmps6
    go_wp2_with fail
    refine HAW.out.mono ?_
    rintro e w2 ⟨rfl, m2⟩
    have HM2 := Lib.hid (HM1.out.trans m2 (fun _ _ e => e))
    clear m2
    go_wp2_with fail
    go_ret
    exact ⟨rfl, HM2.out⟩
  · have hlz : ¬ (1000 : Int) < ((tb tx).size : Int) := by omega
    have hpb := parC_bd tx
    have hq1 := configW (tb tx) (by rw [tb_size]; omega) _ (HE.out.later HM1.out)
    have hq2 := fun w => parseCRW (tb tx) (by rw [tb_size]; omega) w
    simp only [tb_data, ← par_same] at hq1 hq2
    generalize parC tx = P at *
    obtain ⟨⟨pl, pm⟩, er⟩ := P
    simp only at hq1 hq2 hpb
    obtain ⟨hp1, hp2, hp3, her⟩ := hpb
    have htl := textC_len (m := m) hl
    have hq3 := fun w E => configW (tb (textC (l ++ [m]))) (by rw [tb_size]; omega) w E
    simp only [tb_data, cfg_text hl] at hq3
    have ht1 := fun w (E : Env w) => textCW l m hl hm w E.pow
    have ht2 := fun w => textCRW l m hl hm w
    generalize textC (l ++ [m]) = T at *
    have HQ1 := Lib.hid hq1
    have HQ2 := Lib.hid hq2
    have HQ3 := Lib.hid hq3
    have HT1 := Lib.hid ht1
    have HT2 := Lib.hid ht2
    clear hq1 hq2 hq3 ht1 ht2 htz
    have hs1 : (w.alloc (.cells (cfV l m) 49)).heap.size = w.heap.size + 1 := by simp
    go_enter Tryd.func6, Tryd.ntmps6
    go_wp2_with fail
    generalize w.alloc (.cells (cfV l m) 49) = w1 at *
    generalize hbc : w.heap.size = bc at *
    have HBC := HB1
    refine HQ1.out.mono ?_
    rintro e w2 ⟨rfl, m2⟩
    have HM2 := Lib.hid (HM1.out.trans m2 (fun _ _ e => e))
    have HC2 := Lib.hid (HBC.out.mod m2 (fun e => e))
    clear m2 HB1 HBC HM1
    go_upto_region 4 with (refine wpList_store_row rfl 49 _ _ rfl w2.heap.size (cfV pl pm) (by kernel_rfl) (by kernel_rfl) 49 _ (heap_alloc_new w2 _) (by kernel_rfl) (by kernel_rfl) (by kernel_rfl) ?_)
    have hbn := setRow_blk (cs := (cfV pl pm)) (Blk.new w2 49 #[.int .i64 0, .int .i64 0, .int .i64 0, .int .i64 0, .int .i64 0, .int .i64 0, .int .i64 0, .int .i64 0, .int .i64 0, .int .i64 0, .int .i64 0, .int .i64 0, .int .i64 0, .int .u64 0])
    have hmn := ((Mod.refl (fun _ => False) w2).alloc (.cells #[.int .i64 0, .int .i64 0, .int .i64 0, .int .i64 0, .int .i64 0, .int .i64 0, .int .i64 0, .int .i64 0, .int .i64 0, .int .i64 0, .int .i64 0, .int .i64 0, .int .i64 0, .int .u64 0] 49)).trans (setRow_mod _ w2.heap.size (cfV pl pm)) (fun i hi e => by omega)
    have HB_bx := Lib.hid hbn
    have HMN := Lib.hid hmn
    clear hbn hmn
    generalize (w2.alloc (.cells #[.int .i64 0, .int .i64 0, .int .i64 0, .int .i64 0, .int .i64 0, .int .i64 0, .int .i64 0, .int .i64 0, .int .i64 0, .int .i64 0, .int .i64 0, .int .i64 0, .int .i64 0, .int .u64 0] 49)).setRow w2.heap.size (cfV pl pm) = w3 at *
    generalize w2.heap.size = bx at *
    have HC3 := Lib.hid (HC2.out.mod HMN.out (fun e => e))
    have HM3 := Lib.hid (HM2.out.trans HMN.out (fun _ _ e => e))
    clear HMN HC2 HM2
    go_wp2_with fail
    refine (HQ2.out w3).mono ?_
    rintro e w4 ⟨rfl, m4⟩
    have HM4 := Lib.hid (HM3.out.trans m4 (fun _ _ e => e))
    have HC4 := Lib.hid (HC3.out.mod m4 (fun e => e))
    have HX4 := Lib.hid (HB_bx.out.mod m4 (fun e => e))
    clear m4 HB_bx HC3 HM3
    go_upto_region 5 with (refine wpList_store_row rfl 49 _ _ rfl w4.heap.size (cfV pl pm) (by kernel_rfl) (by kernel_rfl) 49 _ (heap_alloc_new w4 _) (by kernel_rfl) (by kernel_rfl) (by kernel_rfl) ?_)
    have hbn := setRow_blk (cs := (cfV pl pm)) (Blk.new w4 49 #[.int .i64 0, .int .i64 0, .int .i64 0, .int .i64 0, .int .i64 0, .int .i64 0, .int .i64 0, .int .i64 0, .int .i64 0, .int .i64 0, .int .i64 0, .int .i64 0, .int .i64 0, .int .u64 0])
    have hmn := ((Mod.refl (fun _ => False) w4).alloc (.cells #[.int .i64 0, .int .i64 0, .int .i64 0, .int .i64 0, .int .i64 0, .int .i64 0, .int .i64 0, .int .i64 0, .int .i64 0, .int .i64 0, .int .i64 0, .int .i64 0, .int .i64 0, .int .u64 0] 49)).trans (setRow_mod _ w4.heap.size (cfV pl pm)) (fun i hi e => by omega)
    have HB_by_ := Lib.hid hbn
    have HMN := Lib.hid hmn
    clear hbn hmn
    generalize (w4.alloc (.cells #[.int .i64 0, .int .i64 0, .int .i64 0, .int .i64 0, .int .i64 0, .int .i64 0, .int .i64 0, .int .i64 0, .int .i64 0, .int .i64 0, .int .i64 0, .int .i64 0, .int .i64 0, .int .u64 0] 49)).setRow w4.heap.size (cfV pl pm) = w5 at *
    generalize w4.heap.size = by_ at *
    have HC5 := Lib.hid (HC4.out.mod HMN.out (fun e => e))
    have HX5 := Lib.hid (HX4.out.mod HMN.out (fun e => e))
    have HM5 := Lib.hid (HM4.out.trans HMN.out (fun _ _ e => e))
    clear HMN HC4 HM4 HX4
    go_wp2_with (refine wpList_load_row rfl 49 _ rfl bc (by kernel_rfl) 49 (cfV l m) (0, 0) _ HC5.out Tryd.underlying49 rfl (by kernel_rfl) ?_)
    refine (HT1.out w5 (HE.out.later HM5.out)).mono ?_
    rintro e w6 ⟨rfl, m6⟩
    have HC6 := Lib.hid (HC5.out.mod m6 (fun e => e))
    have HX6 := Lib.hid (HX5.out.mod m6 (fun e => e))
    have HY6 := Lib.hid (HB_by_.out.mod m6 (fun e => e))
    have HM6 := Lib.hid (HM5.out.trans m6 (fun _ _ e => e))
    clear m6 HC5 HX5 HB_by_ HM5
    go_wp2_with (refine wpList_load_row rfl 49 _ rfl bc (by kernel_rfl) 49 (cfV l m) (0, 0) _ HC6.out Tryd.underlying49 rfl (by kernel_rfl) ?_)
    refine (HT2.out w6).mono ?_
    rintro e w7 ⟨rfl, m7⟩
    have HC7 := Lib.hid (HC6.out.mod m7 (fun e => e))
    have HX7 := Lib.hid (HX6.out.mod m7 (fun e => e))
    have HY7 := Lib.hid (HY6.out.mod m7 (fun e => e))
    have HM7 := Lib.hid (HM6.out.trans m7 (fun _ _ e => e))
    clear m7 HC6 HX6 HY6 HM6
    have x0 : w7.cell? ⟨bx, 0, none⟩ = some (.int .i64 (nth pl 0)) := HX7.out.cell 0
    have x1 : w7.cell? ⟨bx, 1, none⟩ = some (.int .i64 (nth pl 1)) := HX7.out.cell 1
    have x2 : w7.cell? ⟨bx, 2, none⟩ = some (.int .i64 (nth pl 2)) := HX7.out.cell 2
    have x3 : w7.cell? ⟨bx, 3, none⟩ = some (.int .i64 (nth pl 3)) := HX7.out.cell 3
    have x4 : w7.cell? ⟨bx, 4, none⟩ = some (.int .i64 (nth pl 4)) := HX7.out.cell 4
    have x5 : w7.cell? ⟨bx, 5, none⟩ = some (.int .i64 (nth pl 5)) := HX7.out.cell 5
    have x6 : w7.cell? ⟨bx, 6, none⟩ = some (.int .i64 (nth pl 6)) := HX7.out.cell 6
    have x7 : w7.cell? ⟨bx, 7, none⟩ = some (.int .i64 (nth pl 7)) := HX7.out.cell 7
    have x8 : w7.cell? ⟨bx, 8, none⟩ = some (.int .i64 (nth pl 8)) := HX7.out.cell 8
    have x9 : w7.cell? ⟨bx, 9, none⟩ = some (.int .i64 (nth pl 9)) := HX7.out.cell 9
    have x10 : w7.cell? ⟨bx, 10, none⟩ = some (.int .i64 (nth pl 10)) := HX7.out.cell 10
    have x11 : w7.cell? ⟨bx, 11, none⟩ = some (.int .i64 (nth pl 11)) := HX7.out.cell 11
    have x12 : w7.cell? ⟨bx, 12, none⟩ = some (.int .i64 (nth pl 12)) := HX7.out.cell 12
    have x13 : w7.cell? ⟨bx, 13, none⟩ = some (.int .u64 pm) := HX7.out.cell 13
    have y0 : w7.cell? ⟨by_, 0, none⟩ = some (.int .i64 (nth pl 0)) := HY7.out.cell 0
    have y1 : w7.cell? ⟨by_, 1, none⟩ = some (.int .i64 (nth pl 1)) := HY7.out.cell 1
    have y2 : w7.cell? ⟨by_, 2, none⟩ = some (.int .i64 (nth pl 2)) := HY7.out.cell 2
    have y3 : w7.cell? ⟨by_, 3, none⟩ = some (.int .i64 (nth pl 3)) := HY7.out.cell 3
    have y4 : w7.cell? ⟨by_, 4, none⟩ = some (.int .i64 (nth pl 4)) := HY7.out.cell 4
    have y5 : w7.cell? ⟨by_, 5, none⟩ = some (.int .i64 (nth pl 5)) := HY7.out.cell 5
    have y6 : w7.cell? ⟨by_, 6, none⟩ = some (.int .i64 (nth pl 6)) := HY7.out.cell 6
    have y7 : w7.cell? ⟨by_, 7, none⟩ = some (.int .i64 (nth pl 7)) := HY7.out.cell 7
    have y8 : w7.cell? ⟨by_, 8, none⟩ = some (.int .i64 (nth pl 8)) := HY7.out.cell 8
    have y9 : w7.cell? ⟨by_, 9, none⟩ = some (.int .i64 (nth pl 9)) := HY7.out.cell 9
    have y10 : w7.cell? ⟨by_, 10, none⟩ = some (.int .i64 (nth pl 10)) := HY7.out.cell 10
    have y11 : w7.cell? ⟨by_, 11, none⟩ = some (.int .i64 (nth pl 11)) := HY7.out.cell 11
    have y12 : w7.cell? ⟨by_, 12, none⟩ = some (.int .i64 (nth pl 12)) := HY7.out.cell 12
    have y13 : w7.cell? ⟨by_, 13, none⟩ = some (.int .u64 pm) := HY7.out.cell 13
    go_upto_region 8 with fail
    clear x0 y0 x1 y1 x2 y2 x3 y3 x4 y4 x5 y5 x6 y6 x7 y7 x8 y8 x9 y9 x10 y10 x11 y11 x12 y12 x13 y13
    by_cases hT : T = []
    · have hq3 := HQ3.out
      simp only [if_pos hT] at hq3
      have HQ4 := Lib.hid hq3
      obtain ⟨t1, t2⟩ := str_empty (s := tb T) (by rw [tb_data]; exact hT)
      clear hq3 hT
      go_wp2_with fail
      refine (HQ4.out w7 (HE.out.later HM7.out)).mono ?_
      rintro e w8 ⟨rfl, m8⟩
      have HC8 := Lib.hid (HC7.out.mod m8 (fun e => e))
      have HM8 := Lib.hid (HM7.out.trans m8 (fun _ _ e => e))
      clear m8
      go_upto_region 9 with (refine wpList_store_row rfl 49 _ _ rfl w8.heap.size (cfV zeroL 0) (by kernel_rfl) (by kernel_rfl) 49 _ (heap_alloc_new w8 _) (by kernel_rfl) (by kernel_rfl) (by kernel_rfl) ?_)
      have hbn := setRow_blk (cs := (cfV zeroL 0)) (Blk.new w8 49 #[.int .i64 0, .int .i64 0, .int .i64 0, .int .i64 0, .int .i64 0, .int .i64 0, .int .i64 0, .int .i64 0, .int .i64 0, .int .i64 0, .int .i64 0, .int .i64 0, .int .i64 0, .int .u64 0])
      have hmn := ((Mod.refl (fun _ => False) w8).alloc (.cells #[.int .i64 0, .int .i64 0, .int .i64 0, .int .i64 0, .int .i64 0, .int .i64 0, .int .i64 0, .int .i64 0, .int .i64 0, .int .i64 0, .int .i64 0, .int .i64 0, .int .i64 0, .int .u64 0] 49)).trans (setRow_mod _ w8.heap.size (cfV zeroL 0)) (fun i hi e => by omega)
      have HB_bz := Lib.hid hbn
      have HMN := Lib.hid hmn
      clear hbn hmn
      generalize (w8.alloc (.cells #[.int .i64 0, .int .i64 0, .int .i64 0, .int .i64 0, .int .i64 0, .int .i64 0, .int .i64 0, .int .i64 0, .int .i64 0, .int .i64 0, .int .i64 0, .int .i64 0, .int .i64 0, .int .u64 0] 49)).setRow w8.heap.size (cfV zeroL 0) = w9 at *
      generalize w8.heap.size = bz at *
      have HC9 := Lib.hid (HC8.out.mod HMN.out (fun e => e))
      have HM9 := Lib.hid (HM8.out.trans HMN.out (fun _ _ e => e))
      have HAW := Lib.hid (awakeW _ (HE.out.later HM9.out))
      clear HMN HC8 HM8
      go_wp2_with fail
      refine HAW.out.mono ?_
      rintro e w10 ⟨rfl, m10⟩
      have HM10 := Lib.hid (HM9.out.trans m10 (fun _ _ e => e))
      clear m10
      go_wp2_with fail
      go_ret
      exact ⟨rfl, HM10.out⟩
    · have hq3 := HQ3.out
      simp only [if_neg hT] at hq3
      have HQ4 := Lib.hid hq3
      obtain ⟨t1, t2⟩ := str_some (s := tb T) (by rw [tb_data]; exact hT)
      clear hq3 hT
      go_wp2_with fail
      refine (HQ4.out w7 (HE.out.later HM7.out)).mono ?_
      rintro e w8 ⟨rfl, m8⟩
      have HC8 := Lib.hid (HC7.out.mod m8 (fun e => e))
      have HM8 := Lib.hid (HM7.out.trans m8 (fun _ _ e => e))
      clear m8
      go_upto_region 9 with (refine wpList_store_row rfl 49 _ _ rfl w8.heap.size (cfV l m) (by kernel_rfl) (by kernel_rfl) 49 _ (heap_alloc_new w8 _) (by kernel_rfl) (by kernel_rfl) (by kernel_rfl) ?_)
      have hbn := setRow_blk (cs := (cfV l m)) (Blk.new w8 49 #[.int .i64 0, .int .i64 0, .int .i64 0, .int .i64 0, .int .i64 0, .int .i64 0, .int .i64 0, .int .i64 0, .int .i64 0, .int .i64 0, .int .i64 0, .int .i64 0, .int .i64 0, .int .u64 0])
      have hmn := ((Mod.refl (fun _ => False) w8).alloc (.cells #[.int .i64 0, .int .i64 0, .int .i64 0, .int .i64 0, .int .i64 0, .int .i64 0, .int .i64 0, .int .i64 0, .int .i64 0, .int .i64 0, .int .i64 0, .int .i64 0, .int .i64 0, .int .u64 0] 49)).trans (setRow_mod _ w8.heap.size (cfV l m)) (fun i hi e => by omega)
      have HB_bz := Lib.hid hbn
      have HMN := Lib.hid hmn
      clear hbn hmn
      generalize (w8.alloc (.cells #[.int .i64 0, .int .i64 0, .int .i64 0, .int .i64 0, .int .i64 0, .int .i64 0, .int .i64 0, .int .i64 0, .int .i64 0, .int .i64 0, .int .i64 0, .int .i64 0, .int .i64 0, .int .u64 0] 49)).setRow w8.heap.size (cfV l m) = w9 at *
      generalize w8.heap.size = bz at *
      have HC9 := Lib.hid (HC8.out.mod HMN.out (fun e => e))
      have HM9 := Lib.hid (HM8.out.trans HMN.out (fun _ _ e => e))
      have HAW := Lib.hid (awakeW _ (HE.out.later HM9.out))
      clear HMN HC8 HM8
      have x0 : w9.cell? ⟨bc, 0, none⟩ = some (.int .i64 (nth l 0)) := HC9.out.cell 0
      have x1 : w9.cell? ⟨bc, 1, none⟩ = some (.int .i64 (nth l 1)) := HC9.out.cell 1
      have x2 : w9.cell? ⟨bc, 2, none⟩ = some (.int .i64 (nth l 2)) := HC9.out.cell 2
      have x3 : w9.cell? ⟨bc, 3, none⟩ = some (.int .i64 (nth l 3)) := HC9.out.cell 3
      have x4 : w9.cell? ⟨bc, 4, none⟩ = some (.int .i64 (nth l 4)) := HC9.out.cell 4
      have x5 : w9.cell? ⟨bc, 5, none⟩ = some (.int .i64 (nth l 5)) := HC9.out.cell 5
      have x6 : w9.cell? ⟨bc, 6, none⟩ = some (.int .i64 (nth l 6)) := HC9.out.cell 6
      have x7 : w9.cell? ⟨bc, 7, none⟩ = some (.int .i64 (nth l 7)) := HC9.out.cell 7
      have x8 : w9.cell? ⟨bc, 8, none⟩ = some (.int .i64 (nth l 8)) := HC9.out.cell 8
      have x9 : w9.cell? ⟨bc, 9, none⟩ = some (.int .i64 (nth l 9)) := HC9.out.cell 9
      have x10 : w9.cell? ⟨bc, 10, none⟩ = some (.int .i64 (nth l 10)) := HC9.out.cell 10
      have x11 : w9.cell? ⟨bc, 11, none⟩ = some (.int .i64 (nth l 11)) := HC9.out.cell 11
      have x12 : w9.cell? ⟨bc, 12, none⟩ = some (.int .i64 (nth l 12)) := HC9.out.cell 12
      have x13 : w9.cell? ⟨bc, 13, none⟩ = some (.int .u64 m) := HC9.out.cell 13
      have y0 : w9.cell? ⟨bz, 0, none⟩ = some (.int .i64 (nth l 0)) := HB_bz.out.cell 0
      have y1 : w9.cell? ⟨bz, 1, none⟩ = some (.int .i64 (nth l 1)) := HB_bz.out.cell 1
      have y2 : w9.cell? ⟨bz, 2, none⟩ = some (.int .i64 (nth l 2)) := HB_bz.out.cell 2
      have y3 : w9.cell? ⟨bz, 3, none⟩ = some (.int .i64 (nth l 3)) := HB_bz.out.cell 3
      have y4 : w9.cell? ⟨bz, 4, none⟩ = some (.int .i64 (nth l 4)) := HB_bz.out.cell 4
      have y5 : w9.cell? ⟨bz, 5, none⟩ = some (.int .i64 (nth l 5)) := HB_bz.out.cell 5
      have y6 : w9.cell? ⟨bz, 6, none⟩ = some (.int .i64 (nth l 6)) := HB_bz.out.cell 6
      have y7 : w9.cell? ⟨bz, 7, none⟩ = some (.int .i64 (nth l 7)) := HB_bz.out.cell 7
      have y8 : w9.cell? ⟨bz, 8, none⟩ = some (.int .i64 (nth l 8)) := HB_bz.out.cell 8
      have y9 : w9.cell? ⟨bz, 9, none⟩ = some (.int .i64 (nth l 9)) := HB_bz.out.cell 9
      have y10 : w9.cell? ⟨bz, 10, none⟩ = some (.int .i64 (nth l 10)) := HB_bz.out.cell 10
      have y11 : w9.cell? ⟨bz, 11, none⟩ = some (.int .i64 (nth l 11)) := HB_bz.out.cell 11
      have y12 : w9.cell? ⟨bz, 12, none⟩ = some (.int .i64 (nth l 12)) := HB_bz.out.cell 12
      have y13 : w9.cell? ⟨bz, 13, none⟩ = some (.int .u64 m) := HB_bz.out.cell 13
      go_wp2_with fail
      refine HAW.out.mono ?_
      rintro e w10 ⟨rfl, m10⟩
      have HM10 := Lib.hid (HM9.out.trans m10 (fun _ _ e => e))
      clear m10
      go_wp2_with fail
      go_ret
      exact ⟨rfl, HM10.out⟩
theorem walk_scriptConfigs {v : Value} (w : World) (E : Env w) (c : List Int × Int) (h : InC v c) (s : ByteArray) {X : Prop} (_ : X) : Calls Tryd.prog 6 #[v, .string s] w fun e w' => e = .returned (.bool true) ∧ Below w.heap.size w w' := by
  obtain ⟨rfl, hl, hm⟩ := h
  exact (walk_configs c.1 c.2 s w E hl hm).mono fun e w' ⟨he, hm⟩ => ⟨he, hm.below⟩
end Go.Proofs.YtpnicodjjbincaaDoor
