/- The walk of ScriptBack. -/
import Derived.Test.YtpnicodjjbincaaDoorSAwkW
import Derived.Test.YtpnicodjjbincaaDoorSTxtR
namespace Go.Proofs.YtpnicodjjbincaaDoor
open Go.RowKit
set_option linter.unusedVariables false
set_option maxHeartbeats 8000000
set_option maxRecDepth 100000
theorem fieldT_len (o : OpT) (c : UInt8) : (fieldT o c).length ≤ 2 * o.data.length + 20 := by
  unfold fieldT
  cases h : fieldV o c with
  | none => simp
  | some t =>
    simp only [Option.getD_some]
    unfold fieldV at h
    split at h
    · obtain ⟨h0, h1, rfl⟩ := num_some h
      have := decDigits_len 19 o.a.toNat (by omega) (by omega)
      omega
    · split at h
      · obtain ⟨h0, h1, rfl⟩ := num_some h
        have := decDigits_len 19 o.b.toNat (by omega) (by omega)
        omega
      · split at h
        · obtain ⟨h0, h1, rfl⟩ := num_some h
          have := decDigits_len 19 o.n.toNat (by omega) (by omega)
          omega
        · split at h
          · injection h with h
            subst h
            have := hexL_len o.data
            omega
          · cases h
theorem flat_bound (o : OpT) : ∀ f : Tx, ((f.map (fieldT o)).flatMap (fun t => 32 :: t)).length ≤ f.length * (2 * o.data.length + 21)
  | [] => by simp
  | c :: f => by
    have h1 := flat_bound o f
    have h2 := fieldT_len o c
    rw [List.map_cons, List.flatMap_cons, List.length_append, List.length_cons, List.length_cons, Nat.succ_mul]
    omega
theorem textO_len (o : OpT) : (textO o).length ≤ 100 + 6 * o.data.length := by
  by_cases h : textO o = []
  · rw [h]; simp
  · obtain ⟨h1, h2, h3⟩ := textO_ok h
    have hb := fields_bd ⟨o.kind.toNat, by omega⟩
    simp only at hb
    unfold textO
    rw [if_pos ⟨h1, h2⟩, textF_all o _ _ h3, List.length_append]
    have h4 := flat_bound o (fieldsK o.kind.toNat)
    have h5 : (fieldsK o.kind.toNat).length * (2 * o.data.length + 21) ≤ 3 * (2 * o.data.length + 21) := Nat.mul_le_mul_right _ hb.1
    omega
theorem fillN_data : ∀ (f : Tx) (t o : OpT), (fillN t o f).data = t.data ∨ (fillN t o f).data = o.data
  | [], t, o => .inl rfl
  | c :: f, t, o => by
    rw [fillN]
    rcases fillN_data f (setF t o c) o with h | h
    · rw [h]
      unfold setF
      split
      · exact .inl rfl
      · split
        · exact .inl rfl
        · split
          · exact .inl rfl
          · exact .inr rfl
    · exact .inr h
theorem norm_len (o : OpT) : (normO o).data.length ≤ o.data.length := by
  rcases fillN_data (fieldsK o.kind.toNat) { zeroO with kind := o.kind } o with h | h
  · unfold normO
    rw [h]
    simp [zeroO]
  · unfold normO
    rw [h]
    exact Nat.le_refl _
theorem norm_kind (o : OpT) : (normO o).kind = o.kind := fillN_kind _ _ _
/-- With a word more it is none. -/
theorem par_more {o : OpT} (h : textO o ≠ []) : parP (textO o ++ [32, 48]) = (zeroO, 2) := by
  obtain ⟨h1, h2, h3⟩ := textO_ok h
  have hw := word_facts ⟨o.kind.toNat, by omega⟩
  have hp := (hw.2.1 (by show 1 ≤ o.kind.toNat; omega)).2
  simp only at hp
  have hws : wordsT (textO o ++ [32, 48]) = wordK o.kind.toNat :: ((fieldsK o.kind.toNat).map (fieldT o) ++ [[48]]) := by
    have := wordsT_more 32 (textO o) [48]
    show cutT 32 (textO o ++ 32 :: [48]) = _
    rw [this, show cutT 32 (textO o) = wordsT (textO o) from rfl, textO_words h]
    rfl
  unfold parP
  rw [if_neg]
  rintro ⟨hk, -⟩
  unfold parOk at hk
  rw [hws] at hk
  simp only [List.headD_cons, hp, List.length_cons, List.length_append, List.length_map, Bool.and_eq_true, decide_eq_true_eq] at hk
  have e : (((o.kind.toNat : Nat) : Int)).toNat = o.kind.toNat := rfl
  rw [e] at hk
  simp at hk
  omega
theorem par_blank (t : Tx) : parP (32 :: t) = (zeroO, 2) := by
  have hws : wordsT (32 :: t) = [] :: wordsT t := wordsT_blank 32 t
  unfold parP
  rw [if_neg]
  rintro ⟨hk, -⟩
  have h1 := ((parOk_of hws).1 hk).1
  have : placeF [] kindW 0 = 0 := rfl
  rw [this] at h1
  omega
theorem madeW (o : OpT) (A : Option Addr) (n cap : Nat) (w : World) :
    Calls Tryd.prog 11 #[.agg (opV o (.slice A n cap))] w fun e w' => e = .returned (.agg (opV o (.slice A n cap))) ∧ Mod (fun _ => False) w w' := by
  unfold opV
  have HM := Lib.hid (((Mod.refl (fun _ => False) w).alloc (.cells #[.int .i64 o.kind, .int .i64 o.a, .int .i64 o.b, .int .i64 o.n, .slice A n cap] 24)).alloc (.cells #[.int .i64 o.kind, .int .i64 o.a, .int .i64 o.b, .int .i64 o.n, .slice A n cap] 26))
  go_enter Tryd.func11, Tryd.ntmps11
  go_wp2
  go_returns
  exact ⟨rfl, HM.out⟩
theorem walk_backs (o : OpT) (dv : Value) (w : World) (E : Env w) (hd : Has w w.heap.size 1 encB dv o.data) :
    Calls Tryd.prog 4 #[.agg (opV o dv)] w fun e w' => e = .returned (.bool true) ∧ Mod (fun _ => False) w w' := by
  obtain ⟨A, cap, rfl, hcap⟩ := hd.form
  have HE := Lib.hid E
  have HD := Lib.hid hd
  have HB := Lib.hid (Blk.new w 24 (opV o (.slice A o.data.length cap)))
  have HM1 := Lib.hid ((Mod.refl (fun _ => False) w).alloc (.cells (opV o (.slice A o.data.length cap)) 24))
  clear E hd
  by_cases hlong : 2000 < o.data.length
  · have hlz : (2000 : Int) < (o.data.length : Int) := by omega
    have HAW := Lib.hid (awakeW _ (HE.out.later HM1.out))
    unfold opV at *
    go_enter Tryd.func4, Tryd.ntmps4
    go_wp2_with fail
    refine HAW.out.mono ?_
    rintro e w2 ⟨rfl, m2⟩
    have HM2 := Lib.hid (HM1.out.trans m2 (fun _ _ e => e))
    clear m2
    go_wp2_with fail
    go_ret
    exact ⟨rfl, HM2.out⟩
  · have hlz : ¬ (2000 : Int) < (o.data.length : Int) := by omega
    have hlz' : decide ((2000 : Int) < (o.data.length : Int)) = false := by simpa using hlz
    have hmade := madeW o A o.data.length cap
    unfold opV at hmade HB HM1
    have HMD := Lib.hid hmade
    have hbo := HB.out.lt
    clear hmade
    unfold opV
    go_enter Tryd.func4, Tryd.ntmps4
    go_wp2_with fail
    generalize w.alloc (.cells #[.int .i64 o.kind, .int .i64 o.a, .int .i64 o.b, .int .i64 o.n, .slice A o.data.length cap] 24) = w1 at *
    refine (HMD.out w1).mono ?_
    rintro e w2 ⟨rfl, m2⟩
    have HM2 := Lib.hid (HM1.out.trans m2 (fun _ _ e => e))
    have HB2 := Lib.hid (HB.out.mod m2 (fun e => e))
    have hsz2 := HM2.out.size
    have htx := textW o (.slice A o.data.length cap) w2 ((HD.out.later HM2.out (Nat.le_refl _)).more hsz2) (by omega) (HE.out.later HM2.out).pow
    unfold opV at htx
    have HTX := Lib.hid htx
    clear htx m2
    go_wp2_with fail
    refine HTX.out.mono ?_
    rintro e w3 ⟨rfl, m3⟩
    have HM3 := Lib.hid (HM2.out.trans m3 (fun _ _ e => e))
    have HB3 := Lib.hid (HB2.out.mod m3 (fun e => e))
    have hsz3 := HM3.out.size
    have hbl := textO_len o
    clear m3
    by_cases hemp : textO o = []
    · rw [hemp]
      have hcc := HB3.out.cell
      have htr := textRW o (.slice A o.data.length cap) w3 ((HD.out.later HM3.out (Nat.le_refl _)).more hsz3) (by omega)
      rw [hemp] at htr
      unfold opV at htr
      have hc0 : w3.cell? ⟨w.heap.size, 0, none⟩ = some (.int .i64 o.kind) := hcc 0
      have hc1 : w3.cell? ⟨w.heap.size, 1, none⟩ = some (.int .i64 o.a) := hcc 1
      have hc2 : w3.cell? ⟨w.heap.size, 2, none⟩ = some (.int .i64 o.b) := hcc 2
      have hc3 : w3.cell? ⟨w.heap.size, 3, none⟩ = some (.int .i64 o.n) := hcc 3
      have hc4 : w3.cell? ⟨w.heap.size, 4, none⟩ = some (.slice A o.data.length cap) := hcc 4
      have HTR := Lib.hid htr
      have et : tb [] = ⟨#[]⟩ := rfl
      rw [et] at HTR ⊢
      clear htr hcc hemp
      go_wp2_with fail
      refine HTR.out.mono ?_
      rintro e w4 ⟨rfl, m4⟩
      have HM4 := Lib.hid (HM3.out.trans m4 (fun _ _ e => e))
      have HAW := Lib.hid (awakeW _ (HE.out.later HM4.out))
      clear m4 hc0 hc1 hc2 hc3 hc4
      go_wp2_with fail
      refine HAW.out.mono ?_
      rintro e w5 ⟨rfl, m5⟩
      have HM5 := Lib.hid (HM4.out.trans m5 (fun _ _ e => e))
      clear m5
      go_wp2_with fail
      go_ret
      exact ⟨rfl, HM5.out⟩
    · have hp1 := par_text hemp
      have hp2 := par_more hemp
      have hp3 := par_blank (textO o)
      have hnt := norm_text hemp
      have HNK := Lib.hid (norm_kind o)
      have hnl := norm_len o
      obtain ⟨hse, hse2⟩ := str_some (s := tb (textO o)) (by rw [tb_data]; exact hemp)
      generalize normO o = p at *
      generalize hs : textO o = s at *
      have hq1 := parseW (tb s) (by rw [tb_size]; omega) w3 (HE.out.later HM3.out)
      rw [tb_data, hp1] at hq1
      have HQ1 := Lib.hid hq1
      have q1 : ¬ 9223372036854775807 < (tb s).size + 2 := by rw [tb_size]; omega
      have q2 : ¬ 9223372036854775807 < 1 + (tb s).size := by rw [tb_size]; omega
      clear hq1 hp1 hemp hs
      go_wp2_with fail
      refine HQ1.out.mono ?_
      rintro e w4 ⟨⟨dv4, rfl, hh4⟩, m4⟩
      obtain ⟨A4, c4, rfl, hcap4⟩ := hh4.form
      unfold opV
      have hm4 := HM3.out.trans m4 (fun _ _ e => e)
      have HM5 := Lib.hid (hm4.alloc (.cells #[.int .i64 p.kind, .int .i64 p.a, .int .i64 p.b, .int .i64 p.n, .slice A4 p.data.length c4] 26))
      have HB5 := Lib.hid ((HB3.out.mod m4 (fun e => e)).old (.cells #[.int .i64 p.kind, .int .i64 p.a, .int .i64 p.b, .int .i64 p.n, .slice A4 p.data.length c4] 26))
      have HP5 := Lib.hid (Blk.new w4 26 #[.int .i64 p.kind, .int .i64 p.a, .int .i64 p.b, .int .i64 p.n, .slice A4 p.data.length c4])
      have HH5 := Lib.hid (hh4.later ((Mod.refl (fun _ => False) w4).alloc (.cells #[.int .i64 p.kind, .int .i64 p.a, .int .i64 p.b, .int .i64 p.n, .slice A4 p.data.length c4] 26)) (Nat.le_refl _))
      have hs4 := m4.size
      clear m4 hm4 hh4
      have hq2 := parseW (tb (s ++ [32, 48])) (by rw [tb_size, List.length_append]; simp; omega) _ (HE.out.later HM5.out)
      rw [tb_data, hp2, show tb (s ++ [32, 48]) = tb s ++ ⟨#[32, 48]⟩ by rw [← tb_append]; rfl] at hq2
      have HQ2 := Lib.hid hq2
      clear hq2 hp2
      go_wp2_with fail
      refine HQ2.out.mono ?_
      rintro e w6 ⟨⟨dv6, rfl, hh6⟩, m6⟩
      obtain ⟨A6, c6, rfl⟩ : ∃ A c, dv6 = .slice A 0 c := by
        obtain ⟨A, c, h, _⟩ := hh6.form
        exact ⟨A, c, h⟩
      unfold opV zeroO
      have HM7 := Lib.hid ((HM5.out.trans m6 (fun _ _ e => e)).alloc (.cells #[.int .i64 0, .int .i64 0, .int .i64 0, .int .i64 0, .slice A6 0 c6] 26))
      have hx7 := m6.alloc (.cells #[.int .i64 0, .int .i64 0, .int .i64 0, .int .i64 0, .slice A6 0 c6] 26)
      have HB7 := Lib.hid (HB5.out.mod hx7 (fun e => e))
      have HP7 := Lib.hid (HP5.out.mod hx7 (fun e => e))
      have hh5l : w4.heap.size ≤ (w4.alloc (.cells #[.int .i64 p.kind, .int .i64 p.a, .int .i64 p.b, .int .i64 p.n, .slice A4 p.data.length c4] 26)).heap.size := by simp
      have HH7 := Lib.hid (HH5.out.later hx7 hh5l)
      have hs6 := hx7.size
      clear hh6 m6 hx7
      have hq3 := parseW (tb (32 :: s)) (by rw [tb_size, List.length_cons]; omega) _ (HE.out.later HM7.out)
      rw [tb_data, hp3, show tb (32 :: s) = ⟨#[32]⟩ ++ tb s from (tb_append [32] s).symm] at hq3
      have HQ3 := Lib.hid hq3
      clear hq3 hp3
      go_wp2_with fail
      refine HQ3.out.mono ?_
      rintro e w8 ⟨⟨dv8, rfl, hh8⟩, m8⟩
      obtain ⟨A8, c8, rfl⟩ : ∃ A c, dv8 = .slice A 0 c := by
        obtain ⟨A, c, h, _⟩ := hh8.form
        exact ⟨A, c, h⟩
      unfold opV zeroO
      have HM9 := Lib.hid ((HM7.out.trans m8 (fun _ _ e => e)).alloc (.cells #[.int .i64 0, .int .i64 0, .int .i64 0, .int .i64 0, .slice A8 0 c8] 26))
      have hx9 := m8.alloc (.cells #[.int .i64 0, .int .i64 0, .int .i64 0, .int .i64 0, .slice A8 0 c8] 26)
      have hB9 := (HB7.out.mod hx9 (fun e => e)).cell
      have hP9 := (HP7.out.mod hx9 (fun e => e)).cell
      have hs8 := hx9.size
      have HH9 := Lib.hid ((HH7.out.later hx9 (Nat.le_trans hh5l hs6)).more (Nat.le_trans hh5l (Nat.le_trans hs6 hs8)))
      have hb0 := hB9 0
      have hp0 := hP9 0
      have hp1 := hP9 1
      have hp2 := hP9 2
      have hp3 := hP9 3
      have hp4 := hP9 4
      simp only [List.getElem?_toArray, List.getElem?_cons_zero, List.getElem?_cons_succ] at hb0 hp0 hp1 hp2 hp3 hp4
      have htp := textW p (.slice A4 p.data.length c4) _ HH9.out (by omega) (HE.out.later HM9.out).pow
      rw [hnt] at htp
      unfold opV at htp
      have HTP := Lib.hid htp
      clear hh8 m8 hx9 htp hB9 hP9
      have hkq : (p.kind == o.kind) = true := by rw [HNK.out]; exact beq_self_eq_true _
      go_wp2_with fail
      refine HTP.out.mono ?_
      rintro e wa ⟨rfl, ma⟩
      have HMA := Lib.hid (HM9.out.trans ma (fun _ _ e => e))
      have HAW := Lib.hid (awakeW _ (HE.out.later HMA.out))
      clear ma hb0 hp0 hp1 hp2 hp3 hp4
      go_wp2_with fail
      refine HAW.out.mono ?_
      rintro e wb ⟨rfl, mb⟩
      have HMB := Lib.hid (HMA.out.trans mb (fun _ _ e => e))
      clear mb
      go_wp2_with fail
      go_ret
      exact ⟨rfl, HMB.out⟩
end Go.Proofs.YtpnicodjjbincaaDoor
