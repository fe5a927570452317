/- What the document fixes. -/
import Derived.Test.YtpnicodjjbincaaDoorSPrsW
import Derived.Test.YtpnicodjjbincaaDoorScrL
namespace Go.Proofs.YtpnicodjjbincaaDoor
open Go.RowKit
set_option linter.unusedVariables false
set_option maxHeartbeats 8000000
set_option maxRecDepth 100000
def hiT : Tx := [115, 117, 98, 109, 105, 116, 32, 48, 32, 49, 32, 54, 56, 54, 57]
def hi1T : Tx := [115, 117, 98, 109, 105, 116, 32, 48, 32, 48, 49, 32, 54, 56, 54, 57]
def hiO : OpT := ⟨1, 0, 1, 0, [104, 105]⟩
theorem dec0 : Lib.decDigits 0 = [48] := decDigits_small (by decide)
theorem dec1 : Lib.decDigits 1 = [49] := decDigits_small (by decide)
theorem hi_text : textO hiO = hiT := by
  have e : fieldsK 1 = [97, 98, 100] := rfl
  have e2 : wordK 1 = [115, 117, 98, 109, 105, 116] := rfl
  have f1 : fieldV hiO 97 = some [48] := by simp [fieldV, okNum, hiO, dec0]
  have f2 : fieldV hiO 98 = some [49] := by simp [fieldV, okNum, hiO, dec1]
  have f3 : fieldV hiO 100 = some [54, 56, 54, 57] := by
    have : hexL [104, 105] = [54, 56, 54, 57] := by decide
    simp [fieldV, hiO, this]
  unfold textO
  rw [if_pos (by decide), show hiO.kind.toNat = 1 from rfl, e, e2, textF_step, f1]
  simp only []
  rw [textF_step, f2]
  simp only []
  rw [textF_step, f3]
  rfl
theorem hi_par : parP hiT = (hiO, 0) := by
  have h := par_text (o := hiO) (by rw [hi_text]; decide)
  rw [hi_text] at h
  rw [h]
  rfl
theorem hi1_par : parP hi1T = (zeroO, 2) := by
  have e : parO hi1T = hiO := by kernel_rfl
  unfold parP
  rw [if_neg]
  rintro ⟨-, h⟩
  rw [e, hi_text] at h
  revert h
  decide
theorem idle_text : textO ⟨12, 0, 0, 0, []⟩ = [105, 100, 108, 101] := rfl
/-- Bytes that are only read, as a string. -/
theorem run_strH {P : Program} {w : World} {B : Nat} {e src dst : TypeId} {v : Value} {l : Tx} (hs : P.underlying src = some (.slice e)) (he : P.underlying e = some (.int .u8)) (hd : P.underlying dst = some .string)
    (h : Has w B 1 encB v l) : (convert src dst v).run P w = .ok (.string (tb l)) w := by
  rw [← strB]
  obtain ⟨A, cap, rfl, h1, h2, h3, h4⟩ := h
  by_cases hl : l = []
  · subst hl
    cases A with
    | none => exact run_convert_bytes_nil w src e hs he 0 cap dst hd
    | some a =>
      rw [run_convert_bytes_string w src dst e _ _ cap hs he hd]
      simp [Conv.bytesToString, strOfNums, loadCells, loadCellsFrom]
      rfl
  · have hl0 : 0 < l.length := List.length_pos_iff.2 hl
    obtain ⟨ad, rfl, hb, hc⟩ := h3.2 hl0
    obtain ⟨hsp, hbl⟩ := h4 ad rfl hl0
    obtain ⟨g, off, el⟩ := ad
    simp only at hsp
    subst hsp
    refine run_convert_bytes_arg w src e hs he g off l.length cap (l.map fun c => (c.toNat : Int)) (by simp) (fun i hi => ?_) dst hd
    have hi' : i < l.length := by simpa using hi
    have := hc i (.int .u8 ((l[i]'hi').toNat : Int)) (by rw [flatB]; simp [List.getElem?_eq_getElem hi'])
    simp only [Go.WideShapes.add_plain] at this
    rw [this]
    simp [List.getElem?_eq_getElem hi']
theorem awakeW (w : World) (E : Env w) : Calls Tryd.prog 7 #[] w fun e w' => e = .returned (.bool true) ∧ Mod (fun _ => False) w w' := by
  have HE := Lib.hid E
  clear E
  have hp1 : Calls Tryd.prog 8 #[.string ⟨#[115, 117, 98, 109, 105, 116, 32, 48, 32, 49, 32, 54, 56, 54, 57]⟩] w fun e w' => (∃ dv, e = .returned (.tuple #[.agg #[.int .i64 1, .int .i64 0, .int .i64 1, .int .i64 0, dv], .int .i64 0]) ∧ Has w' w'.heap.size 1 encB dv [104, 105]) ∧ Mod (fun _ => False) w w' := by
    have h := parseW (tb hiT) (by rw [tb_size]; decide) w HE.out
    rw [tb_data, hi_par] at h
    exact h
  have HP1 := Lib.hid hp1
  clear hp1
  go_enter Tryd.func7, Tryd.ntmps7
  go_wp2_with fail
  refine HP1.out.mono ?_
  rintro e w1 ⟨⟨dv, rfl, hh1⟩, m1⟩
  have HM1 := Lib.hid m1
  have hp2 : Calls Tryd.prog 8 #[.string ⟨#[115, 117, 98, 109, 105, 116, 32, 48, 32, 48, 49, 32, 54, 56, 54, 57]⟩] (w1.alloc (.cells #[.int .i64 1, .int .i64 0, .int .i64 1, .int .i64 0, dv] 26)) fun e w' => (∃ dv, e = .returned (.tuple #[.agg #[.int .i64 0, .int .i64 0, .int .i64 0, .int .i64 0, dv], .int .i64 2]) ∧ Has w' w'.heap.size 1 encB dv []) ∧ Mod (fun _ => False) (w1.alloc (.cells #[.int .i64 1, .int .i64 0, .int .i64 1, .int .i64 0, dv] 26)) w' := by
    have h := parseW (tb hi1T) (by rw [tb_size]; decide) (w1.alloc (.cells #[.int .i64 1, .int .i64 0, .int .i64 1, .int .i64 0, dv] 26)) (HE.out.later (m1.alloc _))
    rw [tb_data, hi1_par] at h
    exact h
  have HH1 := Lib.hid hh1
  have hb1 := Blk.new w1 26 #[.int .i64 1, .int .i64 0, .int .i64 1, .int .i64 0, dv]
  have HB1 := Lib.hid hb1
  have HP2 := Lib.hid hp2
  clear hp2 m1 hh1 hb1
  obtain ⟨A, cap, rfl⟩ : ∃ A cap, dv = .slice A 2 cap := by
    obtain ⟨A, cap, h, _⟩ := HH1.out.form
    exact ⟨A, cap, h⟩
  go_wp2_with fail
  refine HP2.out.mono ?_
  rintro e w2 ⟨⟨dv2, rfl, hh2⟩, m2⟩
  have hm2 := (HM1.out.alloc (.cells #[.int .i64 1, .int .i64 0, .int .i64 1, .int .i64 0, .slice A 2 cap] 26)).trans m2 (fun _ _ e => e)
  obtain ⟨A2, cap2, rfl⟩ : ∃ A cap, dv2 = .slice A 0 cap := by
    obtain ⟨A, cap, h, _⟩ := hh2.form
    exact ⟨A, cap, h⟩
  have hm3 := hm2.alloc (.cells #[.int .i64 0, .int .i64 0, .int .i64 0, .int .i64 0, .slice A2 0 cap2] 26)
  have hmx := m2.alloc (.cells #[.int .i64 0, .int .i64 0, .int .i64 0, .int .i64 0, .slice A2 0 cap2] 26)
  have hb2 := HB1.out.mod hmx (fun e => e)
  have hb2' := HB1.out.mod m2 (fun e => e)
  have hst := run_strH (dst := 9) Tryd.underlying22 Tryd.underlying5 Tryd.underlying9 ((HH1.out.later (Mod.refl _ w1) (Nat.le_refl _)).later ((((Mod.refl (fun _ => False) w1).alloc (.cells #[.int .i64 1, .int .i64 0, .int .i64 1, .int .i64 0, .slice A 2 cap] 26)).trans hmx (fun _ _ e => e))) (Nat.le_refl _))
  rw [show tb [104, 105] = ⟨#[104, 105]⟩ from rfl] at hst
  have c0 := hb2.cell 0
  have c2 := hb2.cell 2
  have c4 := hb2.cell 4
  have HM3 := Lib.hid hm3
  have HE3 := Lib.hid (HE.out.later hm3)
  have htx := textW ⟨12, 0, 0, 0, []⟩ (.slice none 0 0) _ Has.nil (by simp) HE3.out.pow
  rw [idle_text] at htx
  unfold opV at htx
  have hstE : (tb [105, 100, 108, 101]) = ⟨#[105, 100, 108, 101]⟩ := rfl
  rw [hstE] at htx
  have HTX := Lib.hid htx
  clear hh2 m2 hm2 hm3 hmx hb2 hb2' htx hstE
  go_wp2_with fail
  refine HTX.out.mono ?_
  rintro e w3 ⟨rfl, m3⟩
  have HM4 := Lib.hid (HM3.out.trans m3 (fun _ _ e => e))
  clear m3
  go_wp2_with fail
  go_ret
  exact ⟨rfl, HM4.out⟩
end Go.Proofs.YtpnicodjjbincaaDoor
