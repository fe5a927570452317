/- The contract of the program's Hex. -/
import Derived.Test.YtpnicodjjbincaaDoorSBldW
import Derived.Test.YtpnicodjjbincaaDoorSNumW
import Derived.Test.YtpnicodjjbincaaDoorRow2
namespace Go.Proofs.YtpnicodjjbincaaDoor
open Go.RowKit Go.Lib
set_option linter.unusedVariables false
set_option maxHeartbeats 2000000
set_option maxRecDepth 100000
/-- A byte's cell. -/
def encB (c : UInt8) : List Value := [.int .u8 (c.toNat : Int)]
theorem encB_len (c : UInt8) : (encB c).length = 1 := rfl
theorem dig_nat (k : Nat) (hk : k < 16) (h' : k < (⟨#[48, 49, 50, 51, 52, 53, 54, 55, 56, 57, 97, 98, 99, 100, 101, 102]⟩ : ByteArray).size) : (⟨#[48, 49, 50, 51, 52, 53, 54, 55, 56, 57, 97, 98, 99, 100, 101, 102]⟩ : ByteArray)[k]'h' = hexDigits.getD k 0 := by
  rcases (show k = 0 ∨ k = 1 ∨ k = 2 ∨ k = 3 ∨ k = 4 ∨ k = 5 ∨ k = 6 ∨ k = 7 ∨ k = 8 ∨ k = 9 ∨ k = 10 ∨ k = 11 ∨ k = 12 ∨ k = 13 ∨ k = 14 ∨ k = 15 by omega) with rfl | rfl | rfl | rfl | rfl | rfl | rfl | rfl | rfl | rfl | rfl | rfl | rfl | rfl | rfl | rfl <;> rfl
theorem dig_at (z : Int) (k : Nat) (hz : z = k) (hk : k < 16) (h' : z.toNat < (⟨#[48, 49, 50, 51, 52, 53, 54, 55, 56, 57, 97, 98, 99, 100, 101, 102]⟩ : ByteArray).size) : (⟨#[48, 49, 50, 51, 52, 53, 54, 55, 56, 57, 97, 98, 99, 100, 101, 102]⟩ : ByteArray)[z.toNat]'h' = hexDigits.getD k 0 := by
  subst hz
  exact dig_nat k hk h'
theorem byteCells_len (l : Tx) : (Lib.byteCells l).length = l.length := by simp [Lib.byteCells]
theorem byteCells_app (a b : Tx) : Lib.byteCells (a ++ b) = Lib.byteCells a ++ Lib.byteCells b := by simp [Lib.byteCells]
theorem flat_hex_len : ∀ l : Tx, (l.flatMap hexOf).length = 2 * l.length
  | [] => rfl
  | c :: l => by
    rw [List.flatMap_cons, List.length_append, flat_hex_len l]
    simp [hexOf]
    omega
theorem take_snoc {α : Type} {l : List α} {q : Nat} {c : α} (h : l[q]? = some c) : l.take (q + 1) = l.take q ++ [c] := by
  rw [List.take_add_one, h]
  rfl
theorem hexW (v : Value) (d : Tx) (w : World) (h : Has w w.heap.size 1 encB v d) (hl : d.length ≤ 1000000) :
    Calls Tryd.prog 35 #[v] w fun e w' => e = .returned (.string (tb (hexL d))) ∧ Mod (fun _ => False) w w' := by
  obtain ⟨A, cap, rfl, hcap⟩ := h.form
  by_cases hd : d = []
  · subst hd
    have hm := Mod.refl (fun _ => False) w
    have HM := Lib.hid hm
    clear hm h
    go_enter Tryd.func35, Tryd.ntmps35
    go_wp2_with fail
    go_ret
    exact ⟨rfl, HM.out⟩
  · have HH := Lib.hid h
    clear h
    have hn0 : d.length ≠ 0 := fun e => hd (List.eq_nil_of_length_eq_zero e)
    generalize hn : d.length = n at *
    have HN := Lib.hid hn
    have hz1 : ((n : Int) == 0) = false := by simpa using hn0
    have hz2 : ¬ (n : Int) = 0 := by omega
    have HB0 := Lib.hid (Lib.fresh_isBuilder 96 5 w)
    clear hn
    go_enter Tryd.func35, Tryd.ntmps35
    go_wp2_with fail
    go_loopw [11] (fun i wr => ∃ q : Nat, i = .int .i64 q ∧ q ≤ n ∧ Lib.IsBuilder 96 5 w.heap.size w.heap.size (Lib.byteCells ((d.take q).flatMap hexOf)) wr ∧ Below w.heap.size w wr) (fun i _ => n - (RowKit.intOf i).toNat)
    case atStart => exact ⟨0, rfl, by omega, HB0.out, (Below.refl _ w).alloc (Nat.le_refl _) _⟩
    case round =>
      obtain ⟨q, rfl, hq, hI, hb⟩ := hrel
      by_cases hqn : q < n
      · have hqx : q < d.length := by rw [HN.out]; exact hqn
        have hs? := List.getElem?_eq_getElem hqx
        obtain ⟨g, off, rfl, hg, c0⟩ := (HH.out.later (Mod.ofBelow hb) (Nat.le_refl _)).at_ encB_len hs?
        have c1 := c0 0 (by omega)
        generalize d[q]'hqx = c at *
        have c2 : wr.cell? ⟨g, off + q, none⟩ = some (.int .u8 (c.toNat : Int)) := by simpa [encB] using c1
        have hqz : (q : Int) < (n : Int) := by omega
        have HI := Lib.hid hI
        have HB := Lib.hid hb
        have hs2 := hs?
        clear c0 c1 hI hb hs?
        have hcb := c.toNat_lt
        have k1 : (0 : Int) ≤ (c.toNat : Int) / 16 ∧ (c.toNat : Int) / 16 < 16 := by omega
        have x1 := dig_at ((c.toNat : Int) / 16) (c.toNat / 16) (by omega) (by omega)
        have k2 : (0 : Int) ≤ (c.toNat : Int) % 16 ∧ (c.toNat : Int) % 16 < 16 := by omega
        have x2 := dig_at ((c.toNat : Int) % 16) (c.toNat % 16) (by omega) (by omega)
        have hlen : (d.take q).length = q := by rw [List.length_take, HN.out]; omega
        have hbl : (Lib.byteCells ((d.take q).flatMap hexOf)).length = 2 * q := by
          rw [byteCells_len, flat_hex_len, hlen]
        have hwq := HB.out.size
        go_wp2_with fail
        refine (writeByteW w.heap.size w.heap.size _ _ _ HI.out (by rw [hbl]; omega) hwq).mono ?_
        rintro e w1 ⟨rfl, hI1, hb1⟩
        have HI1 := Lib.hid hI1
        have HB1 := Lib.hid (HB.out.trans hb1)
        clear hI1 hb1
        have hwq1 := HB1.out.size
        go_wp2_with fail
        refine (writeByteW w.heap.size w.heap.size _ _ _ HI1.out (by rw [List.length_append, hbl]; simp; omega) hwq1).mono ?_
        rintro e w2 ⟨rfl, hI2, hb2⟩
        have hI3 : Lib.IsBuilder 96 5 w.heap.size w.heap.size (Lib.byteCells ((d.take (q + 1)).flatMap hexOf)) w2 := by
          rw [take_snoc hs2, List.flatMap_append, byteCells_app]
          simpa [Lib.byteCells, hexOf] using hI2
        have HI3 := Lib.hid hI3
        have HB3 := Lib.hid (HB1.out.trans hb2)
        clear hI2 hI3 hb2 x1 x2
        go_wp2_with fail
        go_roundw
        case rel => exact ⟨q + 1, by go_num, by omega, HI3.out, HB3.out⟩
        case measure => simp [RowKit.intOf]; omega
      · obtain rfl : n = q := by omega
        have hI2 : Lib.IsBuilder 96 5 w.heap.size w.heap.size (Lib.byteCells (hexL d)) wr := by
          unfold hexL
          rw [if_neg hd]
          rwa [List.take_of_length_le (by rw [HN.out]; exact Nat.le_refl _)] at hI
        have HS := Lib.hid (stringW w.heap.size w.heap.size _ wr hI2 hb.size)
        have HB := Lib.hid hb
        clear hI hI2 hb
        go_wp2_with fail
        refine HS.out.mono ?_
        rintro e w1 ⟨rfl, hb1⟩
        have HB1 := Lib.hid (HB.out.trans hb1)
        clear hb1
        go_wp2_with fail
        go_ret
        exact ⟨rfl, Mod.ofBelow HB1.out⟩
end Go.Proofs.YtpnicodjjbincaaDoor
