/- The contract of the reference's Num. -/
import Derived.Test.YtpnicodjjbincaaDoorScrP
import Derived.Test.YtpnicodjjbincaaDoorDecW
namespace Go.Proofs.YtpnicodjjbincaaDoor
open Go.RowKit Go.Lib
set_option linter.unusedVariables false
set_option maxHeartbeats 4000000
set_option maxRecDepth 100000
theorem data_len (s : ByteArray) : s.data.toList.length = s.size := by rw [Array.length_toList]; rfl
theorem str_at {s : ByteArray} {q : Nat} (h : q < s.size) : ∃ c : UInt8, s.data.toList.drop q = c :: s.data.toList.drop (q + 1) ∧ ∀ h', s[q]'h' = c := by
  have hl : q < s.data.toList.length := by rw [data_len]; exact h
  exact ⟨s.data.toList[q], List.drop_eq_getElem_cons hl, fun h' => by rw [Array.getElem_toList]; rfl⟩
theorem str_end {s : ByteArray} {q : Nat} (h : s.size ≤ q) : s.data.toList.drop q = [] := List.drop_eq_nil_of_le (by rw [data_len]; exact h)
theorem str_empty {s : ByteArray} (h : s.data.toList = []) : s.toList.isEmpty = true ∧ s.toList = [] := by
  rw [ByteArray.toList_eq, h]
  exact ⟨rfl, rfl⟩
theorem str_some {s : ByteArray} (h : s.data.toList ≠ []) : s.toList.isEmpty = false ∧ ¬ s.toList = [] := by
  rw [ByteArray.toList_eq]
  cases hs : s.data.toList with
  | nil => exact absurd hs h
  | cons c r => exact ⟨rfl, fun e => by cases e⟩
theorem str_same {a b : ByteArray} (h : a.data.toList = b.data.toList) : (a.toList == b.toList) = true := by
  rw [ByteArray.toList_eq, ByteArray.toList_eq, h]
  exact beq_self_eq_true _
theorem str_other {a b : ByteArray} (h : a.data.toList ≠ b.data.toList) : (a.toList == b.toList) = false := by
  rw [ByteArray.toList_eq, ByteArray.toList_eq]
  exact beq_eq_false_iff_ne.2 h
theorem numLoop_bd : ∀ (high : Int) (l : Tx) (n v : Int), 9 ≤ high → 0 ≤ n → n ≤ high → numLoop high n l = some v → 0 ≤ v ∧ v ≤ high
  | high, [], n, v, h9, h0, h1, h => by
    simp only [numLoop] at h
    injection h with h
    omega
  | high, c :: r, n, v, h9, h0, h1, h => by
    unfold numLoop numStep at h
    simp only [] at h
    split at h
    · cases h
    · rename_i m hm
      split at hm
      · cases hm
      · rename_i hc
        injection hm with hm
        refine numLoop_bd high r m v h9 ?_ ?_ h
        · omega
        · have : n ≤ (high - ((c.toNat : Int) - 48)).tdiv 10 := by omega
          rw [Int.tdiv_eq_ediv_of_nonneg (by omega)] at this
          omega
theorem numLoop_step {high v : Int} {c : UInt8} {r : Tx} {B : Option Int} (h : numLoop high v (c :: r) = B) :
    (if (c.toNat : Int) - 48 < 0 ∨ 9 < (c.toNat : Int) - 48 ∨ v > (high - ((c.toNat : Int) - 48)).tdiv 10 then none else numLoop high (10 * v + ((c.toNat : Int) - 48)) r) = B := by
  have e : numLoop high v (c :: r) = match numStep high v c with
    | none => none
    | some m => numLoop high m r := rfl
  rw [← h, e]
  unfold numStep
  simp only []
  split <;> rfl
theorem digs_text : ∀ (f u : Nat), 0 < u → u < 10 ^ f → (digs f u).map (fun n => UInt8.ofNat n.toNat) = decDigits u
  | 0, u, h0, h1 => by simp at h1; omega
  | f + 1, u, h0, h1 => by
    have hm : UInt8.ofNat (48 + ((u % 10 : Nat) : Int)).toNat = UInt8.ofNat (48 + u % 10) := by
      congr 1
    rw [digs_succ (by omega), List.map_append, List.map_singleton, hm]
    by_cases hu : u < 10
    · rw [decDigits_small hu, show u / 10 = 0 by omega, digs_zero, show u % 10 = u by omega]
      rfl
    · rw [decDigits_big hu, digs_text f (u / 10) (by omega) (by rw [Nat.pow_succ] at h1; omega)]
/-- The reference's digits are the library's. -/
theorem dec_text (u : Nat) (hu : u < 10 ^ 20) : (strOfNums (dec u)).data.toList = decDigits u := by
  rw [strOfNums_data]
  unfold dec
  split
  · rename_i h
    subst h
    decide +kernel
  · exact digs_text 20 u (by omega) hu
theorem numRW (s : ByteArray) (high : Int) (h0 : 1000 ≤ high) (h1 : high ≤ 1152921504606846976) (hs : s.size ≤ 9223372036854775807) (w : World) :
    Calls Tryd.prog 33 #[.string s, .int .i64 high] w fun e w' => e = .returned (.int .i64 (numR high s.data.toList)) ∧ Mod (fun _ => False) w w' := by
  generalize hR : numR high s.data.toList = R
  have HR := Lib.hid hR
  clear hR
  by_cases hemp : s.data.toList = []
  · have : R = -1 := by rw [← HR.out]; unfold numR; rw [if_pos (.inl hemp)]
    subst this
    obtain ⟨hse, hse2⟩ := str_empty hemp
    go_enter Tryd.func33, Tryd.ntmps33
    go_wp2
    go_ret
    exact ⟨rfl, Mod.refl _ _⟩
  · obtain ⟨hse, hse2⟩ := str_some hemp
    by_cases hlong : 19 < s.size
    · have hlz : (19 : Int) < (s.size : Int) := by omega
      have : R = -1 := by rw [← HR.out]; unfold numR; rw [if_pos (.inr (by rw [data_len]; exact hlong))]
      subst this
      go_enter Tryd.func33, Tryd.ntmps33
      go_wp2
      go_ret
      exact ⟨rfl, Mod.refl _ _⟩
    · have hlz : decide ((19 : Int) < (s.size : Int)) = false := by simp; omega
      have hlz2 : ¬ (19 : Int) < (s.size : Int) := by omega
      have hR2 : R = numEnd s.data.toList (numLoop high 0 s.data.toList) := by
        rw [← HR.out]
        unfold numR
        rw [if_neg (fun e => e.elim hemp fun h => hlong (by rw [data_len] at h; exact h))]
      have HR2 := Lib.hid hR2
      generalize hB : numLoop high 0 s.data.toList = B at hR2
      have HB := Lib.hid hB
      clear hR2 hB HR hemp
      go_enter Tryd.func33, Tryd.ntmps33
      go_wp2
      go_loopw [5, 6] (fun n i wr => ∃ (q : Nat) (v : Int), i = .int .i64 q ∧ n = .int .i64 v ∧ q ≤ s.size ∧ 0 ≤ v ∧ v ≤ high ∧ Hid (numLoop high v (s.data.toList.drop q) = B) ∧ wr = w) (fun _ i _ => s.size - (intOf i).toNat)
      case atStart => exact ⟨0, 0, rfl, rfl, by omega, by omega, by omega, HB, rfl⟩
      case round =>
        obtain ⟨q, v, rfl, rfl, hq, v0, v1, hB, rfl⟩ := hrel
        by_cases hqs : q < s.size
        · obtain ⟨c, hd, hc⟩ := str_at hqs
          have hqz : (q : Int) < (s.size : Int) := by omega
          have hqz0 : (0 : Int) ≤ (q : Int) := by omega
          rw [hd] at hB
          have hcb := c.toNat_lt
          generalize hcn : (c.toNat : Int) = cn at *
          have w1 : IntKind.i64.wrap cn = cn := by rw [IntKind.wrap_i64]; omega
          have w2 : IntKind.i64.wrap (cn - 48) = cn - 48 := by rw [IntKind.wrap_i64]; omega
          have w3 : IntKind.i64.wrap (high - (cn - 48)) = high - (cn - 48) := by rw [IntKind.wrap_i64]; omega
          have w4 : IntKind.i64.wrap ((high - (cn - 48)).tdiv 10) = (high - (cn - 48)).tdiv 10 := by
            rw [IntKind.wrap_i64]
            rw [Int.tdiv_eq_ediv_of_nonneg (by omega)]
            omega
          have hst := numLoop_step hB.out
          clear hB
          by_cases hbad : cn - 48 < 0 ∨ 9 < cn - 48 ∨ v > (high - (cn - 48)).tdiv 10
          · rw [hcn, if_pos hbad] at hst
            have : R = -1 := by rw [HR2.out, HB.out, ← hst]; rfl
            subst this
            have HM := Lib.hid (Mod.refl (fun _ => False) wr)
            clear hst
            by_cases k1 : cn - 48 < 0
            · go_wp2_with fail
              go_ret
              exact ⟨rfl, HM.out⟩
            · have k1' : decide (cn - 48 < 0) = false := by simpa using k1
              by_cases k2 : 9 < cn - 48
              · go_wp2_with fail
                go_ret
                exact ⟨rfl, HM.out⟩
              · have k2' : decide (9 < cn - 48) = false := by simpa using k2
                have k3 : (high - (cn - 48)).tdiv 10 < v := by omega
                go_wp2_with fail
                go_ret
                exact ⟨rfl, HM.out⟩
          · rw [hcn, if_neg hbad] at hst
            have HST := Lib.hid hst
            have k1 : ¬ cn - 48 < 0 := by omega
            have k1' : decide (cn - 48 < 0) = false := by simpa using k1
            have k2 : ¬ 9 < cn - 48 := by omega
            have k2' : decide (9 < cn - 48) = false := by simpa using k2
            have k3 : ¬ (high - (cn - 48)).tdiv 10 < v := by omega
            have k3' : decide ((high - (cn - 48)).tdiv 10 < v) = false := by simpa using k3
            have k4 : v ≤ (high - (cn - 48)) / 10 := by
              rw [← Int.tdiv_eq_ediv_of_nonneg (by omega)]
              omega
            have w5 : IntKind.i64.wrap (10 * v) = 10 * v := by rw [IntKind.wrap_i64]; omega
            have w6 : IntKind.i64.wrap (10 * v + (cn - 48)) = 10 * v + (cn - 48) := by rw [IntKind.wrap_i64]; omega
            have K4 := Lib.hid k4
            clear hst k4 hbad
            go_wp2_with fail
            go_roundw
            case rel =>
              have := K4.out
              exact ⟨q + 1, 10 * v + (cn - 48), by go_num, rfl, by omega, by omega, by omega, HST, trivial⟩
            case measure => simp [intOf]; omega
        · have hqz : ¬ (q : Int) < (s.size : Int) := by omega
          rw [str_end (by omega)] at hB
          have hb2 : B = some v := hB.out.symm
          rw [HB.out, hb2] at HR2
          have hdec := decimalW v.toNat (by omega) wr
          rw [show ((v.toNat : Nat) : Int) = v by omega] at hdec
          have HDEC := Lib.hid hdec
          have hR3 : R = if decDigits v.toNat = s.data.toList then v else -1 := HR2.out
          have HR3 := Lib.hid hR3
          clear hdec hb2 HR2 hR3 hB HB
          go_wp2_with fail
          refine HDEC.out.mono ?_
          rintro e w1 ⟨rfl, m1⟩
          have M1 := Lib.hid m1
          clear m1
          by_cases he : decDigits v.toNat = s.data.toList
          · have hb := str_same (a := strOfNums (dec v.toNat)) (b := s) (by rw [dec_text _ (by omega)]; exact he)
            have hrr : R = v := by rw [HR3.out, if_pos he]
            subst hrr
            clear he
            go_wp2_with fail
            go_ret
            exact ⟨rfl, M1.out⟩
          · have hb := str_other (a := strOfNums (dec v.toNat)) (b := s) (by rw [dec_text _ (by omega)]; exact he)
            have hrr : R = -1 := by rw [HR3.out, if_neg he]
            subst hrr
            clear he
            go_wp2_with fail
            go_ret
            exact ⟨rfl, M1.out⟩
end Go.Proofs.YtpnicodjjbincaaDoor
