/- The walks of the law on full tables. -/
import Derived.Test.YtkfembhladjhdaaTabTU64
import Derived.Test.YtkfembhladjhdaaTabTInt
import Derived.Test.YtkfembhladjhdaaTabMInt
import Derived.Test.YtkfembhladjhdaaTabWStr
import Derived.OpenShut
namespace Go.Proofs.Ytkfembhladjhdaa
open Go.RowKit Go.ChangeShapes Go.WideShapes
set_option linter.unusedVariables false
set_option maxHeartbeats 2000000
set_option maxRecDepth 100000
theorem awakeW (w : World) :
    Calls Try.prog 6 #[] w fun e w' => e = .returned (.bool true) ∧ Mod (fun _ => False) w w' := by
  go_enter Try.func6, Try.ntmps6
  go_wp2_with fail
  refine (TabInt.newT 1 _ (by omega) (by omega)).mono ?_
  rintro e w1 ⟨bt, bs, rfl, h1, l1, l2, m1⟩
  go_wp2_with fail
  refine (TabStr.newNo 0 _ (by omega)).mono ?_
  rintro e w2 ⟨rfl, rfl⟩
  go_wp2_with fail
  refine (TabInt.putNewT _ _ _ _ _ 1 2 7 _ h1 rfl (by omega)).mono ?_
  rintro e w2 ⟨rfl, bq, hq, h2, m2⟩
  have hl := h2.lt
  have m3 : Mod (fun _ => False) w w2 := m1.trans m2 (fun i hi h => by omega)
  clear m1 m2 h1 hq
  go_wp2_with fail
  refine (TabInt.putFullT _ _ _ _ _ 1 3 8 _ h2 rfl (by omega)).mono ?_
  rintro e w3 ⟨rfl, m4⟩
  have h3 := h2.mod m4 (fun e => e) (fun e => e)
  have m5 := m3.trans m4 (fun _ _ h => h)
  clear m4 m3 h2
  go_wp2_with fail
  refine (TabInt.getT _ _ _ _ _ 1 2 _ h3).mono ?_
  rintro e w4 ⟨rfl, m6⟩
  have h4 := h3.mod m6 (fun e => e) (fun e => e)
  have m7 := m5.trans m6 (fun _ _ h => h)
  clear m6 m5 h3
  simp only [↓reduceIte, TabInt.val, Option.isSome_some]
  go_wp2_with fail
  obtain ⟨s, h5, _⟩ := h4
  refine (TabInt.mostW _ _ _ _ _ _ h5).mono ?_
  rintro e w5 ⟨rfl, rfl⟩
  go_wp2
  go_ret
  exact ⟨rfl, m7⟩
/-- The map behind so many puts. -/
def mF (step : Int) (c : Nat) (k : Int × Int) : Option Int := if k.2 % step = 0 ∧ 0 ≤ k.2 ∧ k.2 < c * step ∧ k.1 = (k.2 / step) % 8 then some k.2 else none
theorem mF_at {step : Int} (h : 1 ≤ step) (c i : Nat) : mF step c ((i : Int) % 8, (i : Int) * step) = if i < c then some ((i : Int) * step) else none := by
  unfold mF
  have h1 : (i : Int) * step % step = 0 := Int.mul_emod_left _ _
  have h2 : (i : Int) * step / step = i := Int.mul_ediv_cancel _ (by omega)
  have h3 : 0 ≤ (i : Int) * step := Int.mul_nonneg (by omega) (by omega)
  rw [h1, h2]
  by_cases hi : i < c
  · rw [if_pos hi, if_pos ⟨rfl, h3, Int.mul_lt_mul_of_pos_right (by omega) (by omega), rfl⟩]
  · rw [if_neg hi, if_neg]
    rintro ⟨_, _, h4, _⟩
    have := Int.mul_le_mul_of_nonneg_right (show (c : Int) ≤ (i : Int) by omega) (show 0 ≤ step by omega)
    simp only at h4
    omega
theorem mF_succ {step : Int} (h : 1 ≤ step) (c : Nat) : (fun k => if k = ((c : Int) % 8, (c : Int) * step) then some ((c : Int) * step) else mF step c k) = mF step (c + 1) := by
  funext k
  obtain ⟨p, i⟩ := k
  have h2 : (c : Int) * step / step = c := Int.mul_ediv_cancel _ (by omega)
  have h4 : ((c + 1 : Nat) : Int) * step = (c : Int) * step + step := by
    have : ((c + 1 : Nat) : Int) = (c : Int) + 1 := by omega
    rw [this, Int.add_mul, Int.one_mul]
  by_cases hk : (p, i) = ((c : Int) % 8, (c : Int) * step)
  · rw [if_pos hk, hk, mF_at h, if_pos (by omega)]
  · rw [if_neg hk]
    unfold mF
    simp only [h4]
    by_cases hm : i % step = 0 ∧ 0 ≤ i ∧ i < (c : Int) * step ∧ p = i / step % 8
    · obtain ⟨a, b, d, e⟩ := hm
      rw [if_pos ⟨a, b, d, e⟩, if_pos ⟨a, b, by omega, e⟩]
    · rw [if_neg hm, if_neg]
      rintro ⟨a, b, d, e⟩
      rcases Int.lt_or_le i ((c : Int) * step) with hlt | hge
      · exact hm ⟨a, b, hlt, e⟩
      · have h5 : i = i / step * step := (Int.ediv_mul_cancel (Int.dvd_of_emod_eq_zero a)).symm
        have h6 : i / step = c := by
          have h7 : (c : Int) ≤ i / step := (Int.le_ediv_iff_mul_le (by omega)).2 hge
          have h8 : i / step < (c : Int) + 1 := (Int.ediv_lt_iff_lt_mul (by omega)).2 (by rw [Int.add_mul, Int.one_mul]; exact d)
          omega
        apply hk
        rw [e, h6, h5, h6]
theorem mF_zero (step : Int) (h : 1 ≤ step) : mF step 0 = fun _ => none := by
  funext k
  unfold mF
  rw [if_neg]
  rintro ⟨_, a, b, _⟩
  simp at b
  omega
theorem walk_tableFull (most : Int) (w0 : (Lit.int .i64 most).wf = true) (step : Int) (w1 : (Lit.int .u64 step).wf = true) (w : World) :
    Calls Try.prog 3 #[.int .i64 most, .int .u64 step] w fun e w' => e = .returned (.bool true) ∧ Below w.heap.size w w' := by
  have hs0 := (bounds_u64 w1).1
  clear w0 w1
  by_cases hin : most < 1 ∨ 60 < most ∨ step < 1 ∨ 4294967296 < step
  · go_enter Try.func3, Try.ntmps3
    go_wp2_with (go_at_call 6; refine (awakeW _).mono ?_; rintro e w1 ⟨rfl, m1⟩)
    all_goals
      go_ret
      exact ⟨rfl, m1.below⟩
  · have a1 : 1 ≤ most := by omega
    have a2 : most ≤ 60 := by omega
    have a3 : 1 ≤ step := by omega
    have a4 : step ≤ 4294967296 := by omega
    clear hin hs0
    obtain ⟨mo, rfl⟩ : ∃ mo : Nat, most = mo := ⟨most.toNat, by omega⟩
    go_enter Try.func3, Try.ntmps3
    go_wp2_with fail
    refine (TabU64.newT mo _ (by omega) (by omega)).mono ?_
    rintro e w1 ⟨bt, bs, rfl, h1, l1, l2, m1⟩
    rw [← mF_zero step a3] at h1
    go_wp2_with fail
    go_loopw [7] (fun x wr => ∃ (i bs : Nat), x = .int .i64 i ∧ i ≤ mo + 3 ∧ TabU64.Tb wr bt bs mo (min i mo : Nat) (mF step (min i mo)) ∧ w.heap.size ≤ bs ∧ Mod (fun _ => False) w wr) (fun x _ => mo + 3 - (intOf x).toNat)
    case atStart => exact ⟨0, bs, rfl, by omega, by simpa using h1, l2, m1⟩
    case round =>
      obtain ⟨i, bs, rfl, hi, hT, hb, hM⟩ := hrel
      clear h1 m1 l2
      by_cases hlt : i < mo + 3
      · have hmul : IntKind.u64.wrap ((i : Int) * step) = (i : Int) * step := by
          have h1 : (i : Int) * step ≤ 63 * 4294967296 := Int.mul_le_mul (by omega) a4 (by omega) (by omega)
          have h2 : 0 ≤ (i : Int) * step := Int.mul_nonneg (by omega) (by omega)
          show (i : Int) * step % 18446744073709551616 = _
          exact Int.emod_eq_of_lt h2 (by omega)
        go_wp2_with fail
        by_cases him : i < mo
        · rw [show min i mo = i by omega] at hT
          refine (TabU64.putNewT _ _ _ _ _ _ _ _ _ (hT.mod ((Mod.refl (fun _ => False) wr).alloc _) (fun e => e) (fun e => e)) (by rw [mF_at a3, if_neg (by omega)]) (by omega)).mono ?_
          rintro e w2 ⟨rfl, bq, hbq, hT2, m2⟩
          have hl2 := hM.size
          have hbq' : w.heap.size ≤ bq := by have : wr.heap.size ≤ (wr.alloc (.cells #[.int .i64 ((i : Int) % 8), .int .u64 ((i : Int) * step)] 29)).heap.size := by simp
                                             omega
          have m3 : Mod (fun _ => False) w w2 := (hM.alloc _).trans m2 (fun k hk h => by omega)
          rw [mF_succ a3] at hT2
          clear hT m2 hM
          go_wp2
          go_roundw
          case rel => exact ⟨i + 1, bq, by go_num, by omega, by rw [show min (i + 1) mo = i + 1 by omega]; exact_mod_cast hT2, hbq', m3⟩
          case measure => simp [intOf]; omega
        · rw [show min i mo = mo by omega] at hT
          have hT1 := hT.mod ((Mod.refl (fun _ => False) wr).alloc (.cells #[.int .i64 ((i : Int) % 8), .int .u64 ((i : Int) * step)] 29)) (fun e => e) (fun e => e)
          refine (TabU64.putFullT _ _ _ _ _ _ _ _ _ hT1 (by rw [mF_at a3, if_neg (by omega)]) (by omega)).mono ?_
          rintro e w2 ⟨rfl, m2⟩
          have hT2 := hT1.mod m2 (fun e => e) (fun e => e)
          have m3 : Mod (fun _ => False) w w2 := (hM.alloc _).trans m2 (fun _ _ h => h)
          clear hT hT1 m2 hM
          go_wp2
          go_roundw
          case rel => exact ⟨i + 1, bs, by go_num, by omega, by rw [show min (i + 1) mo = mo by omega]; exact hT2, hb, m3⟩
          case measure => simp [intOf]; omega
      · obtain rfl : i = mo + 3 := by omega
        rw [show min (mo + 3) mo = mo by omega] at hT
        go_wp2_with fail
        go_loopw [10] (fun x wr => ∃ (i : Nat), x = .int .i64 i ∧ i ≤ mo + 3 ∧ TabU64.Tb wr bt bs mo mo (mF step mo) ∧ Mod (fun _ => False) w wr) (fun x _ => mo + 3 - (intOf x).toNat)
        case atStart => exact ⟨0, rfl, by omega, hT, hM⟩
        case round =>
          obtain ⟨i, rfl, hi, hT, hM⟩ := hrel
          by_cases hlt : i < mo + 3
          · have hmul : IntKind.u64.wrap ((i : Int) * step) = (i : Int) * step := by
              have h1 : (i : Int) * step ≤ 63 * 4294967296 := Int.mul_le_mul (by omega) a4 (by omega) (by omega)
              have h2 : 0 ≤ (i : Int) * step := Int.mul_nonneg (by omega) (by omega)
              show (i : Int) * step % 18446744073709551616 = _
              exact Int.emod_eq_of_lt h2 (by omega)
            go_wp2_with fail
            have hT1 := hT.mod ((Mod.refl (fun _ => False) wr).alloc (.cells #[.int .i64 ((i : Int) % 8), .int .u64 ((i : Int) * step)] 29)) (fun e => e) (fun e => e)
            have hK1 := Blk.new wr 29 #[.int .i64 ((i : Int) % 8), .int .u64 ((i : Int) * step)]
            refine (TabU64.getT _ _ _ _ _ _ _ _ hT1).mono ?_
            rintro e w2 ⟨rfl, m2⟩
            have hT2 := hT1.mod m2 (fun e => e) (fun e => e)
            have hK2 := (hK1.mod m2 (fun e => e)).cell
            have m3 : Mod (fun _ => False) w w2 := (hM.alloc _).trans m2 (fun _ _ h => h)
            rw [mF_at a3]
            clear hT hT1 m2 hM hK1
            by_cases him : i < mo
            · rw [if_pos him]
              simp only [TabU64.val, Option.isSome_some]
              go_wp2
              go_roundw
              case rel => exact ⟨i + 1, by go_num, by omega, hT2, m3⟩
              case measure => simp [intOf]; omega
            · rw [if_neg him]
              simp only [TabU64.val, Option.isSome_none]
              go_wp2
              go_roundw
              case rel => exact ⟨i + 1, by go_num, by omega, hT2, m3⟩
              case measure => simp [intOf]; omega
          · obtain rfl : i = mo + 3 := by omega
            go_wp2_with fail
            have hT1 := hT.mod ((Mod.refl (fun _ => False) wr).alloc (.cells #[.int .i64 0, .int .u64 0] 29)) (fun e => e) (fun e => e)
            have hK1 := Blk.new wr 29 #[.int .i64 0, .int .u64 0]
            have hM1 := hM.alloc (.cells #[.int .i64 0, .int .u64 0] 29)
            have e1 : mF step mo (0, 0) = some 0 := by
              have := mF_at (step := step) a3 mo 0
              simp only [Int.natCast_zero, Int.zero_mul] at this
              rw [if_pos (by omega)] at this
              exact this
            have e2 : mF step mo (7, 1152921504606846976) = none := by
              unfold mF
              rw [if_neg]
              rintro ⟨_, _, h, _⟩
              simp only at h
              have : (mo : Int) * step ≤ 60 * 4294967296 := Int.mul_le_mul (by omega) a4 (by omega) (by omega)
              omega
            have hsz := hM.size
            have hlt3 := hT.lt
            generalize World.alloc wr _ = wx at hT1 hK1 hM1 ⊢
            clear hT hM
            refine (TabU64.deleteT _ _ _ _ _ _ _ _ hT1 (by rw [e1]; rfl)).mono ?_
            rintro e w2 ⟨rfl, hT2, m2⟩
            have hl1 := hT1.lt
            have hK2 := hK1.mod m2 (by omega)
            have hM2 : Mod (fun _ => False) w w2 := hM1.trans m2 (fun k hk h => by omega)
            clear hT1 hK1 hM1 m2
            go_wp2_with fail
            refine (TabU64.putNewT _ _ _ _ _ 7 1152921504606846976 1 _ hT2 (by rw [if_neg (by simp)]; exact e2) (by omega)).mono ?_
            rintro e w3 ⟨rfl, bq, hbq, hT3, m3⟩
            have hl2 := hT2.lt
            have hK3 := hK2.mod m3 (by omega)
            have hKc := hK3.cell
            have hM3 : Mod (fun _ => False) w w3 := hM2.trans m3 (fun k hk h => by omega)
            clear hT2 hM2 m3 hK2
            go_wp2_with fail
            refine (TabU64.putFullT _ _ _ _ _ 0 0 1 _ hT3 (by rw [if_neg (by simp)]; rfl) (by omega)).mono ?_
            rintro e w4 ⟨rfl, m4⟩
            have hT4 := hT3.mod m4 (fun e => e) (fun e => e)
            have hM4 := hM3.trans m4 (fun _ _ h => h)
            rw [show (mo : Int) - 1 + 1 = mo by omega] at hT4
            clear hT3 hM3 m4
            go_wp2_with fail
            refine (TabU64.lenT _ _ _ _ _ _ hT4).mono ?_
            rintro e w5 ⟨rfl, rfl⟩
            go_wp2_with fail
            refine (awakeW _).mono ?_
            rintro e w5 ⟨rfl, m5⟩
            go_wp2
            go_ret
            exact ⟨rfl, (hM4.trans m5 (fun _ _ h => h)).below⟩
end Go.Proofs.Ytkfembhladjhdaa
