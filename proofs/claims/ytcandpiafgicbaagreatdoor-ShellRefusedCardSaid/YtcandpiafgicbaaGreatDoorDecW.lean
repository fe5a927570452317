/- The contract of the reference's Decimal. -/
import Derived.Test.YtcandpiafgicbaaGreatDoorRows
import Derived.Test.YtcandpiafgicbaaGreatDoorDecP
import Derived.Test.YtcandpiafgicbaaGreatDoorRow
import Derived.Test.YtcandpiafgicbaaGreatDoorReg
import Derived.WalkLawsBesides
import Derived.Outline
namespace Go.Proofs.YtcandpiafgicbaaGreatDoor
open Go.RowKit
set_option linter.unusedVariables false
set_option maxHeartbeats 2000000
set_option maxRecDepth 100000
theorem u8_info : (Tryz.prog.info? 5).map (fun i => (i.zero, i.size, i.bytes)) = some (some (.int .u8 0), 1, 1) := by kernel_rfl
/-- A slice's length. -/
def lenOf : Value → Nat | .slice _ n _ => n | _ => 0
theorem decimalW (n : Nat) (hn : n ≤ 9223372036854775807) (w : World) :
    Calls Tryz.prog 8 #[.int .i64 n] w fun e w' => e = .returned (.string (strOfNums (dec n))) ∧ Mod (fun _ => False) w w' := by
  obtain ⟨i0, hi0, hz0, hz1, hz2⟩ := info_parts u8_info
  have hn0 : (0 : Int) ≤ n := by omega
  generalize hD : dec n = D
  have hst : (n = 0 ∧ D = [48]) ∨ (digs 20 n = D ∧ n < 10 ^ 20 ∧ 0 < n) := by
    unfold dec at hD
    split at hD
    · left; exact ⟨by assumption, hD.symm⟩
    · right; exact ⟨hD, by omega, by omega⟩
  have hdl : D.length ≤ 20 := hD ▸ dec_len n
  clear hD
  have HST := Lib.hid hst
  clear hst
  go_enter Tryz.func8, Tryz.ntmps8
  go_wp2
  go_loopw [3, 5] (fun x v wr => ∃ (u : Nat) (m : Nat) (xs : List Int), x = .int .u64 u ∧ u ≤ 9223372036854775807 ∧ wr.ownsRow 0 5 1 v m (xs.map (Value.int .u8)) ∧ (∀ k, v.ownBlock = some k → w.heap.size ≤ k) ∧ Mod (fun _ => False) w wr ∧ m = xs.length ∧
      Hid ((xs = [] ∧ u = 0 ∧ D = [48]) ∨ (∃ f, f ≤ 20 ∧ digs f u ++ xs = D ∧ u < 10 ^ f ∧ (xs = [] → 0 < u)))) (fun x v _ => (intOf x).toNat + (1 - lenOf v))
  case atStart =>
    refine ⟨n, 0, [], rfl, hn, World.ownsRow_nil _ _ _ _, fun k h => by simp [Value.ownBlock] at h, Mod.refl _ _, rfl, ?_⟩
    rcases HST.out with h | ⟨h1, h2, h3⟩
    · exact .inl ⟨rfl, h.1, h.2⟩
    · exact .inr ⟨20, Nat.le_refl _, by simpa using h1, h2, fun _ => h3⟩
  case round =>
    obtain ⟨u, m, xs, rfl, hu, hown, hfr, hM, rfl, hrel⟩ := hrel
    have hlen : xs.length ≤ 20 := by
      rcases hrel.out with h | ⟨f, h0, h1, h2, h3⟩
      · rw [h.1]; simp
      · rw [← h1] at hdl; simp at hdl; omega
    obtain ⟨A, cap, rfl⟩ : ∃ A cap, u5 = .slice A xs.length cap := by
      rcases hown.2 with ⟨h, h2⟩ | ⟨g, cap, cur, h, _⟩
      · exact ⟨none, 0, by rw [h, h2]⟩
      · exact ⟨_, cap, h⟩
    have hrd : Reads (wr.alloc (.cells #[.int .u8 (48 + (u : Int) % 10)] 5)) wr.heap.size 1 A xs.length (xs.map (Value.int .u8)) := (Reads.of_own hown).alloc (Nat.le_refl _) _
    have h1c : ∀ y ∈ xs.map (Value.int .u8), y.oneCell' = true := by
      intro y hy
      simp only [List.mem_map] at hy
      obtain ⟨z, _, rfl⟩ := hy
      rfl
    have HRD := Lib.hid hrd
    have H1C := Lib.hid h1c
    clear hrd h1c
    by_cases hu0 : 0 < u
    · have hnx : ∃ f, f ≤ 20 ∧ digs f (u / 10) ++ ((48 + (u : Int) % 10) :: xs) = D ∧ u / 10 < 10 ^ f := by
        rcases hrel.out with h | ⟨f, h0, h1, h2, h3⟩
        · omega
        · cases f with
          | zero => simp at h2; omega
          | succ f =>
            rw [digs_succ (by omega), List.append_assoc] at h1
            refine ⟨f, by omega, ?_, by rw [Nat.pow_succ] at h2; omega⟩
            rw [← h1]
            simp
      have HNX := Lib.hid hnx
      clear hrel hnx
      go_wp2_with (at_builtin
                   refine wpList_append_any _ rfl (.tmp 23) (.tmp 24) _ rfl 0 5 i0 _ 1 1 Tryz.underlying37 hi0 hz0 hz1 hz2 rfl (by omega) (.slice (some ⟨wr.heap.size, 0, none⟩) 1 1) 1 [.int .u8 (48 + (u : Int) % 10)] rfl (World.ownsRow_lit (base := 0) (size := 1) (e := 5) wr #[.int .u8 (48 + (u : Int) % 10)] 1 (Nat.zero_le _) (by decide) rfl) _ A xs.length cap (xs.map (Value.int .u8)) rfl HRD.out H1C.out (by simp only [maxLen]; omega) (by omega) (Nat.zero_le _) ?_
                   intro v' w' hown' hgr' hat')
      go_roundw
      case rel =>
        refine ⟨u / 10, 1 + xs.length, (48 + (u : Int) % 10) :: xs, by go_num, by omega, hown', fun k hk => ?_, (hM.alloc _).trans (Mod.ofGrown hgr') (fun k hk h => ?_), by simp; omega, ?_⟩
        · rcases hat' with e | e <;> rw [e] at hk <;> simp [Value.ownBlock] at hk <;> subst hk <;> have := hM.size <;> omega
        · simp [Value.ownBlock] at h
          have := hM.size
          omega
        · obtain ⟨f, f1, f2, f3⟩ := HNX.out
          exact .inr ⟨f, f1, f2, f3, fun e => by cases e⟩
      case measure =>
        obtain ⟨g', c', e', _⟩ := hown'.form (by omega)
        rw [e']
        simp [intOf, lenOf]; omega
    · by_cases hx0 : xs = []
      · have hxl : ((xs.length : Int) == 0) = true := by rw [hx0]; rfl
        have hnx : ∃ f, f ≤ 20 ∧ digs f (u / 10) ++ ((48 + (u : Int) % 10) :: xs) = D ∧ u / 10 < 10 ^ f := by
          rcases hrel.out with h | ⟨f, h0, h1, h2, h3⟩
          · refine ⟨0, by omega, ?_, by omega⟩
            rw [h.1, h.2.1, h.2.2]; rfl
          · have := h3 hx0; omega
        have HNX := Lib.hid hnx
        have HX0 := Lib.hid hx0
        clear hrel hnx hx0
        go_wp2_with (at_builtin
                     refine wpList_append_any _ rfl (.tmp 23) (.tmp 24) _ rfl 0 5 i0 _ 1 1 Tryz.underlying37 hi0 hz0 hz1 hz2 rfl (by omega) (.slice (some ⟨wr.heap.size, 0, none⟩) 1 1) 1 [.int .u8 (48 + (u : Int) % 10)] rfl (World.ownsRow_lit (base := 0) (size := 1) (e := 5) wr #[.int .u8 (48 + (u : Int) % 10)] 1 (Nat.zero_le _) (by decide) rfl) _ A xs.length cap (xs.map (Value.int .u8)) rfl HRD.out H1C.out (by simp only [maxLen]; omega) (by omega) (Nat.zero_le _) ?_
                     intro v' w' hown' hgr' hat')
        go_roundw
        case rel =>
          refine ⟨u / 10, 1 + xs.length, (48 + (u : Int) % 10) :: xs, by go_num, by omega, hown', fun k hk => ?_, (hM.alloc _).trans (Mod.ofGrown hgr') (fun k hk h => ?_), by simp; omega, ?_⟩
          · rcases hat' with e | e <;> rw [e] at hk <;> simp [Value.ownBlock] at hk <;> subst hk <;> have := hM.size <;> omega
          · simp [Value.ownBlock] at h
            have := hM.size
            omega
          · obtain ⟨f, f1, f2, f3⟩ := HNX.out
            exact .inr ⟨f, f1, f2, f3, fun e => by cases e⟩
        case measure =>
          have hl0 : xs.length = 0 := by rw [HX0.out]; rfl
          obtain ⟨g', c', e', _⟩ := hown'.form (by omega)
          rw [e']
          simp [intOf, lenOf, hl0]; try omega

      · have hxl : ((xs.length : Int) == 0) = false := by
          rw [beq_eq_false_iff_ne]
          intro h
          exact hx0 (List.eq_nil_of_length_eq_zero (by omega))
        have hfin : xs = D := by
          rcases hrel.out with h | ⟨f, h0, h1, h2, h3⟩
          · exact absurd h.1 hx0
          · rw [show u = 0 by omega, digs_zero] at h1; exact h1
        have hcv := run_string_own (P := Tryz.prog) (dst := 9) Tryz.underlying37 Tryz.underlying5 Tryz.underlying9 hown
        rw [show strOfNums xs = strOfNums D by rw [hfin]] at hcv
        clear hrel hfin hx0
        have hts : (strOfNums D).size ≤ 20 := by rw [strOfNums_size]; exact hdl
        have htn : ¬ ((9223372036854775807 : Int) < ((⟨#[]⟩ : ByteArray).size : Int) + ((strOfNums D).size : Int)) := by
          have : ((⟨#[]⟩ : ByteArray).size : Int) = 0 := rfl
          omega
        have hcat : (⟨#[]⟩ : ByteArray) ++ strOfNums D = strOfNums D := by
          apply ByteArray.ext
          simp [ByteArray.data_append]
        go_wp2
        go_ret
        exact ⟨rfl, hM⟩
end Go.Proofs.YtcandpiafgicbaaGreatDoor
