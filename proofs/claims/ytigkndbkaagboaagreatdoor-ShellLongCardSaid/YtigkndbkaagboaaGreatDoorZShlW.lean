/- The walk of ShellLong. -/
import Derived.Test.YtigkndbkaagboaaGreatDoorLLinW
import Derived.Test.YtigkndbkaagboaaGreatDoorZShlA
import Derived.Test.YtigkndbkaagboaaGreatDoorTeE
import Derived.Lib.AppendStr
namespace Go.Proofs.YtigkndbkaagboaaGreatDoor
open Go.RowKit
set_option linter.unusedVariables false
set_option linter.unusedSimpArgs false
set_option maxHeartbeats 4000000
set_option maxRecDepth 100000
open Go.Proofs.YtigkndbkaagboaaGreatDoor.Ev in
theorem ans2_runs : (match runF 63 [.int .i64 2, .string ⟨#[]⟩] S0 with | some (v, _) => veq v (.string ⟨#[101, 114, 114, 111, 114, 32, 50]⟩) | none => false) = true := by kernel_rfl
open Go.Proofs.YtigkndbkaagboaaGreatDoor.Ev in
theorem ans2W (w : World) (hp : Pow w) : Calls Tryz.prog 63 #[.int .i64 2, .string ⟨#[]⟩] w fun e w' => e = .returned (.string ⟨#[101, 114, 114, 111, 114, 32, 50]⟩) ∧ Mod (fun _ => False) w w' := by
  have h := ans2_runs
  generalize hr : runF 63 [.int .i64 2, .string ⟨#[]⟩] S0 = q at h
  cases q with
  | none => cases h
  | some p =>
    obtain ⟨v, S⟩ := p
    obtain rfl := veq_eq h
    exact (closed_callA (Checked.mixed Tryz.checked) prE_ok tab_ok 5000 hr rfl rfl w (gl_of_pow hp)).mono fun _ _ ⟨h1, h2⟩ => ⟨h1, Mod.ofBelow h2⟩
theorem lin_err (xs : Tx) : (linP xs).2 = 0 ∨ (linP xs).2 = 2 := by
  unfold linP
  split
  · exact .inr rfl
  · exact .inl rfl
theorem playBad (tx : Tx) (hs : tx.length ≤ 1000000) (hb : (linP tx).2 = 2) (w : World) (E : EnvT w) :
    Calls Tryz.prog 22 #[.string (tb tx)] w fun e w' => e = .returned (.string ⟨#[101, 114, 114, 111, 114, 32, 50, 10]⟩) ∧ Mod (fun _ => False) w w' := by
  have hc := linesW tx hs w E.maxl
  rw [hb] at hc
  have HC := Lib.hid hc
  have HE := Lib.hid E
  clear hc hb E
  go_enter Tryz.func22, Tryz.ntmps22
  go_wp2_with fail
  refine HC.out.mono ?_
  rintro e w1 ⟨⟨v1, rfl, h1⟩, m1⟩
  have HM1 := Lib.hid m1
  have HC2 := Lib.hid (ans2W w1 (HE.out.pow.later m1))
  clear h1 m1
  go_wp2_with fail
  refine HC2.out.mono ?_
  rintro e w2 ⟨rfl, m2⟩
  have HM2 := Lib.hid (HM1.out.trans m2 (fun _ _ e => e))
  clear m2
  go_wp2_with fail
  go_ret
  exact ⟨rfl, HM2.out⟩
theorem flatB (l : List UInt8) : l.flatMap encB = Lib.byteCells l := by
  induction l with
  | nil => rfl
  | cons c l ih => rw [List.flatMap_cons, ih]; rfl
theorem conv_own {W : World} {B cb : Nat} {Ab : Option Addr} {xs : Tx} (h : Own W B 5 1 encB (.slice Ab xs.length cb) xs) : (convert 65 9 (.slice Ab xs.length cb)).run Tryz.prog W = .ok (.string (tb xs)) W := by
  obtain ⟨A, cap, e, hcap, hA⟩ := h.form
  injection e with e1 e2 e3
  subst e1 e3
  rcases hA with ⟨rfl, rfl, rfl⟩ | ⟨g, rfl, _, _⟩
  · show (convert 65 9 (.slice none 0 0)).run Tryz.prog W = _
    rw [run_convert_bytes_string W _ _ 5 none 0 0 Tryz.underlying65 Tryz.underlying5 Tryz.underlying9]
    rfl
  · exact run_convert_bytes_back (P := Tryz.prog) W 65 9 5 ⟨g, 0, none⟩ cb xs Tryz.underlying65 Tryz.underlying5 Tryz.underlying9 (fun j hj => by
      have := h.cell encB_len (List.getElem?_eq_getElem hj) (j := 0) (by omega)
      rw [Nat.mul_one, Nat.add_zero] at this
      have e : ((⟨g, 0, none⟩ : Addr).add j) = ⟨g, j, none⟩ := by
        unfold Addr.add
        by_cases hj : j = 0
        · subst hj; simp
        · simp [hj]
      rw [e]
      exact this)
theorem walk_long (s : ByteArray) (n : Int) (w : World) (E : EnvT w) (h0 : s.data.toList ≠ []) (h1 : s.size ≤ 200) (n0 : 0 ≤ n) (n1 : n ≤ 300000) :
    Calls Tryz.prog 6 #[.string s, .int .i64 n] w fun e w' => e = .returned (.bool true) ∧ Mod (fun _ => False) w w' := by
  obtain ⟨i0, hi0, hz0, hz1, hz2⟩ := info_parts u8_info
  obtain ⟨e1, e2⟩ := str_some h0
  have hsp : 0 < s.size := by
    rw [← data_len]
    exact List.length_pos_iff.2 h0
  have hs200 : ¬ (200 : Int) < (s.size : Int) := by omega
  have HE := Lib.hid E
  clear h0 E
  go_enter Tryz.func6, Tryz.ntmps6
  go_wp2_with fail
  go_loopw [5] (fun v wr => ∃ xs : Tx, Own wr w.heap.size 5 1 encB v xs ∧ (xs.length : Int) ≤ n + 200 ∧ Mod (fun _ => False) w wr) (fun v _ => n.toNat + 400 - lenOf v)
  case atStart => exact ⟨[], Own.nil, by simp; omega, Mod.refl _ _⟩
  case round =>
    obtain ⟨xs, hown, hxl, hm⟩ := hrel
    obtain ⟨Ab, cb, rfl, hcb, -⟩ := hown.form
    by_cases hlt : (xs.length : Int) < n
    · have HRW := Lib.hid (show wr.ownsRow w.heap.size 5 1 (.slice Ab xs.length cb) xs.length (xs.flatMap encB) from hown)
      have hbase : ∀ z, (Value.slice Ab xs.length cb).ownBlock = some z → w.heap.size ≤ z := fun z e => hown.base e
      have HBA := Lib.hid hbase
      have HM := Lib.hid hm
      have hsz := hm.size
      clear hown hm hbase
      go_wp2_with (at_builtin
                   refine Lib.wpList_append_own_string _ rfl (.tmp 28) (.tmp 29) 65 9 rfl w.heap.size 5 i0 Tryz.underlying65 Tryz.underlying9 hi0 hz0 hz1 hz2 (.slice Ab xs.length cb) xs.length (xs.flatMap encB) rfl HRW.out s rfl (by simp only [maxLen]; omega) (by omega) hsz ?_
                   intro v2 w9 hown2 hgr2 hat2
                   have hown3 : Own w9 w.heap.size 5 1 encB v2 (xs ++ s.data.toList) := by
                     unfold Own
                     rw [List.length_append, data_len, List.flatMap_append, flatB s.data.toList]
                     exact hown2
                   have m9 := HM.out.trans (Mod.ofGrown hgr2) (fun z hz e => by have := HBA.out z e; omega)
                   obtain ⟨A9, c9, rfl, -, -⟩ := hown3.form
                   have M9 := Lib.hid m9
                   have HO9 := Lib.hid hown3
                   clear hown2 hgr2 hat2 hown3 m9)
      go_wp2_with fail
      go_roundw
      case rel => exact ⟨xs ++ s.data.toList, by have h := HO9.out; rw [List.length_append, data_len] at h; exact h, by rw [List.length_append, data_len]; omega, M9.out⟩
      case measure => simp only [lenOf, List.length_append, data_len]; omega
    · have hcv := conv_own hown
      have hl : xs.length ≤ 1000000 := by omega
      have hc := linesRW (tb xs) (by rw [tb_size]; omega) wr
      rw [tb_data] at hc
      have HC := Lib.hid hc
      have HO := Lib.hid hown
      have HM := Lib.hid hm
      rcases lin_err xs with hz | hz
      · rw [hz] at hc
        have HC := Lib.hid hc
        clear hown hm hc
        go_wp2_with fail
        refine HC.out.mono ?_
        rintro e w2 ⟨⟨v2, rfl, h2⟩, m2⟩
        have HM2 := Lib.hid (HM.out.trans m2 (fun _ _ e => e))
        have HA := Lib.hid (awakeShl w2 (HE.out.pow.later HM2.out))
        clear h2 m2
        go_wp2_with fail
        refine HA.out.mono ?_
        rintro e w3 ⟨rfl, m3⟩
        have HM3 := Lib.hid (HM2.out.trans m3 (fun _ _ e => e))
        clear m3
        go_wp2_with fail
        go_ret
        exact ⟨rfl, HM3.out⟩
      · have HZ := Lib.hid hz
        rw [hz] at hc
        have HC := Lib.hid hc
        clear hown hm hc hz
        go_wp2_with fail
        refine HC.out.mono ?_
        rintro e w2 ⟨⟨v2, rfl, h2⟩, m2⟩
        have HM2 := Lib.hid (HM.out.trans m2 (fun _ _ e => e))
        have hcv2 := conv_own (HO.out.later m2)
        have HP := Lib.hid (playBad xs hl HZ.out w2 ⟨HE.out.pow.later HM2.out, HE.out.maxl.later HM2.out⟩)
        clear h2 m2 hcv
        go_wp2_with fail
        refine HP.out.mono ?_
        rintro e w3 ⟨rfl, m3⟩
        have HM3 := Lib.hid (HM2.out.trans m3 (fun _ _ e => e))
        have HA := Lib.hid (awakeShl w3 (HE.out.pow.later HM3.out))
        clear m3 hcv2
        go_wp2_with fail
        refine HA.out.mono ?_
        rintro e w4 ⟨rfl, m4⟩
        have HM4 := Lib.hid (HM3.out.trans m4 (fun _ _ e => e))
        clear m4
        go_wp2_with fail
        go_ret
        exact ⟨rfl, HM4.out⟩
theorem walk_shellLong (s : ByteArray) (n : Int) (w : World) (E : EnvT w) :
    Calls Tryz.prog 6 #[.string s, .int .i64 n] w fun e w' => e = .returned (.bool true) ∧ Mod (fun _ => False) w w' := by
  by_cases h0 : s.data.toList = []
  · have hs : s = ⟨#[]⟩ := by
      cases s with
      | mk d =>
        have : d = #[] := by
          apply Array.toList_inj.1
          exact h0
        rw [this]
    subst hs
    have HA := Lib.hid (awakeShl w E.pow)
    clear E h0
    go_enter Tryz.func6, Tryz.ntmps6
    go_wp2_with fail
    refine HA.out.mono ?_
    rintro e w1 ⟨rfl, m1⟩
    have HM1 := Lib.hid m1
    clear m1
    go_wp2_with fail
    go_ret
    exact ⟨rfl, HM1.out⟩
  · by_cases h1 : s.size ≤ 200
    · by_cases n0 : 0 ≤ n
      · by_cases n1 : n ≤ 300000
        · exact walk_long s n w E h0 h1 n0 n1
        · have hc : ¬ (200 : Int) < (s.size : Int) := by omega
          have hn0 : ¬ n < 0 := by omega
          have hn1 : (300000 : Int) < n := by omega
          obtain ⟨e1, e2⟩ := str_some h0
          have HA := Lib.hid (awakeShl w E.pow)
          clear E h0
          go_enter Tryz.func6, Tryz.ntmps6
          go_wp2_with fail
          refine HA.out.mono ?_
          rintro e w1 ⟨rfl, m1⟩
          have HM1 := Lib.hid m1
          clear m1
          go_wp2_with fail
          go_ret
          exact ⟨rfl, HM1.out⟩
      · have hc : ¬ (200 : Int) < (s.size : Int) := by omega
        have hn0 : n < 0 := by omega
        obtain ⟨e1, e2⟩ := str_some h0
        have HA := Lib.hid (awakeShl w E.pow)
        clear E h0
        go_enter Tryz.func6, Tryz.ntmps6
        go_wp2_with fail
        refine HA.out.mono ?_
        rintro e w1 ⟨rfl, m1⟩
        have HM1 := Lib.hid m1
        clear m1
        go_wp2_with fail
        go_ret
        exact ⟨rfl, HM1.out⟩
    · have hc : (200 : Int) < (s.size : Int) := by omega
      obtain ⟨e1, e2⟩ := str_some h0
      have HA := Lib.hid (awakeShl w E.pow)
      clear E h0
      go_enter Tryz.func6, Tryz.ntmps6
      go_wp2_with fail
      refine HA.out.mono ?_
      rintro e w1 ⟨rfl, m1⟩
      have HM1 := Lib.hid m1
      clear m1
      go_wp2_with fail
      go_ret
      exact ⟨rfl, HM1.out⟩
end Go.Proofs.YtigkndbkaagboaaGreatDoor
