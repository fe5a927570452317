/- The walk of TopoWays. -/
import Derived.Test.YtflkdkghpoccgaaDoorTWays
import Derived.OpenShut
namespace Go.Proofs.YtflkdkghpoccgaaDoor
open Go.RowKit
set_option linter.unusedVariables false
set_option maxHeartbeats 8000000
set_option maxRecDepth 100000
theorem int_info : (Tryd.prog.info? 3).map (fun i => (i.zero, i.size, i.bytes)) = some (some (.int .i64 0), 1, 8) := by kernel_rfl
/-- The ports that were seen. -/
def seenL (R : Nat → Int) (t : Nat) : List Value := (List.range t).map fun j => .int .i64 (R j)
theorem seenL_succ (R : Nat → Int) (t : Nat) : seenL R (t + 1) = seenL R t ++ [.int .i64 (R t)] := by
  unfold seenL; rw [List.range_succ, List.map_append]; rfl
theorem seenL_at {R : Nat → Int} {t k : Nat} (h : k < t) : (seenL R t)[k]? = some (.int .i64 (R k)) := by
  unfold seenL; rw [List.getElem?_map, List.getElem?_range h]; rfl
theorem walk_waysNo (h s a d path : Int) (w : World) (hn : h < 2 ∨ 8 < h ∨ s < 1 ∨ 4 < s) :
    Calls Tryd.prog 4 #[.int .i64 h, .int .i64 s, .int .i64 a, .int .i64 d, .int .i64 path] w fun e w' => e = .returned (.bool true) ∧ Mod (fun _ => False) w w' := by
  have hc : h < 2 ∨ (2 ≤ h ∧ 8 < h) ∨ (2 ≤ h ∧ h ≤ 8 ∧ s < 1) ∨ (2 ≤ h ∧ h ≤ 8 ∧ 1 ≤ s ∧ 4 < s) := by omega
  clear hn
  rcases hc with h1 | ⟨h1, h2⟩ | ⟨h1, h2, h3⟩ | ⟨h1, h2, h3, h4⟩
  all_goals
    go_enter Tryd.func4, Tryd.ntmps4
    go_wp2_with fail
    refine (awakeW _).mono ?_
    rintro e w1 ⟨rfl, m1⟩
    go_wp2
    go_ret
    exact ⟨rfl, m1⟩
theorem walk_waysIn (h s a d path : Int) (w : World) (h1 : 2 ≤ h) (h2 : h ≤ 8) (h3 : 1 ≤ s) (h4 : s ≤ 4) (hab : -9223372036854775808 ≤ a ∧ a ≤ 9223372036854775807) (hdb : -9223372036854775808 ≤ d ∧ d ≤ 9223372036854775807) :
    Calls Tryd.prog 4 #[.int .i64 h, .int .i64 s, .int .i64 a, .int .i64 d, .int .i64 path] w fun e w' => e = .returned (.bool true) ∧ Mod (fun _ => False) w w' := by
  obtain ⟨i0, hi0, hz0, hz1, hz2⟩ := info_parts int_info
  obtain ⟨lv, hlv⟩ : ∃ lv, lv = (h + 1) / 2 := ⟨_, rfl⟩
  have ho : Okn h lv s := ⟨h1, h2, hlv, h3, h4⟩
  have hN : ∀ w : World, Calls Tryd.prog 6 #[.int .i64 h, .int .i64 s] w fun e w' => e = .returned (.tuple #[.pointer (some ⟨w.heap.size, 0, none⟩), .int .i64 0]) ∧ Nt w' w.heap.size h lv s ∧ Mod (fun _ => False) w w' := fun w => hlv ▸ newW h s w h1 h2 h3 h4
  have HN := Lib.hid hN
  have hra := roundW a h hab.1 hab.2 (by omega) (by omega)
  have hrd := roundW d h hdb.1 hdb.2 (by omega) (by omega)
  have a0 : 0 ≤ a % h := Int.emod_nonneg _ (by omega)
  have a1 : a % h < h := Int.emod_lt_of_pos _ (by omega)
  have d0 : 0 ≤ d % h := Int.emod_nonneg _ (by omega)
  have d1 : d % h < h := Int.emod_lt_of_pos _ (by omega)
  generalize hA : a % h = A at *
  generalize hD : d % h = D at *
  have HRA := Lib.hid hra
  have HRD := Lib.hid hrd
  clear hN hlv hra hrd hA hD hab hdb
  by_cases hne : A = D
  · subst hne
    go_enter Tryd.func4, Tryd.ntmps4
    go_wp2_with fail
    refine (HN.out _).mono ?_
    rintro e w1 ⟨rfl, n1, m1⟩
    go_wp2_with fail
    refine (HRA.out _).mono ?_
    rintro e w2 ⟨rfl, rfl⟩
    go_wp2_with fail
    refine (HRD.out _).mono ?_
    rintro e w2 ⟨rfl, rfl⟩
    go_wp2_with fail
    refine (awakeW _).mono ?_
    rintro e w3 ⟨rfl, m3⟩
    go_wp2
    go_ret
    exact ⟨rfl, m1.trans m3 (fun _ _ h => h)⟩
  · obtain ⟨n, R, w1, w2, w3, w4, w6⟩ := way_law ho path a0 a1 d0 d1 hne
    have hnb : (A == D) = false := by rw [beq_eq_false_iff_ne]; exact hne
    have hpt : ∀ (b : Nat) (w : World), Nt w b h lv s → Calls Tryd.prog 14 #[.pointer (some ⟨b, 0, none⟩)] w fun e w' => e = .returned (.int .i64 (portsZ h lv s)) ∧ Mod (fun _ => False) w w' := fun b w n => portsW b h lv s w n
    have hup : ∀ (b : Nat) (w : World), Nt w b h lv s → Calls Tryd.prog 18 #[.pointer (some ⟨b, 0, none⟩), .int .i64 A] w fun e w' => e = .returned (.int .i64 (R 0)) ∧ Mod (fun _ => False) w w' := fun b w n => by
      have := upW b h lv s A w n
      rw [if_pos ⟨a0, a1⟩] at this
      rw [w3]
      exact this
    have hhp : ∀ (b : Nat) (w : World), Nt w b h lv s → Calls Tryd.prog 19 #[.pointer (some ⟨b, 0, none⟩), .int .i64 A, .int .i64 D] w fun e w' => e = .returned (.int .i64 n) ∧ Mod (fun _ => False) w w' := fun b w nt => by
      have := hopsW b h lv s A D w nt
      rw [w1] at this
      exact this
    have hnx : ∀ (b : Nat) (j : Nat) (w : World), j < n → Nt w b h lv s → Calls Tryd.prog 10 #[.pointer (some ⟨b, 0, none⟩), .int .i64 (R j), .int .i64 D, .int .i64 path] w fun e w' => e = .returned (.tuple #[.int .i64 (R (j + 1)), .bool (decide (j + 1 = n))]) ∧ Mod (fun _ => False) w w' := fun b j w hj nt => by
      have := nextW b h lv s (R j) D path w nt
      rw [(w6.2 j hj).2.2.1] at this
      exact this
    have hbd : ∀ j, j < n → 0 ≤ R j ∧ R j < portsZ h lv s := fun j hj => ⟨(w6.2 j hj).1, (w6.2 j hj).2.1⟩
    have hun : ∀ j, j < n → ∀ i, i < j → (R i == R j) = false := fun j hj i hi => by
      rw [beq_eq_false_iff_ne]; exact (w6.2 j hj).2.2.2 i hi
    have hlast : R n = -1 := w6.1
    generalize portsZ h lv s = P at *
    generalize hl1 : leafZ h A = l1 at *
    generalize hl2 : leafZ h D = l2 at *
    have hlf : ∀ (b : Nat) (w : World), Nt w b h lv s → Calls Tryd.prog 16 #[.pointer (some ⟨b, 0, none⟩), .int .i64 A] w fun e w' => e = .returned (.int .i64 l1) ∧ Mod (fun _ => False) w w' := fun b w n => hl1 ▸ leafW b h lv s A w n
    have hlg : ∀ (b : Nat) (w : World), Nt w b h lv s → Calls Tryd.prog 16 #[.pointer (some ⟨b, 0, none⟩), .int .i64 D] w fun e w' => e = .returned (.int .i64 l2) ∧ Mod (fun _ => False) w w' := fun b w n => hl2 ▸ leafW b h lv s D w n
    have HPT := Lib.hid hpt
    have HUP := Lib.hid hup
    have HHP := Lib.hid hhp
    have HNX := Lib.hid hnx
    have HBD := Lib.hid hbd
    have HUN := Lib.hid hun
    have HLS := Lib.hid hlast
    have HLF := Lib.hid hlf
    have HLG := Lib.hid hlg
    have H2 := Lib.hid w2
    clear hpt hup hhp hnx hbd hun hlast hlf hlg w1 w2 w3 w6 hne hl1 hl2 ho
    go_enter Tryd.func4, Tryd.ntmps4
    go_wp2_with fail
    refine (HN.out _).mono ?_
    rintro e w1 ⟨rfl, n1, m1⟩
    have hbl : w.heap.size < w1.heap.size := n1.1.lt
    generalize hb : w.heap.size = b at *
    go_wp2_with fail
    refine (HRA.out _).mono ?_
    rintro e w2 ⟨rfl, rfl⟩
    go_wp2_with fail
    refine (HRD.out _).mono ?_
    rintro e w2 ⟨rfl, rfl⟩
    go_wp2_with fail
    refine (HUP.out _ _ n1).mono ?_
    rintro e w2 ⟨rfl, m2⟩
    have n2 := n1.mod m2 (fun e => e)
    have m3 := m1.trans m2 (fun _ _ h => h)
    have hs2 := m2.size
    clear m1 hnb
    go_wp2_with fail
    go_loopw [13, 14, 15] (fun x v y wr => ∃ t : Nat, x = .int .i64 (R t) ∧ y = .int .i64 ((t : Int) + 1) ∧ t ≤ n ∧ Nt wr b h lv s ∧ Mod (fun _ => False) w wr ∧ wr.ownsRow 0 3 1 v t (seenL R t) ∧ (∀ k, v.ownBlock = some k → w1.heap.size ≤ k) ∧ w1.heap.size ≤ wr.heap.size) (fun _ _ y _ => (n + 1 - (intOf y).toNat))
    case atStart => exact ⟨0, rfl, rfl, by omega, n2, m3, World.ownsRow_nil _ _ _ _, fun k h => by simp [Value.ownBlock] at h, hs2⟩
    case round =>
      obtain ⟨t, rfl, rfl, ht, n4, m4, hown, hfr, hsa⟩ := hrel
      clear n2 m3 m2
      obtain ⟨A', cap, rfl⟩ : ∃ A cap, u14 = .slice A t cap := by
        rcases hown.2 with ⟨h, h2⟩ | ⟨g, cap, cur, h, _⟩
        · exact ⟨none, 0, by rw [h, h2]⟩
        · exact ⟨_, cap, h⟩
      go_wp2_with fail
      refine (HHP.out _ _ n4).mono ?_
      rintro e w4 ⟨rfl, m5⟩
      have n5 := n4.mod m5 (fun e => e)
      have m6 := m4.trans m5 (fun _ _ h => h)
      have hown5 := own_mod m5 hown (fun _ _ h => h)
      have hsb := Nat.le_trans hsa m5.size
      clear n4 m4 m5 hown
      by_cases hn : t < n
      · obtain ⟨hb0, hb1⟩ := HBD.out t hn
        go_wp2_with fail
        refine (HPT.out _ _ n5).mono ?_
        rintro e w5 ⟨rfl, m7⟩
        have n6 := n5.mod m7 (fun e => e)
        have m8 := m6.trans m7 (fun _ _ h => h)
        have hown6 := own_mod m7 hown5 (fun _ _ h => h)
        have hsc := Nat.le_trans hsb m7.size
        clear n5 m6 m7 hown5
        go_wp2_with fail
        go_loopw [16] (fun x wr2 => ∃ k : Nat, x = .int .i64 k ∧ k ≤ t ∧ wr2 = w5) (fun x _ => (t - (intOf x).toNat))
        case atStart => exact ⟨0, rfl, by omega, rfl⟩
        case round =>
          obtain ⟨k, rfl, hk, hwr⟩ := hrel
          subst hwr
          by_cases hk2 : k < t
          · obtain ⟨g, cap', e', hg⟩ := hown6.form (by omega)
            obtain ⟨rfl, rfl⟩ : A' = some ⟨g, 0, none⟩ ∧ cap = cap' := by
              injection e' with e1 e2 e3
              exact ⟨e1, e3⟩
            have hc := hown6.cellAt k (by omega)
            rw [seenL_at hk2] at hc
            have hnq := HUN.out t hn k hk2
            go_wp2
            go_roundw
            case rel => exact ⟨k + 1, by go_num, by omega, trivial⟩
            case measure => simp [intOf]; omega
          · have hkt : k = t := by omega
            have h1c : ∀ y ∈ [Value.int .i64 (R t)], y.oneCell' = true := by
              intro y hy
              simp at hy
              subst hy
              rfl
            have hlit := World.ownsRow_lit (base := 0) (size := 1) (e := 3) wr #[.int .i64 (R t)] 1 (Nat.zero_le _) (by decide) rfl
            have hownA := own_mod ((Mod.refl (fun _ => False) wr).alloc (.cells #[.int .i64 (R t)] 3)) hown6 (fun _ _ h => h)
            have H1C := Lib.hid h1c
            have HLIT := Lib.hid (Reads.of_own hlit)
            have HOWN := Lib.hid hownA
            have hsz6 : w1.heap.size ≤ (wr.alloc (.cells #[.int .i64 (R t)] 3)).heap.size := by
              have h6 := ((Mod.refl (fun _ => False) wr).alloc (.cells #[.int .i64 (R t)] 3)).size
              omega
            clear h1c hlit hownA hown6
            go_wp2_with (at_builtin
                         refine wpList_append_any _ rfl (.tmp 87) (.tmp 89) _ rfl 0 3 i0 _ 1 8 Tryd.underlying39 hi0 hz0 hz1 hz2 rfl (by omega) (.slice A' t cap) t (seenL R t) rfl HOWN.out _ (some ⟨wr.heap.size, 0, none⟩) 1 1 [.int .i64 (R t)] rfl HLIT.out H1C.out (by simp only [maxLen]; omega) (by omega) (Nat.zero_le _) ?_
                         intro v' w7 hown' hgr' hat')
            have hnb : ¬ (Value.slice A' t cap).ownBlock = some b := fun e => by have := hfr b e; omega
            have n7 := (n6.mod ((Mod.refl (fun _ => False) wr).alloc _) (fun e => e)).mod (Mod.ofGrown hgr') hnb
            have m9 := (m8.alloc (.cells #[.int .i64 (R t)] 3)).trans (Mod.ofGrown hgr') (fun k hk h => (by have := hfr k h; omega : False))
            have hfr2 : ∀ k, v'.ownBlock = some k → w1.heap.size ≤ k := fun k hk => by
              rcases hat' with e | e
              · rw [e] at hk; exact hfr k hk
              · rw [e] at hk
                have h5 := hsz6
                have h6 := Option.some.inj hk
                omega
            have hsd := Nat.le_trans hsz6 hgr'.size
            clear hat' hgr' n6 m8 HOWN HLIT H1C
            refine (HNX.out b t w7 hn n7).mono ?_
            rintro e w8 ⟨rfl, m10⟩
            have n8 := n7.mod m10 (fun e => e)
            have m11 := m9.trans m10 (fun _ _ h => h)
            have hown8 := own_mod m10 hown' (fun _ _ h => h)
            have hse := Nat.le_trans hsd m10.size
            clear n7 m9 m10 hown'
            have hxs := seenL_succ R t
            by_cases hl : t + 1 = n
            · have hb1 : decide (t + 1 = n) = true := by rw [decide_eq_true_iff]; exact hl
              have hb2 : ((t : Int) + 1 == (n : Int)) = true := by rw [beq_iff_eq]; omega
              rw [hb1]
              clear hl hb1
              go_wp2_with fail
              refine (HHP.out _ _ n8).mono ?_
              rintro e w9 ⟨rfl, m12⟩
              have n9 := n8.mod m12 (fun e => e)
              have hsf := Nat.le_trans hse m12.size
              have m13 := m11.trans m12 (fun _ _ h => h)
              have hown9 := own_mod m12 hown8 (fun _ _ h => h)
              clear n8 m11 m12 hown8
              go_wp2
              go_roundw
              case rel => exact ⟨t + 1, rfl, by go_num, by omega, n9, m13, hxs ▸ hown9, hfr2, hsf⟩
              case measure => simp [intOf]; omega
            · have hb1 : decide (t + 1 = n) = false := by rw [decide_eq_false_iff_not]; exact hl
              have hb2 : ((t : Int) + 1 == (n : Int)) = false := by rw [beq_eq_false_iff_ne]; omega
              rw [hb1]
              clear hl hb1
              go_wp2_with fail
              refine (HHP.out _ _ n8).mono ?_
              rintro e w9 ⟨rfl, m12⟩
              have n9 := n8.mod m12 (fun e => e)
              have hsf := Nat.le_trans hse m12.size
              have m13 := m11.trans m12 (fun _ _ h => h)
              have hown9 := own_mod m12 hown8 (fun _ _ h => h)
              clear n8 m11 m12 hown8
              go_wp2
              go_roundw
              case rel => exact ⟨t + 1, rfl, by go_num, by omega, n9, m13, hxs ▸ hown9, hfr2, hsf⟩
              case measure => simp [intOf]; omega
      · have htn : t = n := by omega
        subst htn
        have hls : (R t == -1) = true := by rw [HLS.out]; rfl
        have h2 := H2.out
        go_wp2_with fail
        refine (HHP.out _ _ n5).mono ?_
        rintro e w5 ⟨rfl, m7⟩
        have n6 := n5.mod m7 (fun e => e)
        have m8 := m6.trans m7 (fun _ _ h => h)
        clear n5 m6 m7 hown5
        go_wp2_with fail
        refine (HLF.out _ _ n6).mono ?_
        rintro e w6 ⟨rfl, m9⟩
        have n7 := n6.mod m9 (fun e => e)
        have m10 := m8.trans m9 (fun _ _ h => h)
        clear n6 m8 m9
        go_wp2_with fail
        refine (HLG.out _ _ n7).mono ?_
        rintro e w7 ⟨rfl, m11⟩
        have m12 := m10.trans m11 (fun _ _ h => h)
        clear n7 m10 m11
        go_wp2_with fail
        refine (awakeW _).mono ?_
        rintro e w8 ⟨rfl, m13⟩
        go_wp2
        go_ret
        exact ⟨rfl, m12.trans m13 (fun _ _ h => h)⟩
theorem walk_topoWays (h : Int) (wh : (Lit.int .i64 h).wf = true) (s : Int) (ws : (Lit.int .i64 s).wf = true) (a : Int) (wa : (Lit.int .i64 a).wf = true) (d : Int) (wd : (Lit.int .i64 d).wf = true) (path : Int) (wp : (Lit.int .i64 path).wf = true) (w : World) :
    Calls Tryd.prog 4 #[.int .i64 h, .int .i64 s, .int .i64 a, .int .i64 d, .int .i64 path] w fun e w' => e = .returned (.bool true) ∧ Below w.heap.size w w' := by
  by_cases hn : h < 2 ∨ 8 < h ∨ s < 1 ∨ 4 < s
  · exact (walk_waysNo h s a d path w hn).mono fun _ _ ⟨e, m⟩ => ⟨e, m.below⟩
  · exact (walk_waysIn h s a d path w (by omega) (by omega) (by omega) (by omega) (bounds_i64 wa) (bounds_i64 wd)).mono fun _ _ ⟨e, m⟩ => ⟨e, m.below⟩
end Go.Proofs.YtflkdkghpoccgaaDoor
