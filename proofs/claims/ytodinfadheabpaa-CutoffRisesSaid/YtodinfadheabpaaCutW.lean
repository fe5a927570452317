/- Contracts of package cutoff: a meter, and a size more. -/
import Derived.Test.YtodinfadheabpaaSeqS
import Derived.Test.YtodinfadheabpaaNumW
import Derived.Test.YtodinfadheabpaaRow
import Derived.Deep.RegionHeld3
import Derived.Deep.Cut
namespace Go.Proofs.Ytodinfadheabpaa
open Go.RowKit Go.Shelf
set_option linter.unusedVariables false
set_option maxHeartbeats 2000000
set_option maxRecDepth 100000
theorem int_info : (Try.prog.info? 3).map (fun i => (i.zero, i.size, i.bytes)) = some (some (.int .i64 0), 1, 8) := by kernel_rfl
/-- A meter in memory: block b, its sizes in block g. -/
structure Mt (w : World) (b : Nat) (g : Option Nat) (lev most : Int) (zs : List Int) : Prop where
  row : ∃ A cap, (Value.slice A zs.length cap).ownBlock = g ∧ Blk w b 41 #[.int .i64 lev, .int .i64 most, .slice A zs.length cap] ∧ w.ownsRow 0 3 1 (.slice A zs.length cap) zs.length (zs.map (Value.int .i64))
  ne : g ≠ some b
/-- The sizes behind one more. -/
def moreZ (most : Int) (zs : List Int) (x : Int) : List Int := (zs ++ [clampZ x 0 1073741824]).drop (zs.length + 1 - most.toNat)
theorem ownForm {w : World} {base : Nat} {e : TypeId} {size : Nat} {v : Value} {n : Nat} {xs : List Value} (h : w.ownsRow base e size v n xs) (hn : 0 < n) : ∃ g cap, v = .slice (some ⟨g, 0, none⟩) n cap ∧ g < w.heap.size ∧ n ≤ cap := by
  have hl := h.lt
  rcases h.2 with ⟨_, h0⟩ | ⟨g, cap, cur, hv, hb, hg, h1, _⟩
  · omega
  · subst hv
    exact ⟨g, cap, rfl, (hl g rfl).2, h1⟩
theorem cnewW (lev most : Int) (w : World) (h1 : 1 ≤ lev) (h2 : lev ≤ 8) (h3 : 1 ≤ most) (h4 : most ≤ 1000) :
    Calls Try.prog 7 #[.int .i64 lev, .int .i64 most] w fun e w' => e = .returned (.tuple #[.pointer (some ⟨w.heap.size, 0, none⟩), .int .i64 0]) ∧ Mt w' w.heap.size none lev most [] ∧ Mod (fun _ => False) w w' := by
  go_enter Try.func7, Try.ntmps7
  go_wp2
  go_ret2
  exact ⟨rfl, ⟨⟨none, 0, rfl, Blk.new w _ _, World.ownsRow_nil _ _ _ _⟩, by simp⟩, (Mod.refl _ _).alloc _⟩
theorem cnewNo (lev most : Int) (w : World) (h : lev < 1 ∨ 8 < lev ∨ most < 1 ∨ 1000 < most) :
    Calls Try.prog 7 #[.int .i64 lev, .int .i64 most] w fun e w' => e = .returned (.tuple #[.pointer none, .int .i64 1]) ∧ w = w' := by
  have hc : lev < 1 ∨ (1 ≤ lev ∧ 8 < lev) ∨ (1 ≤ lev ∧ lev ≤ 8 ∧ most < 1) ∨ (1 ≤ lev ∧ lev ≤ 8 ∧ 1 ≤ most ∧ 1000 < most) := by omega
  clear h
  rcases hc with h1 | ⟨h1, h2⟩ | ⟨h1, h2, h3⟩ | ⟨h1, h2, h3, h4⟩
  all_goals
    go_enter Try.func7, Try.ntmps7
    go_wp2
    go_ret2
    exact ⟨rfl, rfl⟩
theorem addNone (x : Int) (w : World) : Calls Try.prog 8 #[.pointer none, .int .i64 x] w fun e w' => e = .returned (.tuple #[]) ∧ w = w' := by
  go_enter Try.func8, Try.ntmps8
  go_wp2
  refine bodyPost_ret (results_none rfl _ _ _) rfl ?_
  exact ⟨rfl, rfl⟩
theorem lenNone (w : World) : Calls Try.prog 15 #[.pointer none] w fun e w' => e = .returned (.int .i64 0) ∧ w = w' := by
  go_enter Try.func15, Try.ntmps15
  go_wp2
  go_ret
  exact ⟨rfl, rfl⟩
theorem clenW (b : Nat) (g : Option Nat) (lev most : Int) (zs : List Int) (w : World) (m : Mt w b g lev most zs) : Calls Try.prog 15 #[.pointer (some ⟨b, 0, none⟩)] w fun e w' => e = .returned (.int .i64 zs.length) ∧ w = w' := by
  obtain ⟨A, cap, hg, hB, hown⟩ := m.row
  have hc := hB.cell
  go_enter Try.func15, Try.ntmps15
  go_wp2
  go_ret
  exact ⟨rfl, rfl⟩
theorem addW (b : Nat) (g : Option Nat) (lev most x : Int) (zs : List Int) (w : World) (m : Mt w b g lev most zs) (h3 : 1 ≤ most) (h4 : most ≤ 1000) (hz : zs.length ≤ most.toNat) :
    Calls Try.prog 8 #[.pointer (some ⟨b, 0, none⟩), .int .i64 x] w fun e w' => e = .returned (.tuple #[]) ∧ ∃ g', Mt w' b g' lev most (moreZ most zs x) ∧ (∀ k, g' = some k → w.heap.size ≤ k) ∧ Mod (fun k => k = b ∨ g = some k) w w' := by
  obtain ⟨i0, hi0, hz0, hz1, hz2⟩ := info_parts int_info
  obtain ⟨A, cap, hg, hB, hown⟩ := m.row
  have hc := hB.cell
  have HB := Lib.hid hB
  have hbn : ¬ (Value.slice A zs.length cap).ownBlock = some b := by rw [hg]; exact m.ne
  have hbs := hB.lt
  have hwr : IntKind.i64.wrap ((zs.length : Int) + 1 - most) = (zs.length : Int) + 1 - most := by rw [IntKind.wrap_i64]; omega
  have hk2 : (max (IntKind.i64.wrap ((zs.length : Int) + 1 - most)) 0 = 1 ∧ zs.length + 1 - most.toNat = 1 ∧ 0 < zs.length) ∨ (max (IntKind.i64.wrap ((zs.length : Int) + 1 - most)) 0 = 0 ∧ zs.length + 1 - most.toNat = 0 ∧ True) := by
    rw [hwr]
    by_cases h : zs.length = most.toNat
    · exact .inl ⟨by omega, by omega, by omega⟩
    · exact .inr ⟨by omega, by omega, trivial⟩
  have hL : (zs.length : Int) ≤ 1000 := by omega
  have HK := Lib.hid hk2
  have HZ := Lib.hid hz
  clear hk2 hwr
  have hm0 : (most == 0) = false := by rw [beq_eq_false_iff_ne]; omega
  unfold moreZ
  generalize hcx : clampZ x 0 1073741824 = c
  have HC := Lib.hid hcx
  have h1c : ∀ y ∈ [Value.int .i64 c], y.oneCell' = true := by
    intro y hy
    simp at hy
    subst hy
    rfl
  have H1C := Lib.hid h1c
  clear hcx h1c
  go_enter Try.func8, Try.ntmps8
  go_upto_region 1 with fail
  go_cut [] from 13 (fun wx => ∃ g' cap' : Nat, g' ≠ b ∧ zs.length + 1 ≤ cap' ∧ g' < wx.heap.size ∧ Blk wx b 41 #[.int .i64 lev, .int .i64 most, .slice (some ⟨g', 0, none⟩) (zs.length + 1) cap'] ∧ Mod (fun k => k = b ∨ g = some k) w wx ∧ wx.ownsRow 0 3 1 (.slice (some ⟨g', 0, none⟩) (zs.length + 1) cap') (zs.length + 1) (zs.map (Value.int .i64) ++ [.int .i64 c]))
  case first =>
    have hlit := World.ownsRow_lit (base := 0) (size := 1) (e := 3) w #[.int .i64 c] 1 (Nat.zero_le _) (by decide) rfl
    have hownA := own_mod ((Mod.refl (fun _ => False) w).alloc (.cells #[.int .i64 c] 3)) hown (fun _ _ h => h)
    have HLIT := Lib.hid (Reads.of_own hlit)
    have HOWN := Lib.hid hownA
    clear hlit hownA
    go_region_law (first
        | (go_simp; go_at_call 17; refine (numClamp _ _ _ _).mono ?_; rintro e w' ⟨rfl, rfl⟩; rw [HC.out])
        | (refine step_append_any _ (by rfl) (.tmp 17) (.tmp 20) 22 (by rfl) 0 3 i0 _ 1 8 Try.underlying22 hi0 hz0 hz1 hz2 (by rfl) (by omega) (.slice A zs.length cap) zs.length (zs.map (Value.int .i64)) (by rfl) HOWN.out _ (some ⟨w.heap.size, 0, none⟩) 1 1 [.int .i64 c] (by rfl) HLIT.out H1C.out (by simp only [maxLen]; omega) (by omega) (Nat.zero_le _) ?_; intro v' w7 hown' hgr' hat'; obtain ⟨g', cap', rfl, hgl, hcapn⟩ := ownForm hown' (by omega); have hb7 := (HB.out.old (.cells #[.int .i64 c] 3)).mod (Mod.ofGrown hgr') hbn; have hk7 : w7.cell? ⟨b, 2, none⟩ = some (.slice A zs.length cap) := hb7.cell 2; have hf7 : w7.frozen? ⟨b, 2, none⟩ = false := hb7.free 2))
    all_goals
      have hgn : g' ≠ b := fun e => by
        rcases hat' with h | h
        · exact hbn (by rw [← h, ← e]; rfl)
        · have h' : g' = (w.alloc (.cells #[.int .i64 c] 3)).heap.size := by simpa [Value.ownBlock] using h
          have h6 := ((Mod.refl (fun _ => False) w).alloc (.cells #[.int .i64 c] 3)).size
          omega
      have hb8 := hb7.set 2 (.slice (some ⟨g', 0, none⟩) (zs.length + 1) cap')
      have m8 : Mod (fun k => k = b ∨ g = some k) w (w7.setCell ⟨b, 2, none⟩ (.slice (some ⟨g', 0, none⟩) (zs.length + 1) cap')) :=
        ((((Mod.refl _ w).alloc (.cells #[.int .i64 c] 3)).drew.trans (Mod.ofGrown hgr') (fun k _ h => .inr (by rw [← hg]; exact h)))).setCell (fun _ => .inl rfl) _
      have own8 := own_mod ((Mod.refl (fun k => k = b) w7).setCell (p := ⟨b, 2, none⟩) (fun _ => rfl) (.slice (some ⟨g', 0, none⟩) (zs.length + 1) cap')) hown' (fun k h => by
        have h' : g' = k := by simpa [Value.ownBlock] using h
        omega)
      go_wp2_with fail
      go_meet
      case rel => exact ⟨g', cap', hgn, hcapn, by have := hgl; simpa [World.setCell] using this, hb8, m8, own8⟩
  case rest =>
    obtain ⟨g', cap', hgn, hcapn, hgl, hb8, m8, own8⟩ := hcut
    generalize hw8 : wc = w8 at *
    clear hw8
    have hc8 := hb8.cell
    have hlen8 : (zs.map (Value.int .i64) ++ [Value.int .i64 c]) = (zs ++ [c]).map (Value.int .i64) := by simp
    rw [hlen8] at own8
    have hgr8 : w.heap.size ≤ w8.heap.size := m8.size
    have hclone : ∀ (K m : Nat) (cc : Nat), 0 < m → m + K = zs.length + 1 → Calls Try.prog 18 #[.slice (some ⟨g', K, none⟩) m cc] w8.drew fun e w' => ∃ h2 cap2, e = .returned (.slice (some ⟨h2, 0, none⟩) m cap2) ∧ w8.heap.size ≤ h2 ∧ w'.ownsRow 0 3 1 (.slice (some ⟨h2, 0, none⟩) m cap2) m (((zs ++ [c]).drop K).map (Value.int .i64)) ∧ Mod (fun _ => False) w8 w' := fun K m cc hm hmK => by
      have hdl : ((zs ++ [c]).drop K).length = m := by simp; omega
      refine (Try.slices_Clone_int g' K m cc ((zs ++ [c]).drop K) w8.drew (by omega) (by omega) (fun j hj => ?_)).mono ?_
      · have := own8.cellAt (K + j) (by omega)
        rw [List.getElem?_map] at this
        refine Eq.trans this ?_
        rw [List.getElem?_eq_getElem (by simp; omega)]
        simp [List.getD, List.getElem?_drop, List.getElem?_eq_getElem (show K + j < (zs ++ [c]).length by simp; omega)]
      · rintro e w' ⟨v', rfl, hr, _, hb⟩
        rw [List.take_of_length_le (by omega)] at hr
        obtain ⟨h2, cap2, rfl, q1, q2⟩ := hr.form hm
        exact ⟨h2, cap2, rfl, q1, ⟨hr.1, by
          rcases hr.2 with hn | ⟨g, cap, cur, hv, hbg, rest⟩
          · exact .inl hn
          · exact .inr ⟨g, cap, cur, hv, Nat.zero_le _, rest⟩⟩, ⟨hb.os, hb.tape, hb.output, hb.size, fun k hk _ => hb.block k hk⟩⟩
    have HCL := Lib.hid hclone
    have HB8 := Lib.hid hb8
    clear hclone hb8 own8
    have fin : ∀ (K m : Nat) (h2 cap2 : Nat) (w9 : World), 0 < m → m + K = zs.length + 1 → K = zs.length + 1 - most.toNat → w8.heap.size ≤ h2 → w9.ownsRow 0 3 1 (.slice (some ⟨h2, 0, none⟩) m cap2) m (((zs ++ [c]).drop K).map (Value.int .i64)) → Mod (fun _ => False) w8 w9 →
        ∃ g', Mt (w9.setCell ⟨b, 2, none⟩ (.slice (some ⟨h2, 0, none⟩) m cap2)) b g' lev most ((zs ++ [c]).drop (zs.length + 1 - most.toNat)) ∧ (∀ k, g' = some k → w.heap.size ≤ k) ∧ Mod (fun k => k = b ∨ g = some k) w (w9.setCell ⟨b, 2, none⟩ (.slice (some ⟨h2, 0, none⟩) m cap2)) := fun K m h2 cap2 w9 hm hmK hK hh2 hown9 m9 => by
      subst hK
      have hdl : ((zs ++ [c]).drop (zs.length + 1 - most.toNat)).length = m := by simp; omega
      refine ⟨some h2, ⟨⟨some ⟨h2, 0, none⟩, cap2, rfl, ?_, ?_⟩, fun e => ?_⟩, fun k hk => ?_, ?_⟩
      · rw [hdl]
        exact (HB8.out.mod m9 (fun e => e)).set 2 _
      · rw [hdl]
        exact own_mod ((Mod.refl (fun k => k = b) w9).setCell (p := ⟨b, 2, none⟩) (fun _ => rfl) _) hown9 (fun k h => by
          have h' : h2 = k := by simpa [Value.ownBlock] using h
          omega)
      · have h' : h2 = b := Option.some.inj e
        omega
      · have h' : h2 = k := Option.some.inj hk
        omega
      · exact (m8.trans m9 (fun _ _ h => h.elim)).setCell (fun _ => .inl rfl) _
    have FIN := Lib.hid fin
    clear fin
    rcases HK.out with ⟨hmx, hKK, hLp⟩ | ⟨hmx, hKK, _⟩
    · have HKK := Lib.hid hKK
      have hle : (1 : Int) ≤ (zs.length : Int) + 1 := by omega
      have hn1 : ¬ cap' = 1 := by omega
      clear hKK
      go_wp2_with fail
      go_region_law (first
        | (go_simp; go_at_call 18; refine (HCL.out 1 zs.length _ (by omega) (by omega)).mono ?_; rintro e w9 ⟨h2, cap2, rfl, hh2, hown9, m9⟩; have hb9 := HB8.out.mod m9 (fun e => e); have hk9 : w9.cell? ⟨b, 2, none⟩ = some (.slice (some ⟨g', 0, none⟩) (zs.length + 1) cap') := hb9.cell 2; have hf9 : w9.frozen? ⟨b, 2, none⟩ = false := hb9.free 2))
      all_goals
        go_wp2
        go_end0
        exact ⟨rfl, FIN.out 1 zs.length h2 cap2 w9 (by have := HKK.out; omega) (by omega) HKK.out.symm hh2 hown9 m9⟩
    · have HKK := Lib.hid hKK
      have hle : (0 : Int) ≤ (zs.length : Int) + 1 := by omega
      have hn1 : ¬ cap' = 0 := by omega
      clear hKK
      go_wp2_with fail
      go_region_law (first
        | (go_simp; go_at_call 18; refine (HCL.out 0 (zs.length + 1) _ (by omega) (by omega)).mono ?_; rintro e w9 ⟨h2, cap2, rfl, hh2, hown9, m9⟩; have hb9 := HB8.out.mod m9 (fun e => e); have hk9 : w9.cell? ⟨b, 2, none⟩ = some (.slice (some ⟨g', 0, none⟩) (zs.length + 1) cap') := hb9.cell 2; have hf9 : w9.frozen? ⟨b, 2, none⟩ = false := hb9.free 2))
      all_goals
        go_wp2
        go_end0
        exact ⟨rfl, FIN.out 0 (zs.length + 1) h2 cap2 w9 (by omega) (by omega) HKK.out.symm hh2 hown9 m9⟩
end Go.Proofs.Ytodinfadheabpaa
