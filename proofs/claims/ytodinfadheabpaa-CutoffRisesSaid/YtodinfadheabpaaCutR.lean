/- The reference's meter: a size more. -/
import Derived.Test.YtodinfadheabpaaCutW
import Derived.Test.YtodinfadheabpaaRow2
namespace Go.Proofs.Ytodinfadheabpaa
open Go.RowKit Go.Shelf
set_option linter.unusedVariables false
set_option maxHeartbeats 2000000
set_option maxRecDepth 100000
/-- The reference's meter in memory: block b, its sizes in block g. -/
def Rm (w : World) (b : Nat) (g : Option Nat) (lev most : Int) (zs : List Int) : Prop :=
  ∃ v : Value, v.ownBlock = g ∧ Blk w b 30 #[.int .i64 lev, .int .i64 most, v] ∧ Has w w.heap.size 1 encI v zs ∧ g ≠ some b
theorem Rm.mod {S : Nat → Prop} {w w' : World} (d : Mod S w w') {b : Nat} {g : Option Nat} {lev most : Int} {zs : List Int} (h : Rm w b g lev most zs) (hb : ¬ S b) (hs : ∀ k, g = some k → ¬ S k) : Rm w' b g lev most zs := by
  obtain ⟨v, h0, h1, h2, h3⟩ := h
  exact ⟨v, h0, h1.mod d hb, (h2.mod d (Nat.le_refl _) (fun k e => hs k (h0 ▸ e))).more d.size, h3⟩
theorem refAddW (b : Nat) (lev most x : Int) (zs : List Int) (w : World) (g : Option Nat) (m : Rm w b g lev most zs) (h3 : 1 ≤ most) (h4 : most ≤ 1000) (hz : zs.length ≤ most.toNat) :
    Calls Try.prog 9 #[.pointer (some ⟨b, 0, none⟩), .int .i64 x] w fun e w' => e = .returned (.tuple #[]) ∧ (∃ g', Rm w' b g' lev most (moreZ most zs x) ∧ ∀ k, g' = some k → w.heap.size ≤ k) ∧ Mod (fun k => k = b) w w' := by
  have hkk : (most < (zs.length : Int) + 1 → 1 = zs.length + 1 - most.toNat) ∧ ((zs.length : Int) + 1 ≤ most → 0 = zs.length + 1 - most.toNat) := by omega
  have HKK := Lib.hid hkk
  clear hkk
  obtain ⟨i0, hi0, hz0, hz1, hz2⟩ := info_parts int_info
  obtain ⟨v, hvg, hB, hH, hne⟩ := m
  obtain ⟨A, cap, rfl, hcap, hnil, hR, hA⟩ := hH
  rw [flat_I] at hR
  have hc := hB.cell
  have hbs := hB.lt
  have HB := Lib.hid hB
  have hlit0 := World.ownsRow_lit (base := w.heap.size) (size := 1) (e := 3) w #[] 0 (Nat.le_refl _) (by decide) rfl
  have HLIT0 := Lib.hid hlit0
  have HRD := Lib.hid (hR.alloc (Nat.le_refl _) (.cells #[] 3))
  have h1z : ∀ y ∈ zs.map (Value.int .i64), y.oneCell' = true := fun y hy => by
    obtain ⟨z, _, rfl⟩ := List.mem_map.1 hy
    rfl
  have H1Z := Lib.hid h1z
  clear hlit0 hR h1z hB
  unfold moreZ
  generalize hcx : clampZ x 0 1073741824 = c
  have HC := Lib.hid hcx
  have H1C := Lib.hid (one_I c)
  have HZ := Lib.hid hz
  clear hcx
  have hL : zs.length ≤ 1000 := by omega
  go_enter Try.func9, Try.ntmps9
  go_wp2_with (at_builtin
               refine wpList_append_any _ rfl (.tmp 5) (.tmp 9) _ rfl w.heap.size 3 i0 _ 1 8 Try.underlying22 hi0 hz0 hz1 hz2 rfl (by omega) (.slice (some ⟨w.heap.size, 0, none⟩) 0 0) 0 [] rfl HLIT0.out _ A zs.length cap (zs.map (Value.int .i64)) rfl HRD.out H1Z.out (by simp only [maxLen]; omega) (by omega) (by simp) ?_
               intro v1 w1 hown1 hgr1 hat1)
  have hown1' : Own w1 w.heap.size 3 1 encI v1 zs := by
    unfold Own
    rw [flat_I]
    simpa using hown1
  have m1 : Mod (fun k => k = b) w w1 := ((Mod.refl _ w).alloc (.cells #[] 3)).trans (Mod.ofGrown hgr1) (fun k hk e => by
    have h' : w.heap.size = k := by simpa [Value.ownBlock] using e
    omega)
  have hb1 : Blk w1 b 30 _ := (HB.out.old (.cells #[] 3)).mod (Mod.ofGrown hgr1) (fun e => by
    have h' : w.heap.size = b := by simpa [Value.ownBlock] using e
    omega)
  clear hown1 hgr1 hat1 hc HLIT0 HRD
  refine (refClamp _ _ _ _).mono ?_
  rintro e w' ⟨rfl, rfl⟩
  rw [HC.out]
  have hlit := World.ownsRow_lit (base := 0) (size := 1) (e := 3) w1 #[.int .i64 c] 1 (Nat.zero_le _) (by decide) rfl
  have HLIT := Lib.hid (Reads.of_own hlit)
  obtain ⟨A1, cap1, rfl, hcap1, _⟩ := hown1'.form
  have HOWN := Lib.hid (Own.later ((Mod.refl (fun _ => False) w1).alloc (.cells #[.int .i64 c] 3)) hown1')
  have HB1 := Lib.hid hb1
  have hsz1 := m1.size
  clear hlit hb1
  have hbase1 : ∀ k, (Value.slice A1 zs.length cap1).ownBlock = some k → w.heap.size ≤ k := fun k e => hown1'.base e
  have HBA := Lib.hid hbase1
  clear hbase1
  go_wp2_with (at_builtin
               refine wpList_append_any _ rfl (.tmp 10) (.tmp 13) _ rfl w.heap.size 3 i0 _ 1 8 Try.underlying22 hi0 hz0 hz1 hz2 rfl (by omega) (.slice A1 zs.length cap1) zs.length (zs.flatMap encI) rfl HOWN.out _ (some ⟨w1.heap.size, 0, none⟩) 1 1 [.int .i64 c] rfl HLIT.out H1C.out (by simp only [maxLen]; omega) (by omega) (by simp; omega) ?_
               intro v2 w2 hown2 hgr2 hat2
               have hown2' : Own w2 w.heap.size 3 1 encI v2 (zs ++ [c]) := by
                 unfold Own
                 rw [flat_snoc, List.length_append]
                 exact hown2
               obtain ⟨g2, cap2, rfl, hcap2, hg2, hg2'⟩ := hown2'.form1 (by simp)
               rw [List.length_append, List.length_singleton] at hcap2 hown2' ⊢
               have HO2 := Lib.hid hown2'
               clear hown2 hown2' hat2
               have hb2 := (HB1.out.old (.cells #[.int .i64 c] 3)).mod (Mod.ofGrown hgr2) (fun e => by
                 have := HBA.out b e
                 omega)
               have hk2 : w2.cell? ⟨b, 2, none⟩ = some (.slice A zs.length cap) := hb2.cell 2
               have hf2 : w2.frozen? ⟨b, 2, none⟩ = false := hb2.free 2)
  have m2 : Mod (fun k => k = b) w w2 := (m1.alloc (.cells #[.int .i64 c] 3)).trans (Mod.ofGrown hgr2) (fun k hk e => by
    have := hown1'.base e
    omega)
  have hc2 := hb2.cell
  have hne2 : ¬ g2 = b := by omega
  have HB2 := Lib.hid hb2
  have hd1 : cap2 ≠ 1 ∨ zs.length = 0 := by omega
  clear hgr2 hb2 hown1' HB1 HLIT HOWN m1
  have fin : ∀ (w3 : World) (K : Nat), K ≤ 1 → K = zs.length + 1 - most.toNat → (K = 1 → cap2 ≠ 1) → Blk w3 b 30 #[.int .i64 lev, .int .i64 most, .slice (some ⟨g2, K, none⟩) (zs.length + 1 - K) (cap2 - K)] → Mod (fun k => k = b) w2 w3 → ∃ g', Rm w3 b g' lev most ((zs ++ [c]).drop (zs.length + 1 - most.toNat)) ∧ ∀ k, g' = some k → w.heap.size ≤ k := fun w3 K hK hKm hK1 hb3 m3 => by
    rw [← hKm]
    have o1 : Own w3 w.heap.size 3 1 encI (.slice (some ⟨g2, 0, none⟩) (zs.length + 1) cap2) (zs ++ [c]) := Own.mod m3 HO2.out (fun k hk e => by
      have := HO2.out.base hk
      omega)
    have h := o1.has.cut (k := K) encI_len (by omega)
    refine ⟨some g2, ⟨_, rfl, hb3, ?_, fun e => hne2 (Option.some.inj e)⟩, fun k hk => ?_⟩
    · by_cases h1 : K = 1
      · rw [if_neg (by have := hK1 h1; omega)] at h
        subst h1
        exact h
      · obtain rfl : K = 0 := by omega
        rw [if_neg (by omega)] at h
        exact h
    · have h' : g2 = k := Option.some.inj hk
      omega
  have FIN := Lib.hid fin
  clear fin
  by_cases hfull : most < (zs.length : Int) + 1
  · have hq : cap2 ≠ 1 := by omega
    have HK1 := Lib.hid (HKK.out.1 (by omega))
    clear hd1
    go_wp2_with fail
    go_quiet (fail)
    go_wp2_with fail
    go_end0
    exact ⟨rfl, FIN.out _ 1 (Nat.le_refl _) HK1.out (fun _ => hq) (((HB2.out.set 2 _).drewN _).set 2 _) ((((Mod.refl (· = b) w2).set1 2 _).drewN _).set1 2 _), ((m2.set1 2 _).drewN _).set1 2 _⟩
  · have HK1 := Lib.hid (HKK.out.2 (by omega))
    clear hd1
    go_wp2_with fail
    go_quiet (fail)
    go_wp2_with fail
    go_end0
    exact ⟨rfl, FIN.out _ 0 (Nat.zero_le _) HK1.out (fun h => absurd h (by decide)) ((HB2.out.set 2 _).drewN _) (((Mod.refl (· = b) w2).set1 2 _).drewN _), (m2.set1 2 _).drewN _⟩
end Go.Proofs.Ytodinfadheabpaa
