/- The walk of CutoffAsks. -/
import Derived.Test.YtodinfadheabpaaCutL
import Derived.Test.YtodinfadheabpaaOpenI
import Derived.Deep.RegionHeld3
namespace Go.Proofs.Ytodinfadheabpaa
open Go.ChangeShapes Go.WideShapes Go.RowKit Go.Shelf
set_option linter.unusedVariables false
set_option maxHeartbeats 8000000
set_option maxRecDepth 100000
attribute [local go_sem ↓] Go.wp_at_zero Go.wp_at_succ
/-- A slice of whole numbers that came in. -/
def Ints (w : World) (v : Value) (xs : List Int) : Prop := Has w w.heap.size 1 encI v xs ∧ (∀ z ∈ xs, (Lit.int .i64 z).wf = true) ∧ xs.length ≤ 9223372036854775807
theorem open_sizes {H : Type} {enc : TypeId × Value → H} {w : World} {v : Value} {d : DataW H} {p : List MemPlace}
    (hv : Value.okWide Try.prog w .any 0 22 v) (h : DataW.Trod enc Try.prog w 0 (fun _ => true) true 22 v d p) : ∃ xs : List Int, Ints w v xs :=
  open_has Try.underlying22 Try.underlying3 (by kernel_rfl) hv h
/-- What holds while only reading and making goes on. -/
structure Sk (w0 : World) (b : Nat) (g : Option Nat) (c : Nat) (g2 : Option Nat) (vL : Value) (lev most : Int) (zs : List Int) (w : World) : Prop where
  mt : Mt w b g lev most zs
  rm : Rm w c g2 lev most zs
  bl : Blk w c 30 #[.int .i64 lev, .int .i64 most, vL]
  md : Mod (fun _ => False) w0 w
theorem Sk.keep {w0 : World} {b : Nat} {g : Option Nat} {c : Nat} {g2 : Option Nat} {vL : Value} {lev most : Int} {zs : List Int} {w w' : World} (d : Mod (fun _ => False) w w') (h : Sk w0 b g c g2 vL lev most zs w ∧ w.cell? ⟨c, 2, none⟩ = some vL) :
    Sk w0 b g c g2 vL lev most zs w' ∧ w'.cell? ⟨c, 2, none⟩ = some vL :=
  ⟨⟨h.1.mt.mod d (fun e => e) (fun _ _ e => e), h.1.rm.mod d (fun e => e) (fun _ _ e => e), h.1.bl.mod d (fun e => e), h.1.md.trans d (fun _ _ e => e)⟩, (h.1.bl.mod d (fun e => e)).cell 2⟩
theorem Sk.toMt {w0 : World} {b : Nat} {g : Option Nat} {c : Nat} {g2 : Option Nat} {vL : Value} {lev most : Int} {zs : List Int} {w : World} (h : Sk w0 b g c g2 vL lev most zs w ∧ w.cell? ⟨c, 2, none⟩ = some vL) : Mt w b g lev most zs := h.1.mt
theorem Sk.toRm {w0 : World} {b : Nat} {g : Option Nat} {c : Nat} {g2 : Option Nat} {vL : Value} {lev most : Int} {zs : List Int} {w : World} (h : Sk w0 b g c g2 vL lev most zs w ∧ w.cell? ⟨c, 2, none⟩ = some vL) : Rm w c g2 lev most zs := h.1.rm
theorem Sk.toMod {w0 : World} {b : Nat} {g : Option Nat} {c : Nat} {g2 : Option Nat} {vL : Value} {lev most : Int} {zs : List Int} {w : World} (h : Sk w0 b g c g2 vL lev most zs w ∧ w.cell? ⟨c, 2, none⟩ = some vL) : Mod (fun _ => False) w0 w := h.1.md
/-- The program's meter and the reference's, side by side. -/
def Two (w0 : World) (b c : Nat) (lev most : Int) (zs : List Int) (w : World) : Prop :=
  ∃ g1 g2 : Option Nat, Mt w b g1 lev most zs ∧ Rm w c g2 lev most zs ∧ Mod (fun _ => False) w0 w ∧ w0.heap.size ≤ b ∧ w0.heap.size ≤ c ∧ b < c ∧ c < w.heap.size ∧ (∀ q, g1 = some q → w0.heap.size ≤ q ∧ q ≠ c) ∧ (∀ q, g2 = some q → w0.heap.size ≤ q ∧ q ≠ b ∧ g1 ≠ some q)
theorem walk_asks (lev most : Int) (v : Value) (xs : List Int) (win size : Int) (w : World) (hx : Ints w v xs) (h1 : 1 ≤ lev) (h2 : lev ≤ 8) (h3 : 1 ≤ most) (h4 : most ≤ 1000) (hl : xs.length ≤ 100) :
    Calls Try.prog 3 #[.int .i64 lev, .int .i64 most, v, .int .i64 win, .int .i64 size] w fun e w' => e = .returned (.bool true) ∧ Mod (fun _ => False) w w' := by
  obtain ⟨hx, _, _⟩ := hx
  obtain ⟨A, cap, rfl, hcap⟩ := hx.form
  have HX := Lib.hid hx
  clear hx
  go_enter Try.func3, Try.ntmps3
  go_wp2_with fail
  refine (cnewW lev most _ h1 h2 h3 h4).mono ?_
  rintro e w1 ⟨rfl, t1, m1⟩
  obtain ⟨b, hb⟩ : ∃ b, b = w.heap.size := ⟨_, rfl⟩
  rw [← hb] at t1 ⊢
  have hbl := t1.lt.1
  obtain ⟨c, hc⟩ : ∃ c, c = w1.heap.size := ⟨_, rfl⟩
  have two1 : Two w b c lev most (keptZ most (xs.take 0)) (w1.alloc (.cells #[.int .i64 lev, .int .i64 most, .slice none 0 0] 30)) := by
    subst hc
    have hs := m1.size
    rw [List.take_zero, keptZ_nil]
    refine ⟨none, none, t1.mod ((Mod.refl (fun _ => False) w1).alloc _) (fun e => e) (fun _ _ e => e), ⟨.slice none 0 0, rfl, Blk.new _ _ _, Has.nil, by simp⟩, m1.alloc _, by omega, hs, hbl, by simp, (fun q h => by cases h), (fun q h => by cases h)⟩
  have TWO := Lib.hid two1
  have HB := Lib.hid hb
  clear hb two1 t1 m1
  go_wp2_with fail
  rw [← hc]
  clear hc hbl
  go_loopw [15] (fun i wr => ∃ k : Nat, i = .int .i64 k ∧ k ≤ xs.length ∧ Two w b c lev most (keptZ most (xs.take k)) wr) (fun i _ => xs.length - (intOf i).toNat)
  case atStart => exact ⟨0, rfl, by omega, TWO.out⟩
  case round =>
    clear TWO
    obtain ⟨k, rfl, hk, g1, g2, t4, r4, m4, hwb, hwc, hbc, hcl, hg1, hg2⟩ := hrel
    by_cases hkl : k < xs.length
    · have hx? := List.getElem?_eq_getElem hkl
      obtain ⟨g, off, rfl, hg, hcell⟩ := (HX.out.later m4 (Nat.le_refl _)).atI hx?
      have hsn : xs.take (k + 1) = xs.take k ++ [xs[k]] := List.take_succ_eq_append_getElem hkl
      generalize xs[k]'hkl = x at *
      have hks : (keptZ most (xs.take k)).length ≤ most.toNat := by rw [keptZ_len]; omega
      have hmz := keptZ_snoc h3 (xs.take k) x
      rw [← hsn] at hmz
      have HMZ := Lib.hid hmz
      clear hmz hsn hx?
      generalize keptZ most (xs.take k) = zs at *
      have HM4 := Lib.hid m4
      have HG1 := Lib.hid hg1
      have HG2 := Lib.hid hg2
      clear m4 hg1 hg2
      go_wp2_with fail
      refine (addW b g1 lev most x zs _ t4 h3 h4 hks).mono ?_
      rintro e w5 ⟨rfl, g1', t5, f5, m5⟩
      have r5 : Rm w5 c g2 lev most zs := r4.mod m5 (fun e => by
        rcases e with e | e
        · omega
        · exact (HG1.out c e).2 rfl) (fun q hq e => by
        rcases e with e | e
        · exact (HG2.out q hq).2.1 e
        · exact (HG2.out q hq).2.2 e)
      have hcell5 : w5.cell? ⟨g, off + k, none⟩ = some (.int .i64 x) := by
        rw [m5.cell (p := ⟨g, off + k, none⟩) (Nat.lt_of_lt_of_le hg HM4.out.size) (fun e => by
          rcases e with e | e
          · have : g = b := e
            omega
          · have := (HG1.out g e).1
            omega)]
        exact hcell
      have n5 : Mod (fun _ => False) w w5 := HM4.out.trans m5 (fun q hq e => by
        rcases e with e | e
        · omega
        · have := (HG1.out q e).1
          omega)
      have hs5 := m5.size
      clear r4 t4 m5 hcell
      go_wp2_with fail
      refine (refAddW c lev most x zs _ g2 r5 h3 h4 hks).mono ?_
      rintro e w6 ⟨rfl, ⟨g2', r6, f6⟩, m6⟩
      have two6 : Two w b c lev most (keptZ most (xs.take (k + 1))) w6 := by
        rw [← HMZ.out]
        have hs6 := m6.size
        refine ⟨g1', g2', t5.mod m6 (by omega) (fun q hq e => by have := f5 q hq; omega), r6, n5.trans m6 (fun q hq e => by omega), hwb, hwc, hbc, by omega, fun q hq => ?_, fun q hq => ?_⟩
        · have := f5 q hq
          omega
        · have h := f6 q hq
          refine ⟨by omega, by omega, fun e => ?_⟩
          have := t5.lt.2 q e
          omega
      have T6 := Lib.hid two6
      clear two6 t5 r5 n5 r6 f5 f6 m6 hcell5
      go_wp2_with fail
      go_roundw
      case rel => exact ⟨k + 1, by go_num, by omega, T6.out⟩
      case measure => simp [intOf]; omega
    · obtain rfl : k = xs.length := by omega
      rw [List.take_length] at t4 r4
      go_wp2_with fail
      refine (addNone _ _).mono ?_
      rintro e w5 ⟨rfl, rfl⟩
      have hzl : (keptZ most xs).length ≤ 1000 := by rw [keptZ_len]; omega
      have hzb := keptZ_bd (most := most) (xs := xs)
      generalize keptZ most xs = zs at *
      obtain ⟨vL, hvL, hBL, hHL, hnL⟩ := r4
      obtain ⟨AL, cL, rfl, _⟩ := hHL.form
      have hS0 : Sk w b g1 c g2 (.slice AL zs.length cL) lev most zs wr ∧ wr.cell? ⟨c, 2, none⟩ = some (.slice AL zs.length cL) := ⟨⟨t4, ⟨_, hvL, hBL, hHL, hnL⟩, hBL, m4⟩, hBL.cell 2⟩
      have hd0 : Mod (fun _ => False) wr wr.drew := (Mod.refl _ wr).drew
      have HZB := Lib.hid hzb
      have hcw : ∀ w' : World, Mt w' b g1 lev most zs → Calls Try.prog 11 #[.pointer (some ⟨b, 0, none⟩), .int .i64 win] w' fun e w2 => ∃ v, e = .returned v ∧ Own w2 w'.heap.size 3 1 encI v (cutsZ lev (clampZ win 0 1073741824) (sortZ zs)) ∧ Mod (fun _ => False) w' w2 := fun w' t => cutsW b g1 lev most win zs w' t h1 h2 hzl HZB.out
      have hcr : ∀ w' : World, Rm w' c g2 lev most zs → Calls Try.prog 12 #[.pointer (some ⟨c, 0, none⟩), .int .i64 win] w' fun e w2 => ∃ v, e = .returned v ∧ Own w2 w'.heap.size 3 1 encI v (cutsZ lev (clampZ win 0 1073741824) (sortZ zs)) ∧ Mod (fun _ => False) w' w2 := fun w' t => refCutsW c lev most win zs w' g2 t h1 h2 hzl HZB.out
      have hpw : ∀ w' : World, Mt w' b g1 lev most zs → Calls Try.prog 13 #[.pointer (some ⟨b, 0, none⟩), .int .i64 size, .int .i64 win] w' fun e w2 => e = .returned (.int .i64 (7 - cntZ (cutsZ lev (clampZ win 0 1073741824) (sortZ zs)) size)) ∧ Mod (fun _ => False) w' w2 := fun w' t => prioW b g1 lev most size win zs w' t h1 h2 hzl HZB.out
      have hpr : ∀ w' : World, Rm w' c g2 lev most zs → Calls Try.prog 14 #[.pointer (some ⟨c, 0, none⟩), .int .i64 size, .int .i64 win] w' fun e w2 => e = .returned (.int .i64 (7 - cntZ (cutsZ lev (clampZ win 0 1073741824) (sortZ zs)) size)) ∧ Mod (fun _ => False) w' w2 := fun w' t => refPrioW c lev most size win zs w' g2 t h1 h2 hzl HZB.out
      have hcl7 := cutsZ_len lev (clampZ win 0 1073741824) (sortZ zs)
      generalize cutsZ lev (clampZ win 0 1073741824) (sortZ zs) = cuts at *
      generalize (7 - (cntZ cuts size : Int)) = pr at *
      have hcl8 : cuts.length ≤ 1000000 := by omega
      have HCW := Lib.hid hcw
      have HCR := Lib.hid hcr
      have HPW := Lib.hid hpw
      have HPR := Lib.hid hpr
      have he1 : (pr == pr) = true := by simp
      have he2 : ((zs.length : Int) == (zs.length : Int)) = true := by simp
      clear hcw hcr hpw hpr hzb hcl7 t4 hvL hBL hHL hnL m4 hg1 hg2
      go_wp2_with fail
      go_region_held3 (fun w' => Sk w b g1 c g2 (.slice AL zs.length cL) lev most zs w' ∧ w'.cell? ⟨c, 2, none⟩ = some (.slice AL zs.length cL)) (first | assumption | exact Sk.keep (by assumption) (by assumption))
        (first
          | (go_at_call_of 11 (Value.pointer (some ⟨b, 0, none⟩)); refine (HCW.out _ (Sk.toMt (by assumption))).mono ?_; rintro e wa ⟨va, rfl, hva, ma⟩)
          | (go_at_call 12; refine (HCR.out _ (Sk.toRm (by assumption))).mono ?_; rintro e wb ⟨vb, rfl, hvb, mb⟩)
          | (go_at_call 10; refine (alikeW va vb cuts _ _ _ (hva.later mb).has hvb.has hcl8).mono ?_; rintro e wc ⟨rfl, mc⟩)
          | (go_at_call 10; refine (alikeW va vb cuts _ _ _ hva.has (hvb.later ma).has hcl8).mono ?_; rintro e wc ⟨rfl, mc⟩)
          | (go_at_call_of 13 (Value.pointer (some ⟨b, 0, none⟩)); refine (HPW.out _ (Sk.toMt (by assumption))).mono ?_; rintro e wd ⟨rfl, md⟩)
          | (go_at_call 14; refine (HPR.out _ (Sk.toRm (by assumption))).mono ?_; rintro e we ⟨rfl, me⟩)
          | (go_at_call_of 15 (Value.pointer (some ⟨b, 0, none⟩)); refine (clenW _ _ _ _ _ _ (Sk.toMt (by assumption))).mono ?_; rintro e wf ⟨rfl, rfl⟩)
          | (go_at_call 11; refine (cutsNone _ _).mono ?_; rintro e wg ⟨rfl, rfl⟩)
          | (go_at_call 13; refine (prioNone _ _ _).mono ?_; rintro e wh ⟨rfl, rfl⟩)
          | (go_at_call 15; refine (lenNone _).mono ?_; rintro e wi ⟨rfl, rfl⟩)
          | (go_at_call 6; refine (awakeW _).mono ?_; rintro e wj ⟨rfl, mj⟩))
      all_goals
        go_wp2_with fail
        go_ret
        exact ⟨rfl, Sk.toMod (by assumption)⟩
end Go.Proofs.Ytodinfadheabpaa
