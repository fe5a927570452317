/- The walk of CutoffForgets. -/
import Derived.Test.YtodinfadheabpaaCutA
namespace Go.Proofs.Ytodinfadheabpaa
open Go.ChangeShapes Go.WideShapes Go.RowKit Go.Shelf
set_option linter.unusedVariables false
set_option maxHeartbeats 8000000
set_option maxRecDepth 100000
attribute [local go_sem ↓] Go.wp_at_zero Go.wp_at_succ
/-- Two of the program's meters, side by side. -/
structure Pair (w0 : World) (b c : Nat) (lev most : Int) (ys zs : List Int) (g1 g2 : Option Nat) (w : World) : Prop where
  t1 : Mt w b g1 lev most ys
  t2 : Mt w c g2 lev most zs
  md : Mod (fun _ => False) w0 w
  hb : w0.heap.size ≤ b
  bc : b < c
  f1 : ∀ q, g1 = some q → w0.heap.size ≤ q ∧ q ≠ c
  f2 : ∀ q, g2 = some q → w0.heap.size ≤ q ∧ q ≠ b ∧ g1 ≠ some q
theorem Pair.keep {w0 : World} {b c : Nat} {lev most : Int} {ys zs : List Int} {g1 g2 : Option Nat} {w w' : World} (d : Mod (fun _ => False) w w') (p : Pair w0 b c lev most ys zs g1 g2 w) : Pair w0 b c lev most ys zs g1 g2 w' :=
  ⟨p.t1.mod d (fun e => e) (fun _ _ e => e), p.t2.mod d (fun e => e) (fun _ _ e => e), p.md.trans d (fun _ _ e => e), p.hb, p.bc, p.f1, p.f2⟩
/-- A size more for the first. -/
theorem Pair.add1 {w0 : World} {b c : Nat} {lev most : Int} {ys zs ys' : List Int} {g1 g2 g' : Option Nat} {w w' : World} (p : Pair w0 b c lev most ys zs g1 g2 w) (t : Mt w' b g' lev most ys') (f : ∀ k, g' = some k → w.heap.size ≤ k) (m : Mod (fun k => k = b ∨ g1 = some k) w w') :
    Pair w0 b c lev most ys' zs g' g2 w' := by
  have hc := p.t2.lt.1
  have hs := p.md.size
  have hb := p.hb
  have hbc := p.bc
  refine ⟨t, p.t2.mod m (fun e => ?_) (fun q hq e => ?_), p.md.trans m (fun q hq e => ?_), p.hb, p.bc, fun q hq => ?_, fun q hq => ⟨(p.f2 q hq).1, (p.f2 q hq).2.1, fun e => ?_⟩⟩
  · rcases e with e | e
    · omega
    · exact (p.f1 c e).2 rfl
  · rcases e with e | e
    · exact (p.f2 q hq).2.1 e
    · exact (p.f2 q hq).2.2 e
  · rcases e with e | e
    · omega
    · have := (p.f1 q e).1
      omega
  · have := f q hq
    omega
  · have h1 := f q e
    have h2 := p.t2.lt.2 q hq
    omega
/-- A size more for the second. -/
theorem Pair.add2 {w0 : World} {b c : Nat} {lev most : Int} {ys zs zs' : List Int} {g1 g2 g' : Option Nat} {w w' : World} (p : Pair w0 b c lev most ys zs g1 g2 w) (t : Mt w' c g' lev most zs') (f : ∀ k, g' = some k → w.heap.size ≤ k) (m : Mod (fun k => k = c ∨ g2 = some k) w w') :
    Pair w0 b c lev most ys zs' g1 g' w' := by
  have hc := p.t2.lt.1
  have hs := p.md.size
  have hb := p.hb
  have hbc := p.bc
  refine ⟨p.t1.mod m (fun e => ?_) (fun q hq e => ?_), t, p.md.trans m (fun q hq e => ?_), p.hb, p.bc, p.f1, fun q hq => ?_⟩
  · rcases e with e | e
    · omega
    · exact (p.f2 b e).2.1 rfl
  · rcases e with e | e
    · exact (p.f1 q hq).2 e
    · exact (p.f2 q e).2.2 hq
  · rcases e with e | e
    · omega
    · have := (p.f2 q e).1
      omega
  · have h := f q hq
    have h1 := p.t1.lt
    refine ⟨by omega, by omega, fun e => ?_⟩
    have := h1.2 q e
    omega
theorem Pair.toMod {w0 : World} {b c : Nat} {lev most : Int} {ys zs : List Int} {g1 g2 : Option Nat} {w : World} (p : Pair w0 b c lev most ys zs g1 g2 w) : Mod (fun _ => False) w0 w := p.md
theorem walk_forgetsIn (lev : Int) (vo : Value) (os : List Int) (v : Value) (xs : List Int) (win : Int) (w : World) (ho : Ints w vo os) (hx : Ints w v xs) (h1 : 1 ≤ lev) (h2 : lev ≤ 8) (hlo : os.length ≤ 60) (hl1 : 1 ≤ xs.length) (hl : xs.length ≤ 60) :
    Calls Try.prog 5 #[.int .i64 lev, vo, v, .int .i64 win] w fun e w' => e = .returned (.bool true) ∧ Mod (fun _ => False) w w' := by
  obtain ⟨ho, _, _⟩ := ho
  obtain ⟨Ao, capo, rfl, hcapo⟩ := ho.form
  obtain ⟨hx, _, _⟩ := hx
  obtain ⟨A, cap, rfl, hcap⟩ := hx.form
  have HX := Lib.hid hx
  have HO := Lib.hid ho
  clear hx ho
  have h0 : ((xs.length : Int) == 0) = false := by rw [beq_eq_false_iff_ne]; omega
  have hd0 : (decide (xs.length = 0)) = false := by rw [decide_eq_false_iff_not]; omega
  go_enter Try.func5, Try.ntmps5
  go_wp2_with fail
  refine (cnewW lev xs.length _ h1 h2 (by omega) (by omega)).mono ?_
  rintro e w1 ⟨rfl, t1, m1⟩
  go_wp2_with fail
  refine (cnewW lev xs.length _ h1 h2 (by omega) (by omega)).mono ?_
  rintro e w2 ⟨rfl, t2, m2⟩
  have hbl := t1.lt.1
  have p2 : Pair w w.heap.size w1.heap.size lev xs.length (keptZ xs.length (os.take 0)) [] none none w2 := by
    rw [List.take_zero, keptZ_nil]
    have := m1.size
    exact ⟨t1.mod m2 (fun e => e) (fun _ _ e => e), t2, m1.trans m2 (fun _ _ e => e), Nat.le_refl _, hbl, (fun q h => by cases h), (fun q h => by cases h)⟩
  obtain ⟨b, hb⟩ : ∃ b, b = w.heap.size := ⟨_, rfl⟩
  obtain ⟨c, hc⟩ : ∃ c, c = w1.heap.size := ⟨_, rfl⟩
  rw [← hb, ← hc] at p2
  rw [← hb, ← hc]
  have P2 := Lib.hid p2
  clear t1 t2 m1 m2 hbl hb hc p2
  go_wp2_with fail
  go_loopw [13] (fun i wr => ∃ (k : Nat) (g1 g2 : Option Nat), i = .int .i64 k ∧ k ≤ os.length ∧ Pair w b c lev xs.length (keptZ xs.length (os.take k)) [] g1 g2 wr) (fun i _ => os.length - (intOf i).toNat)
  case atStart => exact ⟨0, none, none, rfl, by omega, P2.out⟩
  case round =>
    clear P2
    obtain ⟨k, g1, g2, rfl, hk, p4⟩ := hrel
    by_cases hkl : k < os.length
    · have hx? := List.getElem?_eq_getElem hkl
      obtain ⟨g, off, rfl, hg, hcell⟩ := (HO.out.later p4.md (Nat.le_refl _)).atI hx?
      have hsn : os.take (k + 1) = os.take k ++ [os[k]] := List.take_succ_eq_append_getElem hkl
      generalize os[k]'hkl = x at *
      have hks : (keptZ xs.length (os.take k)).length ≤ (xs.length : Int).toNat := by rw [keptZ_len]; omega
      have hmz := keptZ_snoc (most := xs.length) (by omega) (os.take k) x
      rw [← hsn] at hmz
      have HMZ := Lib.hid hmz
      clear hmz hsn hx?
      generalize keptZ xs.length (os.take k) = zs at *
      go_wp2_with fail
      refine (addW b g1 lev xs.length x zs _ p4.t1 (by omega) (by omega) hks).mono ?_
      rintro e w5 ⟨rfl, g1', t5, f5, m5⟩
      have p5 := p4.add1 t5 f5 m5
      rw [HMZ.out] at p5
      have P5 := Lib.hid p5
      clear p4 p5 t5 f5 m5 hcell
      go_wp2_with fail
      go_roundw
      case rel => exact ⟨k + 1, g1', g2, by go_num, by omega, P5.out⟩
      case measure => simp [intOf]; omega
    · obtain rfl : k = os.length := by omega
      rw [List.take_length] at p4
      have p6 : Pair w b c lev xs.length (keptZ xs.length (os ++ xs.take 0)) (keptZ xs.length (xs.take 0)) g1 g2 wr := by
        rw [List.take_zero, List.append_nil, keptZ_nil]
        exact p4
      have P6 := Lib.hid p6
      clear p4 p6
      obtain ⟨wo, rfl⟩ : ∃ wo : World, wo = wr := ⟨_, rfl⟩
      go_wp2_with fail
      go_loopw [14] (fun i wr => ∃ (k : Nat) (g1 g2 : Option Nat), i = .int .i64 k ∧ k ≤ xs.length ∧ Pair w b c lev xs.length (keptZ xs.length (os ++ xs.take k)) (keptZ xs.length (xs.take k)) g1 g2 wr) (fun i _ => xs.length - (intOf i).toNat)
      case atStart => exact ⟨0, g1, g2, rfl, by omega, P6.out⟩
      case round =>
        clear P6
        obtain ⟨k, g1, g2, rfl, hk, p4⟩ := hrel
        by_cases hkl : k < xs.length
        · have hx? := List.getElem?_eq_getElem hkl
          obtain ⟨g, off, rfl, hg, hcell⟩ := (HX.out.later p4.md (Nat.le_refl _)).atI hx?
          have hsn : xs.take (k + 1) = xs.take k ++ [xs[k]] := List.take_succ_eq_append_getElem hkl
          generalize xs[k]'hkl = x at *
          have hks : (keptZ xs.length (os ++ xs.take k)).length ≤ (xs.length : Int).toNat := by rw [keptZ_len]; omega
          have hks2 : (keptZ xs.length (xs.take k)).length ≤ (xs.length : Int).toNat := by rw [keptZ_len]; omega
          have hmz := keptZ_snoc (most := xs.length) (by omega) (os ++ xs.take k) x
          have hmz2 := keptZ_snoc (most := xs.length) (by omega) (xs.take k) x
          rw [List.append_assoc, ← hsn] at hmz
          rw [← hsn] at hmz2
          have HMZ := Lib.hid hmz
          have HMZ2 := Lib.hid hmz2
          clear hmz hsn hx? hmz2
          generalize keptZ xs.length (os ++ xs.take k) = ys at *
          generalize keptZ xs.length (xs.take k) = zs at *
          go_wp2_with fail
          refine (addW b g1 lev xs.length x ys _ p4.t1 (by omega) (by omega) hks).mono ?_
          rintro e w5 ⟨rfl, g1', t5, f5, m5⟩
          have p5 := p4.add1 t5 f5 m5
          rw [HMZ.out] at p5
          have hcell5 : w5.cell? ⟨g, off + k, none⟩ = some (.int .i64 x) := by
            rw [p5.md.cell (p := ⟨g, off + k, none⟩) hg (fun e => e), ← p4.md.cell (p := ⟨g, off + k, none⟩) hg (fun e => e)]
            exact hcell
          clear p4 t5 f5 m5 hcell
          go_wp2_with fail
          refine (addW c g2 lev xs.length x zs _ p5.t2 (by omega) (by omega) hks2).mono ?_
          rintro e w6 ⟨rfl, g2', t6, f6, m6⟩
          have p6 := p5.add2 t6 f6 m6
          rw [HMZ2.out] at p6
          have P6 := Lib.hid p6
          clear p5 p6 t6 f6 m6 hcell5
          go_wp2_with fail
          go_roundw
          case rel => exact ⟨k + 1, g1', g2', by go_num, by omega, P6.out⟩
          case measure => simp [intOf]; omega
        · obtain rfl : k = xs.length := by omega
          rw [List.take_length, keptZ_last (by omega), keptZ_all (by omega)] at p4
          have hzl : (xs.map fun x => clampZ x 0 1073741824).length ≤ 60 := by simpa using hl
          have hzb : ∀ z ∈ xs.map fun x => clampZ x 0 1073741824, 0 ≤ z ∧ z ≤ 1073741824 := fun z hz => by
            obtain ⟨x, _, rfl⟩ := List.mem_map.1 hz
            exact clampZ_bd x _ _ (by omega)
          generalize (xs.map fun x => clampZ x 0 1073741824) = zs at *
          have hd0 : Mod (fun _ => False) wr wr.drew := (Mod.refl _ wr).drew
          have hcw : ∀ (w' : World), Pair w b c lev xs.length zs zs g1 g2 w' → Calls Try.prog 11 #[.pointer (some ⟨b, 0, none⟩), .int .i64 win] w' fun e w2 => ∃ v, e = .returned v ∧ Own w2 w'.heap.size 3 1 encI v (cutsZ lev (clampZ win 0 1073741824) (sortZ zs)) ∧ Mod (fun _ => False) w' w2 := fun w' t => cutsW b g1 lev _ win zs w' t.t1 h1 h2 (by omega) hzb
          have hcr : ∀ (w' : World), Pair w b c lev xs.length zs zs g1 g2 w' → Calls Try.prog 11 #[.pointer (some ⟨c, 0, none⟩), .int .i64 win] w' fun e w2 => ∃ v, e = .returned v ∧ Own w2 w'.heap.size 3 1 encI v (cutsZ lev (clampZ win 0 1073741824) (sortZ zs)) ∧ Mod (fun _ => False) w' w2 := fun w' t => cutsW c g2 lev _ win zs w' t.t2 h1 h2 (by omega) hzb
          have hcl7 := cutsZ_len lev (clampZ win 0 1073741824) (sortZ zs)
          generalize cutsZ lev (clampZ win 0 1073741824) (sortZ zs) = cuts at *
          have hcl8 : cuts.length ≤ 1000000 := by omega
          have he2 : ((zs.length : Int) == (zs.length : Int)) = true := by simp
          have hbc : ¬ b = c := by have := p4.bc; omega
          have HCW := Lib.hid hcw
          have HCR := Lib.hid hcr
          clear hcw hcr hzb hcl7 h0
          go_wp2_with fail
          refine (HCW.out _ p4).mono ?_
          rintro e wa ⟨va, rfl, hva, ma⟩
          have pa := p4.keep ma
          go_wp2_with fail
          refine (HCR.out _ pa).mono ?_
          rintro e wb ⟨vb, rfl, hvb, mb⟩
          have pb := pa.keep mb
          have hva' := (hva.later mb).has
          have hvb' := hvb.has
          have HVA := Lib.hid hva'
          have HVB := Lib.hid hvb'
          clear hva hvb hva' hvb' pa p4
          go_wp2_with fail
          refine (alikeW va vb cuts _ _ _ HVA.out HVB.out hcl8).mono ?_
          rintro e wc ⟨rfl, mc⟩
          have pc := pb.keep mc
          clear pb
          go_wp2_with fail
          refine (clenW _ _ _ _ _ _ pc.t1).mono ?_
          rintro e wf ⟨rfl, rfl⟩
          go_wp2_with fail
          refine (clenW _ _ _ _ _ _ pc.t2).mono ?_
          rintro e wf ⟨rfl, rfl⟩
          go_wp2_with fail
          refine (awakeW _).mono ?_
          rintro e wj ⟨rfl, mj⟩
          have pj := pc.keep mj
          have PJ := Lib.hid pj.md
          clear pj pc
          go_wp2_with fail
          go_ret
          exact ⟨rfl, PJ.out⟩
theorem walk_forgetsNo (lev : Int) (Ao : Option Addr) (no capo : Nat) (A : Option Addr) (n cap : Nat) (win : Int) (w : World) (hn : lev < 1 ∨ (1 ≤ lev ∧ 8 < lev) ∨ (1 ≤ lev ∧ lev ≤ 8 ∧ 60 < no) ∨ (1 ≤ lev ∧ lev ≤ 8 ∧ no ≤ 60 ∧ n = 0) ∨ (1 ≤ lev ∧ lev ≤ 8 ∧ no ≤ 60 ∧ 60 < n)) :
    Calls Try.prog 5 #[.int .i64 lev, .slice Ao no capo, .slice A n cap, .int .i64 win] w fun e w' => e = .returned (.bool true) ∧ Mod (fun _ => False) w w' := by
  rcases hn with h1 | ⟨h1, h2⟩ | ⟨h1, h2, h3⟩ | ⟨h1, h2, h3, h4⟩ | ⟨h1, h2, h3, h4⟩
  · go_enter Try.func5, Try.ntmps5
    go_wp2_with fail
    refine (awakeW _).mono ?_
    rintro e w1 ⟨rfl, m1⟩
    go_wp2_with fail
    go_ret
    exact ⟨rfl, m1⟩
  · go_enter Try.func5, Try.ntmps5
    go_wp2_with fail
    refine (awakeW _).mono ?_
    rintro e w1 ⟨rfl, m1⟩
    go_wp2_with fail
    go_ret
    exact ⟨rfl, m1⟩
  · have q1 : (60 : Int) < (no : Int) := by omega
    go_enter Try.func5, Try.ntmps5
    go_wp2_with fail
    refine (awakeW _).mono ?_
    rintro e w1 ⟨rfl, m1⟩
    go_wp2_with fail
    go_ret
    exact ⟨rfl, m1⟩
  · have q1 : (no : Int) ≤ 60 := by omega
    subst h4
    go_enter Try.func5, Try.ntmps5
    go_wp2_with fail
    refine (awakeW _).mono ?_
    rintro e w1 ⟨rfl, m1⟩
    go_wp2_with fail
    go_ret
    exact ⟨rfl, m1⟩
  · have q1 : (no : Int) ≤ 60 := by omega
    have q2 : (60 : Int) < (n : Int) := by omega
    have h0 : ((n : Int) == 0) = false := by rw [beq_eq_false_iff_ne]; omega
    have hd0 : (decide (n = 0)) = false := by rw [decide_eq_false_iff_not]; omega
    go_enter Try.func5, Try.ntmps5
    go_wp2_with fail
    refine (awakeW _).mono ?_
    rintro e w1 ⟨rfl, m1⟩
    go_wp2_with fail
    go_ret
    exact ⟨rfl, m1⟩
theorem walk_cutoffForgets {vo v : Value} (w : World) (lev : Int) (w0 : (Lit.int .i64 lev).wf = true) (os : List Int) (w1 : Ints w vo os) (xs : List Int) (w2 : Ints w v xs) (win : Int) (w3 : (Lit.int .i64 win).wf = true) :
    Calls Try.prog 5 #[.int .i64 lev, vo, v, .int .i64 win] w fun e w' => e = .returned (.bool true) ∧ Below w.heap.size w w' := by
  have key : Calls Try.prog 5 #[.int .i64 lev, vo, v, .int .i64 win] w fun e w' => e = .returned (.bool true) ∧ Mod (fun _ => False) w w' := by
    by_cases hok : 1 ≤ lev ∧ lev ≤ 8 ∧ os.length ≤ 60 ∧ 1 ≤ xs.length ∧ xs.length ≤ 60
    · exact walk_forgetsIn lev vo os v xs win w w1 w2 hok.1 hok.2.1 hok.2.2.1 hok.2.2.2.1 hok.2.2.2.2
    · obtain ⟨Ao, capo, rfl, _⟩ := w1.1.form
      obtain ⟨A, cap, rfl, _⟩ := w2.1.form
      exact walk_forgetsNo lev Ao _ capo A _ cap win w (by omega)
  exact key.mono fun e w' ⟨he, hm⟩ => ⟨he, hm.below⟩
theorem open_cutoffForgets_old {H : Type} {enc : TypeId × Value → H} {w : World} {v : Value} {d : DataW H} {p : List MemPlace}
    (hv : Value.okWide Try.prog w .any 0 22 v) (h : DataW.Trod enc Try.prog w 0 (fun _ => true) true 22 v d p) : ∃ xs : List Int, Ints w v xs := open_sizes hv h
theorem open_cutoffForgets_sizes {H : Type} {enc : TypeId × Value → H} {w : World} {v : Value} {d : DataW H} {p : List MemPlace}
    (hv : Value.okWide Try.prog w .any 0 22 v) (h : DataW.Trod enc Try.prog w 0 (fun _ => true) true 22 v d p) : ∃ xs : List Int, Ints w v xs := open_sizes hv h
end Go.Proofs.Ytodinfadheabpaa
