/- The contract of the program's Parse. -/
import Derived.Test.YtpnicodjjbincaaDoorSAtoW
import Derived.Great.Walk
namespace Go.Proofs.YtpnicodjjbincaaDoor
open Go.RowKit
set_option linter.unusedVariables false
set_option maxHeartbeats 8000000
set_option maxRecDepth 100000
theorem has_tab {w : World} {b : Nat} (h : Blk w b 58 tabV) : Has w w.heap.size 2 encK (.slice (some ⟨b, 0, none⟩) 15 15) kindW := by
  have hlt := h.lt
  refine ⟨some ⟨b, 0, none⟩, 15, rfl, Nat.le_refl _, (fun e => by cases e), ⟨rfl, fun _ => ⟨_, rfl, hlt, fun j u hu => ?_⟩⟩, fun g e _ => ?_⟩
  · have e : kindW.flatMap encK = tabV.toList := rfl
    rw [e, Array.getElem?_toList] at hu
    have := h.cell j
    rw [hu] at this
    simpa [Go.WideShapes.add_plain] using this
  · obtain rfl := Option.some.inj e
    exact ⟨rfl, hlt⟩
theorem tab_fields {w : World} {b : Nat} (h : Blk w b 58 tabV) (k : Nat) (hk : k < 15) : w.cell? ⟨b, k * 2 + 1, none⟩ = some (.string (tb (fieldsK k))) := by
  rw [h.cell]
  rcases (show k = 0 ∨ k = 1 ∨ k = 2 ∨ k = 3 ∨ k = 4 ∨ k = 5 ∨ k = 6 ∨ k = 7 ∨ k = 8 ∨ k = 9 ∨ k = 10 ∨ k = 11 ∨ k = 12 ∨ k = 13 ∨ k = 14 by omega) with rfl | rfl | rfl | rfl | rfl | rfl | rfl | rfl | rfl | rfl | rfl | rfl | rfl | rfl | rfl <;> rfl
theorem setRow_blk {w : World} {g : Nat} {t : TypeId} {old cs : Array Value} (h : Blk w g t old) : Blk (w.setRow g cs) g t cs := setRow_heap w g old cs t (0, 0) h
theorem setRow_mod (w : World) (g : Nat) (cs : Array Value) : Mod (fun i => i = g) w (w.setRow g cs) := ⟨rfl, rfl, rfl, by simp [World.setRow], fun i hi hn => setRow_other _ _ i _ hn⟩
theorem blk5 {w : World} {b : Nat} {t : TypeId} {a0 a1 a2 a3 a4 : Value} (h : Blk w b t #[a0, a1, a2, a3, a4]) (v0 v1 v2 v3 v4 : Value) :
    Blk (((((w.setCell ⟨b, 0, none⟩ v0).setCell ⟨b, 1, none⟩ v1).setCell ⟨b, 2, none⟩ v2).setCell ⟨b, 3, none⟩ v3).setCell ⟨b, 4, none⟩ v4) b t #[v0, v1, v2, v3, v4] :=
  ((((h.set 0 v0).set 1 v1).set 2 v2).set 3 v3).set 4 v4
theorem mod5 (w : World) (b : Nat) (v0 v1 v2 v3 v4 : Value) :
    Mod (fun i => i = b) w (((((w.setCell ⟨b, 0, none⟩ v0).setCell ⟨b, 1, none⟩ v1).setCell ⟨b, 2, none⟩ v2).setCell ⟨b, 3, none⟩ v3).setCell ⟨b, 4, none⟩ v4) :=
  (((((Mod.refl (fun i => i = b) w).setCell (p := ⟨b, 0, none⟩) (fun _ => rfl) v0).setCell (p := ⟨b, 1, none⟩) (fun _ => rfl) v1).setCell (p := ⟨b, 2, none⟩) (fun _ => rfl) v2).setCell (p := ⟨b, 3, none⟩) (fun _ => rfl) v3).setCell (p := ⟨b, 4, none⟩) (fun _ => rfl) v4
theorem ret_cell_tmp {P : Program} {fn : Func} {p q : Tmp} {ty : TypeId} (h : fn.results = #[.cell p ty, .tmp q]) (tmps : Array Value) (w : World) (g : Nat) (t : TypeId) (cs : Array Value) (d : TypeDesc) (v : Value)
    (hp : tmps.getD p undef = .pointer (some ⟨g, 0, none⟩)) (hv : tmps.getD q undef = v) (hg : Blk w g t cs)
    (hu : P.underlying ty = some d) (hd : (match d with | .struct _ | .array _ _ => true | _ => false) = true) (hi : (P.info? ty).map (·.size) = some cs.size) :
    (results fn tmps).run P w = .ok (.tuple #[.agg cs, v]) w := by
  have hp' : tmps[p]?.getD undef = .pointer (some ⟨g, 0, none⟩) := by simpa using hp
  have hv' : tmps[q]?.getD undef = v := by simpa using hv
  simp [results, h, hp', hv', asAddr, run_loadVar_row w g t ty cs (0, 0) d hg hu hd hi]
theorem unhexP_len : ∀ w : Tx, (unhexP w).length ≤ w.length
  | [] => Nat.le_refl _
  | [_] => by simp [unhexP]
  | x :: y :: r => by
    have := unhexP_len r
    simp only [unhexP, List.length_cons]
    omega
theorem fillP_nil (o : OpT) (r : List Tx) : fillP o [] r = o := by cases r <;> rfl
theorem fillP_step (o : OpT) (c : UInt8) (f : Tx) (w : Tx) (r : List Tx) : fillP o (c :: f) (w :: r) = fillP (fill1 o c w) f r := rfl
theorem dash_eq {w : Tx} (h : w = [45]) : (tb w).toList = [45] := by rw [ByteArray.toList_eq, tb_data, h]
theorem dash_ne {w : Tx} (h : w ≠ [45]) : ¬ (tb w).toList = [45] := by rw [ByteArray.toList_eq, tb_data]; exact h
theorem parOk_of {tx x : Tx} {ws : List Tx} (h : cutT 32 tx = x :: ws) : parOk tx = true ↔ 1 ≤ placeF x kindW 0 ∧ (cutT 32 tx).length = 1 + (fieldsK (placeF x kindW 0).toNat).length := by
  unfold parOk
  rw [show wordsT tx = cutT 32 tx from rfl, h]
  simp
theorem parO_of {tx x : Tx} {ws : List Tx} (h : cutT 32 tx = x :: ws) : parO tx = fillP { zeroO with kind := placeF x kindW 0 } (fieldsK (placeF x kindW 0).toNat) ws := by
  unfold parO
  rw [show wordsT tx = cutT 32 tx from rfl, h]
  rfl
theorem parseW (s : ByteArray) (hs : s.size ≤ 100000) (w : World) (E : Env w) :
    Calls Tryd.prog 8 #[.string s] w fun e w' => (∃ dv, e = .returned (.tuple #[.agg (opV (parP s.data.toList).1 dv), .int .i64 (parP s.data.toList).2]) ∧ Has w' w'.heap.size 1 encB dv (parP s.data.toList).1.data) ∧ Mod (fun _ => False) w w' := by
  obtain ⟨tx, rfl⟩ : ∃ tx, s = tb tx := ⟨s.data.toList, (tb_of s).symm⟩
  rw [tb_data]
  rw [tb_size] at hs
  generalize hR : parP tx = R
  have HR := Lib.hid hR
  have HE := Lib.hid E
  clear hR E
  have hm1 := (Mod.refl (fun _ => False) w).alloc (.cells #[.int .i64 0, .int .i64 0, .int .i64 0, .int .i64 0, .slice none 0 0] 26)
  have hb1 := Blk.new w 26 #[.int .i64 0, .int .i64 0, .int .i64 0, .int .i64 0, .slice none 0 0]
  go_enter Tryd.func8, Tryd.ntmps8
  go_wp2_with fail
  generalize hw1 : w.alloc (.cells #[.int .i64 0, .int .i64 0, .int .i64 0, .int .i64 0, .slice none 0 0] 26) = w1 at *
  generalize hb2 : w.heap.size = b2 at *
  have hs1 : b2 < w1.heap.size := hb1.lt
  refine (splitW (tb tx) 32 w1 (by rw [tb_size]; omega) (HE.out.later hm1).maxl).mono ?_
  rintro e w2 ⟨⟨gl, rfl, ho2⟩, m2⟩
  rw [tb_data] at *
  have hne := wordsT_ne 32 tx
  obtain ⟨x, ws, hxw⟩ : ∃ x ws, cutT 32 tx = x :: ws := by
    cases h : cutT 32 tx with
    | nil => exact absurd h hne
    | cons x ws => exact ⟨x, ws, rfl⟩
  have hlw : (cutT 32 tx).length ≤ 100001 := by
    rw [wordsT_len]
    have := List.count_le_length (a := 32) (l := tx)
    omega
  have hgl := ho2.lt gl rfl
  generalize hnw : (cutT 32 tx).length = nw at *
  have hm3 := (hm1.trans m2 (fun _ _ e => e)).alloc (.cells #[.slice (some ⟨gl, 0, none⟩) nw nw] 39)
  have hb3 := Blk.new w2 39 #[.slice (some ⟨gl, 0, none⟩) nw nw]
  have ho3 := ho2.later ((Mod.refl (fun _ => False) w2).alloc (.cells #[.slice (some ⟨gl, 0, none⟩) nw nw] 39))
  have hbr3 := ((hb1.mod m2 (fun e => e)).old (.cells #[.slice (some ⟨gl, 0, none⟩) nw nw] 39))
  have hs2 := m2.size
  go_upto_region 2 with fail
  generalize hw3 : w2.alloc (.cells #[.slice (some ⟨gl, 0, none⟩) nw nw] 39) = w3 at *
  have hs3 : w3.heap.size = w2.heap.size + 1 := by rw [← hw3]; simp
  generalize hb4 : w2.heap.size = b4 at *
  have HM3 := Lib.hid hm3
  have HB3 := Lib.hid hb3
  have HO3 := Lib.hid ho3
  have HBR3 := Lib.hid hbr3
  have HNW := Lib.hid hnw
  have HXW := Lib.hid hxw
  clear hm3 hb3 ho3 hbr3 hw3 hb4 m2 ho2 hm1 hb1 hw1 hne hnw hxw
  refine wp_region_lit ?_
  go_wp2_with fail
  refine (wordsW w3).mono ?_
  rintro e w4 ⟨rfl, m4⟩
  rename_i K4 hK4
  refine hK4 _ _ ?_
  refine Go.Great.wpList_allocTo rfl (some 5) rfl (.pointer (some ⟨w4.heap.size, 0, none⟩)) (.cells (Array.replicate 30 (.string ⟨#[]⟩)) 58) (by kernel_rfl) ?_
  refine wpList_store_row rfl 58 _ _ rfl w4.heap.size tabV (by kernel_rfl) (by kernel_rfl) 58 _ (heap_alloc_new w4 _) (by kernel_rfl) (by kernel_rfl) (by kernel_rfl) ?_
  refine wpList_nil ?_
  have hb5 := setRow_blk (cs := tabV) (Blk.new w4 58 (Array.replicate 30 (.string ⟨#[]⟩)))
  have hm5 : Mod (fun _ => False) w3 ((w4.alloc (.cells (Array.replicate 30 (.string ⟨#[]⟩)) 58)).setRow w4.heap.size tabV) := (m4.alloc _).trans (setRow_mod _ _ _) (fun i hi e => by have e' : i = w4.heap.size := e; have := m4.size; omega)
  have hs5 := hm5.size
  have hs4 := m4.size
  generalize hw5 : (w4.alloc (.cells (Array.replicate 30 (.string ⟨#[]⟩)) 58)).setRow w4.heap.size tabV = w5 at *
  generalize hb55 : w4.heap.size = b5 at *
  have HM5 := Lib.hid hm5
  have HB5 := Lib.hid hb5
  clear hm5 hb5 hw5 hb55 m4
  rename_i K5 hK5
  refine hK5 _ _ ?_
  simp only [Act.put, List.setIfInBounds_toArray, List.set_cons_zero, List.set_cons_succ]
  have hx5 : w5.cell? ⟨gl, 0, none⟩ = some (.string (tb x)) := by
    have h := (HO3.out.later HM5.out).cell encT_len (i := 0) (x := x) (by rw [HXW.out]; rfl) (j := 0) (by omega)
    simpa [encT] using h
  have hl5 : w5.cell? ⟨b4, 0, none⟩ = some (.slice (some ⟨gl, 0, none⟩) nw nw) := (HB3.out.mod HM5.out (fun e => e)).cell 0
  have hnw0 : 0 < nw := by rw [← HNW.out, HXW.out]; simp
  have hm6 := (HM3.out.trans HM5.out (fun _ _ e => e)).alloc (.cells #[.int .i64 0, .int .i64 0, .int .i64 0, .int .i64 0, .slice none 0 0] 26)
  have hmx6 := (Mod.refl (fun _ => False) w5).alloc (.cells #[.int .i64 0, .int .i64 0, .int .i64 0, .int .i64 0, .slice none 0 0] 26)
  have hb6 := Blk.new w5 26 #[.int .i64 0, .int .i64 0, .int .i64 0, .int .i64 0, .slice none 0 0]
  have HO6 := Lib.hid ((HO3.out.later HM5.out).later hmx6)
  have HB46 := Lib.hid ((HB3.out.mod HM5.out (fun e => e)).mod hmx6 (fun e => e))
  have HB56 := Lib.hid (HB5.out.mod hmx6 (fun e => e))
  have HBR6 := Lib.hid ((HBR3.out.mod HM5.out (fun e => e)).mod hmx6 (fun e => e))
  have hs6 := hmx6.size
  have hcl4 := HB46.out.lt
  have hidx := idxFuncW _ kindW gl b4 nw x _ (has_tab HB56.out) (HB46.out.cell 0) hnw0 ((hmx6.cell (p := ⟨gl, 0, none⟩) (by simp only; omega) (fun e => e)).trans hx5) (by decide)
  clear hx5 hl5 hmx6
  go_wp2_with fail
  refine hidx.mono ?_
  rintro e w7 ⟨rfl, m7⟩
  have hb7 := hb6.mod m7 (fun e => e)
  generalize hb66 : w5.heap.size = b6 at *
  have hkb := placeF_bd x kindW 0
  generalize hkz : placeF x kindW 0 = kz at *
  have hfz := hb7.free 0
  have hc7 := hb7.cell 0
  have hb8 := hb7.set 0 (.int .i64 kz)
  have hm8 : Mod (fun i => i = b6) w7 (w7.setCell ⟨b6, 0, none⟩ (.int .i64 kz)) := (Mod.refl (fun i => i = b6) w7).setCell (p := ⟨b6, 0, none⟩) (fun _ => rfl) _
  have HO8 := Lib.hid ((HO6.out.later m7).mod hm8 (fun z e1 e2 => by have := Option.some.inj e1; simp only at this; omega))
  have HB48 := Lib.hid ((HB46.out.mod m7 (fun e => e)).mod hm8 (fun e => by omega))
  have HB58 := Lib.hid ((HB56.out.mod m7 (fun e => e)).mod hm8 (fun e => by have := HB5.out.lt; omega))
  have HBR8 := Lib.hid ((HBR6.out.mod m7 (fun e => e)).mod hm8 (fun e => by omega))
  have HM8 := Lib.hid ((hm6.trans m7 (fun _ _ e => e)).trans hm8 (fun i hi e => by omega))
  have hs7 := m7.size
  have hs8 := hm8.size
  have hs6' := hb6.lt
  have HB8 : Hid (Blk (w7.setCell ⟨b6, 0, none⟩ (.int .i64 kz)) b6 26 #[.int .i64 kz, .int .i64 0, .int .i64 0, .int .i64 0, .slice none 0 0]) := Lib.hid hb8
  have HKZ := Lib.hid hkz
  clear hidx hb8 hm8 hb6 hm6 HO6 HB46 HB56 HBR6 HB5 HB3 HO3 HBR3 hb7 m7 hb66 hkz
  go_upto_region 5 with fail
  clear hfz hc7
  generalize hw8 : w7.setCell ⟨b6, 0, none⟩ (.int .i64 kz) = w8 at *
  clear hw8
  have hpk := parOk_of HXW.out
  have hpO := parO_of HXW.out
  rw [HKZ.out] at hpk hpO
  rw [HNW.out] at hpk
  have HPK := Lib.hid hpk
  have HPO := Lib.hid hpO
  clear hpk hpO
  have hbd15 : kz ≤ 14 := by
    have : kindW.length = 15 := rfl
    omega
  have hbk8 := HB8.out.lt
  by_cases k1 : kz < 1
  · have hRR : R = (zeroO, 2) := by
      rw [← HR.out]
      unfold parP
      rw [if_neg (fun e => by have := (HPK.out.1 e.1).1; omega)]
    subst hRR
    have hkc : ∀ y : Later w8, y.world.cell? ⟨b6, 0, none⟩ = some (.int .i64 kz) := fun y => (HB8.out.later y).cell 0
    refine region_later (by kernel_rfl) (by kernel_rfl) ?_
    repeat (go_big_quiet_step (fail))
    refine wpQuiet_nil ?_
    intro _ hw'
    obtain ⟨y, hw''⟩ := hw'
    subst hw''
    have hbr := HBR8.out.later y
    have c0 := hbr.cell 0
    have c1 := hbr.cell 1
    have c2 := hbr.cell 2
    have c3 := hbr.cell 3
    have c4 := hbr.cell 4
    have f0 := hbr.free 0
    have f1 := hbr.free 1
    have f2 := hbr.free 2
    have f3 := hbr.free 3
    have f4 := hbr.free 4
    clear hkc
    go_wp2_with fail
    refine bodyPost_ret (ret_cell_tmp (p := 2) (q := 3) (by kernel_rfl) _ _ b2 26 #[.int .i64 0, .int .i64 0, .int .i64 0, .int .i64 0, .slice none 0 0] _ (.int .i64 2) (by kernel_rfl) (by kernel_rfl) (blk5 hbr _ _ _ _ _) Tryd.underlying26 (by kernel_rfl) (by kernel_rfl)) (by kernel_rfl) ?_
    exact ⟨⟨_, rfl, Has.nil⟩, (HM8.out.trans y.mod (fun _ _ e => e)).trans (mod5 _ b2 _ _ _ _ _) (fun i hi e => by omega)⟩
  · obtain ⟨k, rfl⟩ : ∃ k : Nat, kz = k := ⟨kz.toNat, by omega⟩
    have hk15 : k < 15 := by omega
    have hbd := fields_bd ⟨k, hk15⟩
    have hch := fields_chars ⟨k, hk15⟩
    simp only at hbd hch
    have hk2 : ((k : Nat) : Int).toNat = k := rfl
    rw [hk2] at HPK HPO
    have hfc : ∀ y : Later w8, y.world.cell? ⟨b5, k * 2 + 1, none⟩ = some (.string (tb (fieldsK k))) := fun y => tab_fields (HB58.out.later y) k hk15
    have hkc : ∀ y : Later w8, y.world.cell? ⟨b6, 0, none⟩ = some (.int .i64 (k : Int)) := fun y => (HB8.out.later y).cell 0
    have hlc : ∀ y : Later w8, y.world.cell? ⟨b4, 0, none⟩ = some (.slice (some ⟨gl, 0, none⟩) nw nw) := fun y => (HB48.out.later y).cell 0
    have hfc8 := tab_fields HB58.out k hk15
    generalize hFl : fieldsK k = Fl at *
    have hts := tb_size Fl
    generalize hfl : Fl.length = fl at *
    have k1' : decide ((k : Int) < 1) = false := by simpa using k1
    have kk0 : (0 : Int) ≤ (k : Int) := by omega
    have kk1 : (k : Int) < 15 := by omega
    have kw : IntKind.i64.wrap (1 + (fl : Int)) = 1 + (fl : Int) := by rw [IntKind.wrap_i64]; omega
    by_cases hcnt : nw = 1 + fl
    · have hokp := HPK.out.2 ⟨by omega, hcnt⟩
      have q1 : (nw : Int) = 1 + (fl : Int) := by omega
      have q2 : ((nw : Int) == 1 + (fl : Int)) = true := by simpa using q1
      have q3 : ((nw : Int) != 1 + (fl : Int)) = false := by simpa using q1
      have hwsl : ws.length = fl := by
        have := HNW.out
        rw [HXW.out] at this
        simp only [List.length_cons] at this
        omega
      have HOKP := Lib.hid hokp
      have HCH := Lib.hid hch
      have HFL := Lib.hid hFl
      clear hcnt hokp hch hFl
      refine region_later (by kernel_rfl) (by kernel_rfl) ?_
      repeat (go_big_quiet_step (fail))
      refine wpQuiet_nil ?_
      intro _ hw'
      obtain ⟨y, hw''⟩ := hw'
      subst hw''
      have hkc9 := hkc y
      have hfc9 := hfc y
      have hm9 := HM8.out.trans y.mod (fun _ _ e => e)
      have HB49 := Lib.hid ((HB48.out.later y).old (.stringIter (tb Fl) 0))
      have HB69 := Lib.hid ((HB8.out.later y).old (.stringIter (tb Fl) 0))
      have HBR9 := Lib.hid ((HBR8.out.later y).old (.stringIter (tb Fl) 0))
      have HO9 := Lib.hid ((HO8.out.later y.mod).later ((Mod.refl (fun _ => False) y.world).alloc (.stringIter (tb Fl) 0)))
      have HM9 := Lib.hid (hm9.alloc (.stringIter (tb Fl) 0))
      have hsy := y.mod.size
      have hit9 := World.iter_heap y.world (tb Fl) 0
      clear hkc hfc hlc hfc8 hm9
      generalize hw9 : y.world = w9 at *
      clear hw9
      go_wp2_with fail
      change Code.wp _ _ _ _ (w9.iter (tb Fl) 0)
      change Hid (Blk (w9.iter (tb Fl) 0) _ _ _) at HB49
      change Hid (Blk (w9.iter (tb Fl) 0) _ _ _) at HB69
      change Hid (Blk (w9.iter (tb Fl) 0) _ _ _) at HBR9
      change Hid (Own (w9.iter (tb Fl) 0) _ _ _ _ _ _) at HO9
      change Hid (Mod _ _ (w9.iter (tb Fl) 0)) at HM9
      have hs9 : (w9.iter (tb Fl) 0).heap.size = w9.heap.size + 1 := by simp [World.iter]
      generalize hbi : w9.heap.size = bi at *
      generalize w9.iter (tb Fl) 0 = wl at *
      have HIT9 := Lib.hid hit9
      have HF0 : Hid (fillP { zeroO with kind := (k : Int) } Fl ws = parO tx) := Lib.hid HPO.out.symm
      generalize hoF : parO tx = oF at *
      have HOF := Lib.hid hoF
      clear hkc9 hfc9 hit9 hoF
      go_loopw [7] (fun _ wr => ∃ (pos : Nat) (o : OpT) (dv : Value), pos ≤ fl ∧ wr.heap[bi]? = some (.stringIter (tb Fl) pos) ∧ Blk wr b6 26 (opV o dv) ∧ Own wr (bi + 1) 5 1 encB dv o.data ∧ Mod (fun i => i = bi ∨ i = b6) wl wr ∧ Hid (fillP o (Fl.drop pos) (ws.drop pos) = oF) ∧ o.data.length ≤ 100000) (fun _ wr => fl - wr.iterPos bi)
      case atStart => exact ⟨0, { zeroO with kind := (k : Int) }, .slice none 0 0, by omega, HIT9.out, HB69.out, Own.nil, Mod.refl _ _, HF0, by simp [zeroO]⟩
      case round =>
        obtain ⟨pos, o, dv, hpos, hit, hb6r, hod, hm, hrel, hdl⟩ := hrel
        have hmu : wr.iterPos bi = pos := by simp [World.iterPos, hit]
        have hsz := hm.size
        by_cases hp : pos < fl
        · have hp2 : pos < (tb Fl).size := by rw [hts]; exact hp
          have hp3 : pos < Fl.length := by omega
          obtain ⟨c, hdr, hcm, hcx⟩ := tb_at Fl pos hp3
          have hcc := HCH.out c hcm
          have h128 : ((tb Fl)[pos]'hp2).toNat < 128 := by rw [hcx]; rcases hcc with rfl | rfl | rfl | rfl <;> decide
          have hnext : ∀ ty, (Instr.next (.pointer (some ⟨bi, 0, none⟩)) true ty).run Tryd.prog wr = _ := fun ty => Lib.run_next_ascii_at wr bi (tb Fl) pos ty hit hp2 h128
          have hit1 := Lib.iterAt_heap wr bi (tb Fl) pos (pos + 1) hit
          have hmi := iter_mod wr bi (tb Fl) (pos + 1)
          have hm1 := hm.trans hmi (fun _ _ e => .inl e)
          have hb61 := hb6r.mod hmi (by show ¬ b6 = bi; omega)
          have hod1 := hod.mod hmi (fun z e1 e2 => by have := hod.base e1; omega)
          rw [hcx] at hnext
          have hwx : pos < ws.length := by omega
          have hw? := List.getElem?_eq_getElem hwx
          have hwd := List.drop_eq_getElem_cons hwx
          rw [hdr, hwd, fillP_step] at hrel
          have hwmem : ws[pos]'hwx ∈ cutT 32 tx := by rw [HXW.out]; exact List.mem_cons_of_mem _ (List.getElem_mem hwx)
          have hw0l := wordsT_bound 32 tx _ hwmem
          generalize ws[pos]'hwx = w0 at *
          generalize wr.iterAt bi (tb Fl) (pos + 1) = W1 at hnext hit1 hm1 hb61 hod1 hmi
          have hsz1 := hm1.size
          have HW1 := Lib.hid (HM9.out.trans hm1 (fun i hi e => by omega))
          have hb41 := HB49.out.mod hm1 (by omega)
          have ho1 := HO9.out.mod hm1 (fun z e1 e2 => by have := Option.some.inj e1; simp only at this; omega)
          have hlc1 : W1.cell? ⟨b4, 0, none⟩ = some (.slice (some ⟨gl, 0, none⟩) nw nw) := hb41.cell 0
          have hwc1 : W1.cell? ⟨gl, pos + 1, none⟩ = some (.string (tb w0)) := by
            have h := ho1.cell encT_len (i := pos + 1) (x := w0) (by rw [HXW.out]; simpa using hw?) (j := 0) (by omega)
            simpa [encT] using h
          have hbil : bi < W1.heap.size := by omega
          have pw : IntKind.i64.wrap ((pos : Int) + 1) = (pos : Int) + 1 := by rw [IntKind.wrap_i64]; omega
          have pp0 : (0 : Int) ≤ (pos : Int) + 1 := by omega
          have pp1 : (pos : Int) + 1 < (nw : Int) := by omega
          have pp2 : ((pos : Int) + 1).toNat = pos + 1 := rfl
          have hw0s : (tb w0).size ≤ 100000 := by rw [tb_size]; omega
          have hcells := hb61.cell
          have HIT1 := Lib.hid hit1
          have HM1 := Lib.hid hm1
          have HB61 := Lib.hid hb61
          have HOD1 := Lib.hid hod1
          have HNUM := Lib.hid (numW b6 c hcc W1)
          clear hit hm hit1 hm1 hb61 hod1 hb41 ho1 hcx hdr hwd hw? h128 hmi hb6r hod hwmem hwx
          go_wp2_with fail
          refine HNUM.out.mono ?_
          rintro e wx ⟨rfl, rfl⟩
          rcases hcc with rfl | rfl | rfl | rfl
          · rw [show numPtr b6 97 = Value.pointer (some ⟨b6, 1, none⟩) from rfl]
            have HAT := Lib.hid (atoiW (tb w0) (by omega) wx (HE.out.later HW1.out))
            rw [tb_data] at HAT
            clear hcells
            go_wp2_with fail
            refine HAT.out.mono ?_
            rintro e w6 ⟨⟨err, rfl⟩, m6⟩
            have hb66 := HB61.out.mod m6 (fun e => e)
            have ho66 := HOD1.out.later m6
            have hit6 : w6.heap[bi]? = some (.stringIter (tb Fl) (pos + 1)) := by rw [m6.block bi hbil (fun e => e)]; exact HIT1.out
            have hc6 := hb66.cell 1
            have hf6 := hb66.free 1
            have hb67 : Blk (w6.setCell ⟨b6, 1, none⟩ (.int .i64 (atoiV w0))) b6 26 (opV { o with a := atoiV w0 } dv) := hb66.set 1 _
            have hm67 : Mod (fun i => i = b6) w6 (w6.setCell ⟨b6, 1, none⟩ (.int .i64 (atoiV w0))) := (Mod.refl (fun i => i = b6) w6).setCell (p := ⟨b6, 1, none⟩) (fun _ => rfl) _
            have HIT7 := Lib.hid ((hm67.block bi (Nat.lt_of_lt_of_le hbil m6.size) (by show ¬ bi = b6; omega)).trans hit6)
            have HB67 := Lib.hid hb67
            have HOD7 := Lib.hid (ho66.mod hm67 (fun z e1 e2 => by have := HOD1.out.base e1; omega))
            have HM67 := Lib.hid ((HM1.out.trans m6 (fun _ _ e => e.elim)).trans hm67 (fun i hi e => .inr e))
            have hre : Hid (fillP { o with a := atoiV w0 } (Fl.drop (pos + 1)) (ws.drop (pos + 1)) = oF) := hrel
            clear m6 hb66 ho66 hit6 hb67 hm67
            go_wp2_with fail
            go_roundw
            case rel => exact ⟨pos + 1, { o with a := atoiV w0 }, dv, by omega, HIT7.out, HB67.out, HOD7.out, HM67.out, hre, hdl⟩
            case measure =>
              have hmu6 : World.iterPos (w6.setCell ⟨b6, 1, none⟩ (.int .i64 (atoiV w0))) bi = pos + 1 := by simp only [World.iterPos, HIT7.out]
              rw [hmu, hmu6]
              omega
          · rw [show numPtr b6 98 = Value.pointer (some ⟨b6, 2, none⟩) from rfl]
            have HAT := Lib.hid (atoiW (tb w0) (by omega) wx (HE.out.later HW1.out))
            rw [tb_data] at HAT
            clear hcells
            go_wp2_with fail
            refine HAT.out.mono ?_
            rintro e w6 ⟨⟨err, rfl⟩, m6⟩
            have hb66 := HB61.out.mod m6 (fun e => e)
            have ho66 := HOD1.out.later m6
            have hit6 : w6.heap[bi]? = some (.stringIter (tb Fl) (pos + 1)) := by rw [m6.block bi hbil (fun e => e)]; exact HIT1.out
            have hc6 := hb66.cell 2
            have hf6 := hb66.free 2
            have hb67 : Blk (w6.setCell ⟨b6, 2, none⟩ (.int .i64 (atoiV w0))) b6 26 (opV { o with b := atoiV w0 } dv) := hb66.set 2 _
            have hm67 : Mod (fun i => i = b6) w6 (w6.setCell ⟨b6, 2, none⟩ (.int .i64 (atoiV w0))) := (Mod.refl (fun i => i = b6) w6).setCell (p := ⟨b6, 2, none⟩) (fun _ => rfl) _
            have HIT7 := Lib.hid ((hm67.block bi (Nat.lt_of_lt_of_le hbil m6.size) (by show ¬ bi = b6; omega)).trans hit6)
            have HB67 := Lib.hid hb67
            have HOD7 := Lib.hid (ho66.mod hm67 (fun z e1 e2 => by have := HOD1.out.base e1; omega))
            have HM67 := Lib.hid ((HM1.out.trans m6 (fun _ _ e => e.elim)).trans hm67 (fun i hi e => .inr e))
            have hre : Hid (fillP { o with b := atoiV w0 } (Fl.drop (pos + 1)) (ws.drop (pos + 1)) = oF) := hrel
            clear m6 hb66 ho66 hit6 hb67 hm67
            go_wp2_with fail
            go_roundw
            case rel => exact ⟨pos + 1, { o with b := atoiV w0 }, dv, by omega, HIT7.out, HB67.out, HOD7.out, HM67.out, hre, hdl⟩
            case measure =>
              have hmu6 : World.iterPos (w6.setCell ⟨b6, 2, none⟩ (.int .i64 (atoiV w0))) bi = pos + 1 := by simp only [World.iterPos, HIT7.out]
              rw [hmu, hmu6]
              omega
          · rw [show numPtr b6 110 = Value.pointer (some ⟨b6, 3, none⟩) from rfl]
            have HAT := Lib.hid (atoiW (tb w0) (by omega) wx (HE.out.later HW1.out))
            rw [tb_data] at HAT
            clear hcells
            go_wp2_with fail
            refine HAT.out.mono ?_
            rintro e w6 ⟨⟨err, rfl⟩, m6⟩
            have hb66 := HB61.out.mod m6 (fun e => e)
            have ho66 := HOD1.out.later m6
            have hit6 : w6.heap[bi]? = some (.stringIter (tb Fl) (pos + 1)) := by rw [m6.block bi hbil (fun e => e)]; exact HIT1.out
            have hc6 := hb66.cell 3
            have hf6 := hb66.free 3
            have hb67 : Blk (w6.setCell ⟨b6, 3, none⟩ (.int .i64 (atoiV w0))) b6 26 (opV { o with n := atoiV w0 } dv) := hb66.set 3 _
            have hm67 : Mod (fun i => i = b6) w6 (w6.setCell ⟨b6, 3, none⟩ (.int .i64 (atoiV w0))) := (Mod.refl (fun i => i = b6) w6).setCell (p := ⟨b6, 3, none⟩) (fun _ => rfl) _
            have HIT7 := Lib.hid ((hm67.block bi (Nat.lt_of_lt_of_le hbil m6.size) (by show ¬ bi = b6; omega)).trans hit6)
            have HB67 := Lib.hid hb67
            have HOD7 := Lib.hid (ho66.mod hm67 (fun z e1 e2 => by have := HOD1.out.base e1; omega))
            have HM67 := Lib.hid ((HM1.out.trans m6 (fun _ _ e => e.elim)).trans hm67 (fun i hi e => .inr e))
            have hre : Hid (fillP { o with n := atoiV w0 } (Fl.drop (pos + 1)) (ws.drop (pos + 1)) = oF) := hrel
            clear m6 hb66 ho66 hit6 hb67 hm67
            go_wp2_with fail
            go_roundw
            case rel => exact ⟨pos + 1, { o with n := atoiV w0 }, dv, by omega, HIT7.out, HB67.out, HOD7.out, HM67.out, hre, hdl⟩
            case measure =>
              have hmu6 : World.iterPos (w6.setCell ⟨b6, 3, none⟩ (.int .i64 (atoiV w0))) bi = pos + 1 := by simp only [World.iterPos, HIT7.out]
              rw [hmu, hmu6]
              omega
          · rw [show numPtr b6 100 = Value.pointer none from rfl]
            by_cases hdash : w0 = [45]
            · have d1 := dash_eq hdash
              have hre : Hid (fillP o (Fl.drop (pos + 1)) (ws.drop (pos + 1)) = oF) := by
                have : fill1 o 100 w0 = o := by simp [fill1, hdash]
                rw [this] at hrel
                exact hrel
              clear hcells hdash
              go_wp2_with fail
              go_roundw
              case rel => exact ⟨pos + 1, o, dv, by omega, HIT1.out, HB61.out, HOD1.out, HM1.out, hre, hdl⟩
              case measure =>
                have hmu6 : World.iterPos wx bi = pos + 1 := by simp only [World.iterPos, HIT1.out]
                rw [hmu, hmu6]
                omega
            · have d1 := dash_ne hdash
              have d2 : ((tb w0).toList == [45]) = false := by simpa using d1
              have d3 : (!(tb w0).toList == [45]) = true := by simpa using d1
              have hfil : fill1 o 100 w0 = { o with data := unhexP w0 } := by simp [fill1, hdash]
              rw [hfil] at hrel
              have HUN := Lib.hid (unhexW (tb w0) (by omega) wx)
              rw [tb_data] at HUN
              have hul := unhexP_len w0
              clear hcells hdash
              go_wp2_with fail
              refine HUN.out.mono ?_
              rintro e w6 ⟨⟨dv6, rfl, hod6⟩, m6⟩
              have hb66 := HB61.out.mod m6 (fun e => e)
              have hit6 : w6.heap[bi]? = some (.stringIter (tb Fl) (pos + 1)) := by rw [m6.block bi hbil (fun e => e)]; exact HIT1.out
              have hc6 := hb66.cell 4
              have hf6 := hb66.free 4
              have hb67 : Blk (w6.setCell ⟨b6, 4, none⟩ dv6) b6 26 (opV { o with data := unhexP w0 } dv6) := hb66.set 4 _
              have hm67 : Mod (fun i => i = b6) w6 (w6.setCell ⟨b6, 4, none⟩ dv6) := (Mod.refl (fun i => i = b6) w6).setCell (p := ⟨b6, 4, none⟩) (fun _ => rfl) _
              have HIT7 := Lib.hid ((hm67.block bi (Nat.lt_of_lt_of_le hbil m6.size) (by show ¬ bi = b6; omega)).trans hit6)
              have HB67 := Lib.hid hb67
              have HOD7 := Lib.hid ((hod6.mod hm67 (fun z e1 e2 => by have := hod6.base e1; omega)).le (show bi + 1 ≤ wx.heap.size by omega))
              have HM67 := Lib.hid ((HM1.out.trans m6 (fun _ _ e => e.elim)).trans hm67 (fun i hi e => .inr e))
              clear m6 hb66 hit6 hb67 hm67 hod6
              obtain ⟨A6, c6, rfl, -⟩ := HOD7.out.form
              go_wp2_with fail
              go_roundw
              case rel => exact ⟨pos + 1, { o with data := unhexP w0 }, _, by omega, HIT7.out, HB67.out, HOD7.out, HM67.out, hrel, by show (unhexP w0).length ≤ 100000; omega⟩
              case measure =>
                have hmu6 := HIT7.out
                have hmu7 : ∀ W : World, W.heap[bi]? = some (.stringIter (tb Fl) (pos + 1)) → W.iterPos bi = pos + 1 := fun W h => by simp only [World.iterPos, h]
                rw [hmu, hmu7 _ hmu6]
                omega
        · have hp2 : ¬ pos < (tb Fl).size := by rw [hts]; exact hp
          have hnext : ∀ ty, (Instr.next (.pointer (some ⟨bi, 0, none⟩)) true ty).run Tryd.prog wr = _ := fun ty => Lib.run_next_end_at wr bi (tb Fl) pos ty hit hp2
          rw [List.drop_eq_nil_of_le (by omega), fillP_nil] at hrel
          have ho : o = oF := hrel.out
          subst ho
          have HW1 := Lib.hid (HM9.out.trans hm (fun i hi e => by omega))
          have hbr1 := HBR9.out.mod hm (by omega)
          have hcells := hb6r.cell
          have hh : Has wr wr.heap.size 1 encB dv o.data := hod.has
          obtain ⟨Ad, cd, rfl, -⟩ := hod.form
          have HBS := Lib.hid (fun (z : Nat) (e : (Value.slice Ad o.data.length cd).ownBlock = some z) => hod.base e)
          have HTX := Lib.hid (textW o _ wr hh (by omega) (HE.out.later HW1.out).pow)
          have HHD := Lib.hid hh
          have HBR1 := Lib.hid hbr1
          have HB6R := Lib.hid hb6r
          have hc0 : wr.cell? ⟨b6, 0, none⟩ = some (.int .i64 o.kind) := hcells 0
          have hc1 : wr.cell? ⟨b6, 1, none⟩ = some (.int .i64 o.a) := hcells 1
          have hc2 : wr.cell? ⟨b6, 2, none⟩ = some (.int .i64 o.b) := hcells 2
          have hc3 : wr.cell? ⟨b6, 3, none⟩ = some (.int .i64 o.n) := hcells 3
          have hc4 : wr.cell? ⟨b6, 4, none⟩ = some (.slice Ad o.data.length cd) := hcells 4
          clear hcells hit hm hb6r hod hrel hh hbr1
          go_wp2_with fail
          refine HTX.out.mono ?_
          rintro e w6 ⟨rfl, m6⟩
          have hbr := HBR1.out.mod m6 (fun e => e)
          have hb6' := HB6R.out.mod m6 (fun e => e)
          have HW6 := Lib.hid (HW1.out.trans m6 (fun _ _ e => e))
          have HHD6 := Lib.hid ((HHD.out.later m6 (Nat.le_refl _)).more m6.size)
          have c0 := hbr.cell 0
          have c1 := hbr.cell 1
          have c2 := hbr.cell 2
          have c3 := hbr.cell 3
          have c4 := hbr.cell 4
          have f0 := hbr.free 0
          have f1 := hbr.free 1
          have f2 := hbr.free 2
          have f3 := hbr.free 3
          have f4 := hbr.free 4
          have hd0 : w6.cell? ⟨b6, 0, none⟩ = some (.int .i64 o.kind) := hb6'.cell 0
          have hd1 : w6.cell? ⟨b6, 1, none⟩ = some (.int .i64 o.a) := hb6'.cell 1
          have hd2 : w6.cell? ⟨b6, 2, none⟩ = some (.int .i64 o.b) := hb6'.cell 2
          have hd3 : w6.cell? ⟨b6, 3, none⟩ = some (.int .i64 o.n) := hb6'.cell 3
          have hd4 : w6.cell? ⟨b6, 4, none⟩ = some (.slice Ad o.data.length cd) := hb6'.cell 4
          clear hc0 hc1 hc2 hc3 hc4
          by_cases hte : textO o = tx
          · have hRR : R = (o, 0) := by
              rw [← HR.out]
              unfold parP
              rw [HOF.out, if_pos ⟨HOKP.out, hte⟩]
            subst hRR
            have t1 := str_same (a := tb (textO o)) (b := tb tx) (by rw [tb_data, tb_data]; exact hte)
            have t2 : (tb (textO o)).toList = (tb tx).toList := by simpa using t1
            clear hte m6
            go_wp2_with fail
            refine bodyPost_ret (ret_cell_tmp (p := 2) (q := 3) (by kernel_rfl) _ _ b2 26 (opV o (.slice Ad o.data.length cd)) _ (.int .i64 0) (by kernel_rfl) (by kernel_rfl) (blk5 hbr _ _ _ _ _) Tryd.underlying26 (by kernel_rfl) (by kernel_rfl)) (by kernel_rfl) ?_
            have m5 := mod5 w6 b2 (.int .i64 o.kind) (.int .i64 o.a) (.int .i64 o.b) (.int .i64 o.n) (.slice Ad o.data.length cd)
            have hF := (HHD6.out.mod m5 (Nat.le_refl _) (fun z e1 e2 => by have := HBS.out z e1; omega)).more m5.size
            exact ⟨⟨_, rfl, hF⟩, HW6.out.trans m5 (fun i hi e => by omega)⟩
          · have hRR : R = (zeroO, 2) := by
              rw [← HR.out]
              unfold parP
              rw [HOF.out, if_neg (fun e => hte e.2)]
            subst hRR
            have t1 := str_other (a := tb (textO o)) (b := tb tx) (by rw [tb_data, tb_data]; exact hte)
            have t2 : ¬ (tb (textO o)).toList = (tb tx).toList := by simpa using t1
            have t3 : (!(tb (textO o)).toList == (tb tx).toList) = true := by rw [t1]; rfl
            clear hte m6
            go_wp2_with fail
            refine bodyPost_ret (ret_cell_tmp (p := 2) (q := 3) (by kernel_rfl) _ _ b2 26 #[.int .i64 0, .int .i64 0, .int .i64 0, .int .i64 0, .slice none 0 0] _ (.int .i64 2) (by kernel_rfl) (by kernel_rfl) (blk5 hbr _ _ _ _ _) Tryd.underlying26 (by kernel_rfl) (by kernel_rfl)) (by kernel_rfl) ?_
            exact ⟨⟨_, rfl, Has.nil⟩, HW6.out.trans (mod5 _ b2 _ _ _ _ _) (fun i hi e => by omega)⟩
    · have hRR : R = (zeroO, 2) := by
        rw [← HR.out]
        unfold parP
        rw [if_neg (fun e => hcnt (HPK.out.1 e.1).2)]
      subst hRR
      have q1 : ¬ (nw : Int) = 1 + (fl : Int) := by omega
      have q2 : ((nw : Int) == 1 + (fl : Int)) = false := by simpa using q1
      have q3 : ((nw : Int) != 1 + (fl : Int)) = true := by simpa using q1
      clear hcnt
      refine region_later (by kernel_rfl) (by kernel_rfl) ?_
      repeat (go_big_quiet_step (fail))
      refine wpQuiet_nil ?_
      intro _ hw'
      obtain ⟨y, hw''⟩ := hw'
      subst hw''
      have hbr := HBR8.out.later y
      have c0 := hbr.cell 0
      have c1 := hbr.cell 1
      have c2 := hbr.cell 2
      have c3 := hbr.cell 3
      have c4 := hbr.cell 4
      have f0 := hbr.free 0
      have f1 := hbr.free 1
      have f2 := hbr.free 2
      have f3 := hbr.free 3
      have f4 := hbr.free 4
      clear hkc hfc hlc hfc8
      go_wp2_with fail
      refine bodyPost_ret (ret_cell_tmp (p := 2) (q := 3) (by kernel_rfl) _ _ b2 26 #[.int .i64 0, .int .i64 0, .int .i64 0, .int .i64 0, .slice none 0 0] _ (.int .i64 2) (by kernel_rfl) (by kernel_rfl) (blk5 hbr _ _ _ _ _) Tryd.underlying26 (by kernel_rfl) (by kernel_rfl)) (by kernel_rfl) ?_
      exact ⟨⟨_, rfl, Has.nil⟩, (HM8.out.trans y.mod (fun _ _ e => e)).trans (mod5 _ b2 _ _ _ _ _) (fun i hi e => by omega)⟩
end Go.Proofs.YtpnicodjjbincaaDoor
