/- One is granted something more. -/
import Derived.Test.YtigkndbkaagboaaGreatDoorSrG
import Derived.Test.YtigkndbkaagboaaGreatDoorSrA
namespace Go.Proofs.YtigkndbkaagboaaGreatDoor
open Go.RowKit Go.Sort
set_option linter.unusedVariables false
set_option linter.unusedSimpArgs false
set_option maxHeartbeats 4000000
set_option maxRecDepth 100000
attribute [local go_sem ↓] Go.wp_at_zero Go.wp_at_succ
theorem IntsAtJ {w : World} {B : Nat} {g off n cap : Nat} {l : List Nat} (h : Has w B 1 encJ (.slice (some ⟨g, off, none⟩) n cap) l) : n = l.length ∧ ∀ j, j < l.length → w.cell? ⟨g, off + j, none⟩ = some (.int .i64 ((l.map fun i : Nat => (i : Int)).getD j 0)) := by
  refine ⟨h.len rfl, fun j hj => ?_⟩
  obtain ⟨g', off', e, _, hc⟩ := h.atJ (List.getElem?_eq_getElem hj)
  injection e with e
  injection e with e1 e2
  subst e1 e2
  rw [hc]
  simp [List.getD, hj]
theorem containsW (v : Value) (l : List Nat) (x B : Nat) (w : World) (h : Has w B 1 encJ v l) (hl : l.length ≤ 1000000) :
    Calls Tryz.prog 84 #[v, .int .i64 (x : Int)] w fun e w' => e = .returned (.bool (decide (x ∈ l))) ∧ w = w' := by
  obtain ⟨A, cap, rfl, hcap⟩ := h.form
  rcases Nat.eq_zero_or_pos l.length with h0 | h0
  · have : l = [] := List.eq_nil_of_length_eq_zero h0
    subst this
    refine (Tryz.slices_Contains_int_empty A cap x w).mono ?_
    rintro e w' ⟨rfl, rfl⟩
    exact ⟨rfl, rfl⟩
  · obtain ⟨g, off, rfl, _⟩ := h.atJ (List.getElem?_eq_getElem h0)
    obtain ⟨_, hc⟩ := IntsAtJ h
    refine (Tryz.slices_Contains_int g off l.length cap (l.map fun i : Nat => (i : Int)) x w (by simp) (by omega) (fun j hj => hc j (by simpa using hj))).mono ?_
    rintro e w' ⟨rfl, rfl⟩
    refine ⟨?_, rfl⟩
    congr 2
    rw [List.take_of_length_le (by simp), Bool.eq_iff_iff]
    simp only [List.contains_iff_mem, List.mem_map, decide_eq_true_eq]
    exact ⟨fun ⟨a, h1, h2⟩ => (by omega : a = x) ▸ h1, fun h => ⟨x, h, rfl⟩⟩
/-- Grants under way in memory: block b; none of its blocks is one of F. -/
def Tn (w : World) (F : Nat → Prop) (b : Nat) (vl : Value) (st : Gs) : Prop :=
  ∃ vu vm : Value, Blk w b 86 #[vl, .int .i64 st.room, vu, vm] ∧ Own w 0 3 1 encI vu st.upto ∧ Own w 0 3 1 encJ vm st.met ∧ ¬ F b ∧
    (∀ k, vu.ownBlock = some k → ¬ F k ∧ k ≠ b) ∧ (∀ k, vm.ownBlock = some k → ¬ F k ∧ k ≠ b ∧ vu.ownBlock ≠ some k)
theorem Tn.later {w w' : World} {F : Nat → Prop} {b : Nat} {vl : Value} {st : Gs} (h : Tn w F b vl st) (m : Mod (fun _ => False) w w') : Tn w' F b vl st := by
  obtain ⟨vu, vm, h1, h2, h3, h4, h5, h6⟩ := h
  exact ⟨vu, vm, h1.mod m (fun e => e), h2.later m, h3.later m, h4, h5, h6⟩
/-- More blocks that are none of its. -/
theorem Tn.more {w : World} {F F' : Nat → Prop} {b : Nat} {vl : Value} {st : Gs} (h : Tn w F b vl st) (hf : ∀ k, F' k → F k ∨ w.heap.size ≤ k) : Tn w F' b vl st := by
  obtain ⟨vu, vm, h1, h2, h3, h4, h5, h6⟩ := h
  have l2 := h2.lt
  have l3 := h3.lt
  have l1 := h1.lt
  refine ⟨vu, vm, h1, h2, h3, fun e => ?_, fun k hk => ⟨fun e => ?_, (h5 k hk).2⟩, fun k hk => ⟨fun e => ?_, (h6 k hk).2⟩⟩
  · rcases hf _ e with h | h
    · exact h4 h
    · omega
  · rcases hf _ e with h | h
    · exact (h5 k hk).1 h
    · have := (l2 k hk).2
      omega
  · rcases hf _ e with h | h
    · exact (h6 k hk).1 h
    · have := (l3 k hk).2
      omega
theorem grantsMW (F : Nat → Prop) (B b : Nat) (A : Option Addr) (n cap : Nat) (ms : List Ms) (st : Gs) (i : Nat) (m : Ms) (ahead : Int) (w : World) (hh : Has w B 6 encM (.slice A n cap) ms) (hF : ∀ k, F k → k < w.heap.size) (ht : Tn w F b (.slice A n cap) st) (hok : GsOk ms st) (hm : ms[i]? = some m) (hp : mayP m) (hop : m.hav < m.total) (ha0 : 0 ≤ ahead) (ha1 : ahead ≤ 1099511627776) (hl : ms.length ≤ 100000) (hml : st.met.length ≤ 100000) :
    Calls Tryz.prog 36 #[.pointer (some ⟨b, 0, none⟩), .int .i64 (i : Int), .int .i64 ahead] w fun e w' => e = .returned (.tuple #[]) ∧ Tn w' F b (.slice A n cap) (stepG ms st i ahead) ∧ Mod (fun k => ¬ F k) w w' := by
  obtain ⟨i0, hi0, hz0, hz1, hz2⟩ := info_parts int_info
  obtain ⟨u, hu, u1, u2, u3⟩ := hok.at_ hm
  have hmore := moreG_eq (ahead := ahead) hm hu
  have hD : st.upto.getD i 0 = u := by rw [List.getD_eq_getElem?_getD, hu]; rfl
  have hil : i < n := by
    rw [hh.len rfl]
    exact (List.getElem?_eq_some_iff.1 hm).1
  obtain ⟨g, off, rfl, hg, c0, c1, c2, c3, c4, c5⟩ := hh.atM hm
  obtain ⟨vu, vm, hb, huo, hmo, hBb, hub, hmb⟩ := ht
  obtain ⟨gu, capu, rfl, hcu, _, hgul⟩ := huo.form1 (by have := (List.getElem?_eq_some_iff.1 hu).1; omega)
  obtain ⟨Am, capm, rfl, hcm, hAm⟩ := hmo.form
  have hcu' : w.cell? ⟨gu, i, none⟩ = some (.int .i64 u) := by
    have := huo.cell encI_len hu (j := 0) (by omega)
    rw [Nat.mul_one, Nat.add_zero] at this
    exact this
  have hcb := hb.cell
  have hfb := hb.free
  obtain ⟨p1, p2, p3, p4, p5, p6, p7, p8, p9, p10⟩ := hp
  have hutot : u ≤ m.total := u2 ⟨p1, p2, p3, p4, p5, p6, p7, p8, p9, p10⟩
  obtain ⟨r0, r1⟩ := And.intro hok.room0 hok.room1
  have had : addZ m.hav ahead = m.hav + ahead := addZ_in p1 ha0 (by omega)
  have hul : st.upto.length = n := by rw [hok.len, hh.len rfl]
  have hug : ¬ gu = b := (hub gu rfl).2
  have hgu : ¬ F gu := (hub gu rfl).1
  unfold stepG
  rw [hD]
  generalize hd : moreG ms st i ahead = d at *
  have HD := Lib.hid hd
  have HMORE := Lib.hid hmore
  have HHH := Lib.hid hh
  have HHB := Lib.hid hb
  have HUO := Lib.hid huo
  have HMO := Lib.hid hmo
  have HMB := Lib.hid hmb
  have HU := Lib.hid hu
  have HAM := Lib.hid hAm
  clear hd hmore hh hb huo hmo hmb hu hAm hm hok u3
  obtain ⟨room, upto, met⟩ := st
  simp only at *
  generalize hme : (if 0 < d ∧ i ∉ met then met ++ [i] else met) = met' at *
  have HME := Lib.hid hme
  clear hme
  go_enter Tryz.func36, Tryz.ntmps36
  go_upto_region 1 with fail
  have hmin : -1125899906842624 ≤ min m.total (m.hav + ahead) - u ∧ min m.total (m.hav + ahead) - u ≤ 1125899906842624 := by omega
  have s1 : IntKind.i64.wrap (min m.total (m.hav + ahead) - u) = min m.total (m.hav + ahead) - u := by rw [IntKind.wrap_i64]; omega
  have hcl : clampZ (min m.total (m.hav + ahead) - u) 0 room = d := by
    rw [HMORE.out]
    unfold clampZ
    split
    · omega
    · split <;> omega
  have HCL := Lib.hid hcl
  have HAD := Lib.hid had
  have ii0 : (0 : Int) ≤ (i : Int) := by omega
  have ii1 : (i : Int) < (n : Int) := by omega
  have hcb1 := hcb 1
  have hcb2 := hcb 2
  have hbl := HHB.out.lt
  have hnb : ¬ b = w.heap.size := by omega
  have hng : ¬ gu = w.heap.size := by omega
  have nb1 := World.new_ne w ⟨b, 1, none⟩ hcb1
  have nb2 := World.new_ne w ⟨b, 2, none⟩ hcb2
  have nb3 := World.new_ne w ⟨gu, i, none⟩ hcu'
  rw [hul] at hcb hcb2
  clear hcl had hmin hD
  go_cut [7] from 15 to 35 (fun x wx => x = .int .i64 d ∧ Mod (fun _ => False) w wx)
  case first =>
    go_region_held3 (fun w' => w'.cell? ⟨w.heap.size, 2, none⟩ = some (.int .i64 m.total) ∧ w'.cell? ⟨w.heap.size, 3, none⟩ = some (.int .i64 m.hav) ∧ w'.cell? ⟨b, 1, none⟩ = some (.int .i64 room) ∧ w'.cell? ⟨b, 2, none⟩ = some (.slice (some ⟨gu, 0, none⟩) n capu) ∧ w'.cell? ⟨gu, i, none⟩ = some (.int .i64 u)) (go_keep)
      (first
        | (go_at_call 82; refine (numAdd _ _ _).mono ?_; rintro e w' ⟨rfl, rfl⟩; rw [HAD.out])
        | (go_at_call 83; refine (numMin2 m.total (m.hav + ahead) _ _ (by simp)).mono ?_; rintro e w' ⟨rfl, rfl⟩)
        | (go_at_call 50; refine (numClamp _ _ _ _).mono ?_; rintro e w' ⟨rfl, rfl⟩))
    all_goals
      go_wp2_with fail
      go_meet
      case rel => exact ⟨by rw [HCL.out], (((Mod.refl _ w).alloc _).alloc _).drew⟩
  case rest =>
    obtain ⟨rfl, hmx⟩ := hcut
    have hb1 := HHB.out.mod hmx (fun e => e)
    have huo1 := HUO.out.later hmx
    have hmo1 := HMO.out.later hmx
    have hcu1 : wc.cell? ⟨gu, i, none⟩ = some (.int .i64 u) := (hmx.cell (p := ⟨gu, i, none⟩) hgul (fun e => e)).trans hcu'
    rw [hul] at hb1 huo1
    have hdb : 0 ≤ d ∧ d ≤ room ∧ u + d ≤ 1125899906842624 := by
      have := HMORE.out
      omega
    obtain ⟨d0, d1, d2⟩ := hdb
    have hiu : i < upto.length := by omega
    have hui : upto[i]? = some u := HU.out
    -- the two last stores
    have fin : ∀ (w8 : World) (vm' : Value) (met' : List Nat), Blk w8 b 86 #[.slice (some ⟨g, off, none⟩) n cap, .int .i64 room, .slice (some ⟨gu, 0, none⟩) n capu, vm'] → Own w8 0 3 1 encI (.slice (some ⟨gu, 0, none⟩) n capu) upto → Own w8 0 3 1 encJ vm' met' → (∀ k, vm'.ownBlock = some k → ¬ F k ∧ k ≠ b ∧ k ≠ gu) → Mod (fun k => ¬ F k) w w8 →
        Tn ((w8.setCell ⟨gu, i, none⟩ (.int .i64 (u + d))).setCell ⟨b, 1, none⟩ (.int .i64 (room - d))) F b (.slice (some ⟨g, off, none⟩) n cap) ⟨room - d, upto.set i (u + d), met'⟩ ∧ Mod (fun k => ¬ F k) w ((w8.setCell ⟨gu, i, none⟩ (.int .i64 (u + d))).setCell ⟨b, 1, none⟩ (.int .i64 (room - d))) := fun w8 vm' met' f1 f2 f3 f4 f5 => by
      have g1 := f1.setOther (a := ⟨gu, i, none⟩) (show b ≠ gu from fun e => hug e.symm) (.int .i64 (u + d))
      have g2 := g1.set 1 (.int .i64 (room - d))
      have g3 := f2.set encI_len hui (j := 0) (by omega) (.int .i64 (u + d)) (u + d) rfl
      rw [Nat.mul_one, Nat.add_zero] at g3
      have g4 := Own.mod ((Mod.refl (fun k => k = b) (w8.setCell ⟨gu, i, none⟩ (.int .i64 (u + d)))).set1 1 (.int .i64 (room - d))) g3 (fun k hk e => by
        have h' : gu = k := by simpa [Value.ownBlock] using hk
        exact hug (h'.trans e))
      have g5 := Own.mod ((Mod.refl (fun k => k = gu) w8).set1 i (.int .i64 (u + d))) f3 (fun k hk e => (f4 k hk).2.2 e)
      have g6 := Own.mod ((Mod.refl (fun k => k = b) (w8.setCell ⟨gu, i, none⟩ (.int .i64 (u + d)))).set1 1 (.int .i64 (room - d))) g5 (fun k hk e => (f4 k hk).2.1 e)
      refine ⟨⟨_, vm', g2, g4, g6, hBb, fun k hk => ⟨?_, ?_⟩, fun k hk => ⟨(f4 k hk).1, (f4 k hk).2.1, fun e => ?_⟩⟩, (f5.setCell (fun _ => hgu) _).setCell (fun _ => hBb) _⟩
      · have h' : gu = k := by simpa [Value.ownBlock] using hk
        exact h' ▸ hgu
      · have h' : gu = k := by simpa [Value.ownBlock] using hk
        exact fun e => hug (h'.trans e)
      · have h' : gu = k := by simpa [Value.ownBlock] using e
        exact (f4 k hk).2.2 h'.symm
    have FIN := Lib.hid fin
    have hm0 : Mod (fun k => ¬ F k) w wc := hmx.mono (fun _ _ h => h.elim)
    have hmb1 : ∀ k, (Value.slice Am met.length capm).ownBlock = some k → ¬ F k ∧ k ≠ b ∧ k ≠ gu := fun k hk => ⟨(HMB.out k hk).1, (HMB.out k hk).2.1, fun e => (HMB.out k hk).2.2 (by rw [e]; rfl)⟩
    have hcon := containsW (.slice Am met.length capm) met i _ wc hmo1.has (by omega)
    have hcb := hb1.cell
    have hfb := hb1.free
    have hfu := huo1.free i
    have s3 : IntKind.i64.wrap (u + d) = u + d := by rw [IntKind.wrap_i64]; omega
    have HB1 := Lib.hid hb1
    have HU1 := Lib.hid huo1
    have HM1 := Lib.hid hmo1
    have HMB1 := Lib.hid hmb1
    have HM0 := Lib.hid hm0
    clear fin hmx hb1 huo1 hmo1 hmb1 hm0 HHB HUO HMO HMB hcu' nb1 nb2 nb3 hnb hng hcb1 hcb2 c0 c1 c2 c3 c4 c5 s1 hui hul
    by_cases hd0 : 0 < d
    · by_cases hmem : i ∈ met
      · have hdm : decide (i ∈ met) = true := by simpa using hmem
        have he : met = met' := by rw [← HME.out, if_neg (by simp [hmem])]
        rw [hdm] at hcon
        have HCON := Lib.hid hcon
        have HF := Lib.hid (FIN.out wc _ met HB1.out HU1.out HM1.out HMB1.out HM0.out)
        rw [he] at HF
        have hd0' : decide (0 < d) = true := by simpa using hd0
        clear hcon hdm hmem he
        go_wp2_with fail
        refine HCON.out.mono ?_
        rintro e w' ⟨rfl, rfl⟩
        go_wp2_with fail
        go_end0
        exact ⟨rfl, HF.out.1, HF.out.2⟩
      · have hdm : decide (i ∈ met) = false := by simpa using hmem
        have he : met ++ [i] = met' := by rw [← HME.out, if_pos ⟨hd0, hmem⟩]
        rw [hdm] at hcon
        have HCON := Lib.hid hcon
        have HE := Lib.hid he
        have hd0' : decide (0 < d) = true := by simpa using hd0
        have hlit := World.ownsRow_lit (base := 0) (size := 1) (e := 3) wc #[.int .i64 (i : Int)] 1 (Nat.zero_le _) (by decide) rfl
        have HLIT := Lib.hid (Reads.of_own hlit)
        have HOWN := Lib.hid (Own.later ((Mod.refl (fun _ => False) wc).alloc (.cells #[.int .i64 (i : Int)] 3)) HM1.out)
        have H1C := Lib.hid (one_J i)
        have hszw := HM0.out.size
        clear hcon hdm hmem he hlit
        go_wp2_with fail
        refine HCON.out.mono ?_
        rintro e w' ⟨rfl, rfl⟩
        go_wp2_with (at_builtin
                     refine wpList_append_any _ rfl (.tmp 51) (.tmp 53) _ rfl 0 3 i0 _ 1 8 Tryz.underlying36 hi0 hz0 hz1 hz2 rfl (by omega) (.slice Am met.length capm) met.length (met.flatMap encJ) rfl HOWN.out _ (some ⟨wc.heap.size, 0, none⟩) 1 1 [.int .i64 (i : Int)] rfl HLIT.out H1C.out (by simp only [maxLen]; omega) (by omega) (Nat.zero_le _) ?_
                     intro v2 w8 hown2 hgr2 hat2
                     have hown3 : Own w8 0 3 1 encJ v2 (met ++ [i]) := by
                       unfold Own
                       rw [flat_snoc, List.length_append]
                       exact hown2
                     obtain ⟨g3, cap3, rfl, hcap3, hg3, hg3'⟩ := hown3.form1 (by simp)
                     rw [List.length_append, List.length_singleton] at hown3 hat2 ⊢
                     have hb8 := (HB1.out.old (.cells #[.int .i64 (i : Int)] 3)).mod (Mod.ofGrown hgr2) (fun e => (HMB1.out b e).2.1 rfl)
                     have hb83 := hb8.cell 3
                     have hf83 : w8.frozen? ⟨b, 3, none⟩ = false := hb8.free 3
                     have hu8 := Own.mod (Mod.ofGrown hgr2) (Own.later ((Mod.refl (fun _ => False) wc).alloc (.cells #[.int .i64 (i : Int)] 3)) HU1.out) (fun k hk e => by
                       have h' : gu = k := by simpa [Value.ownBlock] using hk
                       exact (HMB1.out k e).2.2 h'.symm)
                     have hcu8 : w8.cell? ⟨gu, i, none⟩ = some (.int .i64 u) := by
                       have := hu8.cell encI_len HU.out (j := 0) (by omega)
                       rw [Nat.mul_one, Nat.add_zero] at this
                       exact this
                     have hfu8 : w8.frozen? ⟨gu, i, none⟩ = false := hu8.free i
                     have hcb8 := hb8.cell
                     have hfb8 := hb8.free)
        have hbw : b < wc.heap.size := HB1.out.lt
        have hguw : gu < wc.heap.size := (HU1.out.lt gu rfl).2
        have hdis : ∀ k, (Value.slice (some ⟨g3, 0, none⟩) (met.length + 1) cap3).ownBlock = some k → ¬ F k ∧ k ≠ b ∧ k ≠ gu := fun k hk => by
          rcases hat2 with e | e
          · rw [e] at hk
            exact HMB1.out k hk
          · rw [e] at hk
            have h' := Option.some.inj hk
            have h6 : (wc.alloc (.cells #[.int .i64 (i : Int)] 3)).heap.size = wc.heap.size + 1 := by simp
            refine ⟨fun e => ?_, by omega, by omega⟩
            have := hF k e
            omega
        have m8 : Mod (fun k => ¬ F k) w w8 := (HM0.out.alloc (.cells #[.int .i64 (i : Int)] 3)).trans (Mod.ofGrown hgr2) (fun k _ e => (HMB1.out k e).1)
        have ms3 := (Mod.refl (fun k => k = b) w8).set1 3 (.slice (some ⟨g3, 0, none⟩) (met.length + 1) cap3)
        have hfin := FIN.out _ _ (met ++ [i]) (hb8.set 3 (.slice (some ⟨g3, 0, none⟩) (met.length + 1) cap3)) (hu8.mod ms3 (fun k hk e => by
          have h' : gu = k := by simpa [Value.ownBlock] using hk
          exact hug (h'.trans e))) (hown3.mod ms3 (fun k hk e => (hdis k hk).2.1 e)) hdis (m8.setCell (fun _ => hBb) _)
        rw [HE.out] at hfin
        go_end0
        exact ⟨rfl, hfin.1, hfin.2⟩
    · have he : met = met' := by rw [← HME.out, if_neg (by simp [hd0])]
      have HF := Lib.hid (FIN.out wc _ met HB1.out HU1.out HM1.out HMB1.out HM0.out)
      rw [he] at HF
      clear hcon he
      go_wp2_with fail
      go_end0
      exact ⟨rfl, HF.out.1, HF.out.2⟩
end Go.Proofs.YtigkndbkaagboaaGreatDoor
