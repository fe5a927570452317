/- reasm.Buf: Put. -/
import Derived.Test.YtddnlbkocmpffaaZReaW
import Derived.RegionTactic
import Derived.BigRegion
namespace Go.Proofs.Ytddnlbkocmpffaa
open Go.RowKit
set_option linter.unusedVariables false
set_option maxHeartbeats 4000000
set_option maxRecDepth 100000
theorem splc_over (bs d : List Int) (r : List Value) (off : Nat) (h : off + d.length ≤ bs.length) : splc (bs.flatMap encB ++ r) off (d.flatMap encB) = (overB bs off d).flatMap encB ++ r := by
  unfold splc overB
  simp only [flat_B]
  rw [List.take_append_of_le_length (by simp; omega), List.drop_append_of_le_length (by simp; omega)]
  simp [List.map_append, List.map_take, List.map_drop]
/-- Bytes copied into a row of bytes. -/
theorem run_copy_has {w : World} {B : Nat} {g off oo n cap dLen dCap : Nat} {bs d : List Int} {dv : Value} (h : Own w 0 5 1 encB (.slice (some ⟨g, 0, none⟩) n cap) bs) (hd : Has w B 1 encB dv d) (ho : off + d.length ≤ n) (hdl : d.length ≤ dLen) (hoo : oo = off ∨ d = []) :
    ∃ w', (∀ ty, (Builtin.copy_ #[30, 30] ty #[.slice (some ⟨g, oo, none⟩) dLen dCap, dv]).run Try.prog w = .ok (goInt (d.length : Nat)) w') ∧ Own w' 0 5 1 encB (.slice (some ⟨g, 0, none⟩) n cap) (overB bs off d) ∧ Mod (fun k => k = g) w w' := by
  obtain ⟨cur, r, hg, -, hnl, hnc, hcm, hcs, hct⟩ := h.row
  obtain ⟨A, c, rfl, h1, h2, h3, h4⟩ := hd
  rcases Nat.eq_zero_or_pos d.length with h0 | h0
  · obtain rfl : d = [] := List.eq_nil_of_length_eq_zero h0
    refine ⟨w, fun ty => ?_, ?_, Mod.refl _ _⟩
    · obtain ⟨i0, hi0, hz0, hz1, hz2⟩ := info_parts (show (Try.prog.info? 5).map (fun i => (i.zero, i.size, i.bytes)) = some (some (.int .u8 0), 1, 1) by kernel_rfl)
      cases A <;> simp [Builtin.copy_, run_underlying Try.underlying30, Builtin.lenOf, Builtin.firstCells, sizeOf, typeInfo, hi0, loadCells, loadCellsFrom, storeCells]
    · have : overB bs off [] = bs := by unfold overB; simp
      rw [this]
      exact h
  · obtain ⟨ad, rfl, hb, hc⟩ := h3.2 h0
    have hoo' : oo = off := by
      rcases hoo with e | e
      · exact e
      · rw [e] at h0; simp at h0
    subst hoo'
    have hfl : (d.flatMap encB).length = d.length := by rw [flat_B, List.length_map]
    have hcl : cur.size = (bs.flatMap encB ++ r).length := by rw [← hct, Array.length_toList]
    have hbl : (bs.flatMap encB).length = n := by rw [flat_B, List.length_map, hnl]
    have hcl' : cur.toList.length = n + r.length := by rw [hct, List.length_append, hbl]
    have hmin : Nat.min d.length dLen = d.length := Nat.min_eq_left hdl
    refine ⟨w.setRow g (splc cur.toList oo (d.flatMap encB)).toArray, fun ty => ?_, ?_, ?_⟩
    · have := run_copy_rowK (P := Try.prog) w 30 30 ty 5 g oo dLen dCap ad d.length c cur 5 1 (d.flatMap encB) Try.underlying30 (by kernel_rfl) hg (by rw [hfl, hmin, Nat.mul_one]) (fun j v hv => hc j v hv) (by rw [hfl]; rw [hcl, List.length_append, hbl]; omega) (fun v hv => by
        obtain ⟨x, _, hx⟩ := List.mem_flatMap.1 hv
        exact SlB.one_at x v hx)
      rw [hmin] at this
      exact this
    · have hset := setRow_heap w g cur (splc cur.toList oo (d.flatMap encB)).toArray _ _ hg
      have := Own.mk (B := 0) (T := 5) (xs := overB bs oo d) encB_len hset (Nat.zero_le _) (by rw [overB_len (by omega)]; omega) hcm (by rw [List.size_toArray, splc_len (by rw [hfl, hcl']; omega), Array.length_toList, hcs]) ⟨r, by show splc cur.toList oo (d.flatMap encB) = _; rw [hct, splc_over _ _ _ _ (by omega)]⟩
      rw [overB_len (by omega), ← hnl] at this
      exact this
    · exact ⟨rfl, rfl, rfl, by simp [World.setRow], fun i hi hn => setRow_other _ _ i _ hn⟩
/-- A part of what a slice holds. -/
theorem Has.sub {α : Type} {enc : α → List Value} {sz : Nat} {w : World} {B g off n cap : Nat} {xs : List α} (hE : ∀ x, (enc x).length = sz) (h : Has w B sz enc (.slice (some ⟨g, off, none⟩) n cap) xs) {a b : Nat} (hab : a < b) (hb : b ≤ n) :
    Has w B sz enc (.slice (some ⟨g, off + a * sz, none⟩) (b - a) (cap - a)) ((xs.drop a).take (b - a)) := by
  have hn := h.len rfl
  have hc := h.form
  obtain ⟨A, cap', e, hcc⟩ := hc
  injection e with e1 e2 e3
  subst e3
  have h1 := h.cut (k := a) hE (by omega)
  rw [if_neg (by omega)] at h1
  obtain ⟨A1, c1, e, k1, k2, k3, k4⟩ := h1
  injection e with e1 e2 e3
  subst e1 e3
  have hl : ((xs.drop a).take (b - a)).length = b - a := by rw [List.length_take, List.length_drop]; omega
  have hadd : (⟨g, off, none⟩ : Addr).add (a * sz) = ⟨g, off + a * sz, none⟩ := Go.WideShapes.add_plain _ _ _
  refine ⟨some ⟨g, off + a * sz, none⟩, cap - a, by rw [hl], by rw [hl]; omega, fun e => (by cases e), ?_, fun q hq hp => ?_⟩
  · obtain ⟨ad, e, r1, r2⟩ := k3.2 (by rw [List.length_drop]; omega)
    rw [Option.map_some, hadd] at e
    have e := Option.some.inj e
    subst e
    refine ⟨by rw [flat_len hE], fun _ => ⟨_, rfl, r1, fun j u hu => r2 j u ?_⟩⟩
    rw [← flat_take hE, List.getElem?_take] at hu
    split at hu
    · exact hu
    · cases hu
  · obtain rfl := Option.some.inj hq
    exact k4 _ (by rw [Option.map_some, hadd]) (by rw [List.length_drop]; omega)
theorem clash_of {bs d : List Int} {off k : Nat} {l : List (Int × Int)} (hk : k < l.length) (h : clash1 bs off d l[k] = true) : clash bs off d l = true := List.any_eq_true.2 ⟨_, List.getElem_mem hk, h⟩
theorem clash_none {bs d : List Int} {off : Nat} {l : List (Int × Int)} (h : ∀ j (hj : j < l.length), clash1 bs off d l[j] = false) : clash bs off d l = false := by
  unfold clash
  rw [List.any_eq_false]
  intro r hr
  obtain ⟨j, hj, rfl⟩ := List.mem_iff_getElem.1 hr
  rw [h j hj]
  exact Bool.false_ne_true
/-- What Put answers. -/
def PutPost (bb off : Nat) (b : BufA) (d : List Int) (w : World) (s : Nat → Prop) (e : Ending) (w' : World) : Prop :=
  if clash b.bs off d b.l = true then e = .returned (.tuple #[.int .i64 0, .int .i64 2]) ∧ Mod NoB w w'
  else e = .returned (.tuple #[.int .i64 (freshR b.l off ((off + d.length : Nat) : Int)), .int .i64 0]) ∧ BufO bb (putBuf b off d) w' (Ext s w w') ∧ Mod s w w'
theorem putFin {w wr w5 w6 : World} {s : Nat → Prop} {bb sb g N T off : Nat} {b : BufA} {d : List Int} {sv v' : Value} (h : BufB w s bb b sb (.slice (some ⟨g, 0, none⟩) b.bs.length b.bs.length) sv) (hN : b.bs.length = N) (m1 : Mod NoB w wr)
    (o5 : Own w5 0 5 1 encB (.slice (some ⟨g, 0, none⟩) N N) (overB b.bs off d)) (m5 : Mod (fun k => k = g) wr w5) (s6 : SetB w6 0 sb N v' (putR b.l off T)) (m6 : Mod (fun z => z = sb ∨ sv.ownBlock = some z) w5 w6)
    (hv : v'.ownBlock = sv.ownBlock ∨ ∃ q, v'.ownBlock = some q ∧ w5.heap.size ≤ q) (hT : off + d.length = T) (hTN : T ≤ N) (hd : Byt d) : BufO bb (putBuf b off d) w6 (Ext s w w6) ∧ Mod s w w6 := by
  rw [hN] at h
  have hbl : (putBuf b off d).bs.length = N := by rw [putBuf_len (by omega), hN]
  have hob : overB b.bs off d = (putBuf b off d).bs := rfl
  have hgl := (h.own.lt g rfl).2
  have hbb := h.blk.lt
  have hsz := m1.size
  have hsz5 := m5.size
  have hsb := h.set.blk.lt
  have nv : ∀ k, k < w.heap.size → sv.ownBlock ≠ some k → v'.ownBlock ≠ some k := fun k hk hn e => by
    rcases hv with hv | ⟨q, hv, hq⟩
    · rw [hv] at e; exact hn e
    · rw [hv] at e; have := Option.some.inj e; omega
  refine ⟨⟨sb, .slice (some ⟨g, 0, none⟩) N N, v', ?_⟩, ?_⟩
  · refine ⟨((h.blk.mod m1 (fun e => e)).mod m5 (fun e => h.ne2 (by rw [e]; rfl))).mod m6 (fun e => e.elim (fun e => h.ne1 e) (fun e => h.ne4 e)), ?_, ?_, .inl h.fb, .inl h.fs, fun k hk => .inl (h.fv k hk), fun k hk => ?_, h.ne1, h.ne2, h.ne3, nv bb hbb h.ne4, fun k hk => ?_, putBuf_ok h.ok hd (by omega), ⟨g, by rw [hbl]⟩⟩
    · rw [← hob]
      exact o5.mod m6 (fun k hk e => e.elim (fun e => h.ne3 (by rw [← e]; exact hk)) (fun e => h.ne5 k hk e))
    · rw [hbl]
      show SetB w6 0 sb N v' (putR b.l off ((off + d.length : Nat) : Int))
      rw [hT]
      exact s6
    · rcases hv with hv | ⟨q, hv, hq⟩
      · exact .inl (h.fsv k (by rw [← hv]; exact hk))
      · have hk2 := hk
        rw [hv] at hk
        have := Option.some.inj hk
        have := (s6.own.lt k hk2).2
        exact .inr ⟨by omega, by omega⟩
    · have hkg : k = g := by have : some g = some k := hk; exact (Option.some.inj this).symm
      subst hkg
      exact nv k hgl (h.ne5 k rfl)
  · exact (m1.mono (fun _ _ e => e.elim)).trans ((m5.mono (S' := s) (fun k hk e => by subst e; exact h.fv k rfl)).trans (m6.mono (S' := s) (fun k hk e => e.elim (fun e => by subst e; exact h.fs) (fun e => h.fsv k e))) (fun _ _ e => e)) (fun _ _ e => e)
theorem bufPutW (bb off : Nat) (b : BufA) (d : List Int) (dv : Value) (w : World) (s : Nat → Prop) (h : BufO bb b w s) (hd : Has w w.heap.size 1 encB dv d) (hbt : Byt d) (ho : off + d.length ≤ b.bs.length) :
    Calls Try.prog 37 #[.pointer (some ⟨bb, 0, none⟩), .int .i64 off, dv] w (PutPost bb off b d w s) := by
  obtain ⟨sb, bv, sv, h⟩ := h
  have hok := h.ok
  have hmo := hok.most
  obtain ⟨g, rfl⟩ := h.made
  have hbg : g < w.heap.size := (h.own.lt g rfl).2
  have HR := Lib.hid (rangesW sb 0 b.bs.length sv b.l w h.set)
  have HH := Lib.hid h
  have HD := Lib.hid hd
  have HOK := Lib.hid hok
  have HBT := Lib.hid hbt
  have hln := h.set.len
  have hbo := hok.ok
  have HBO := Lib.hid hbo
  have c0 : w.cell? ⟨bb, 0, none⟩ = some (.slice (some ⟨g, 0, none⟩) b.bs.length b.bs.length) := h.blk.cell 0
  have c1 : w.cell? ⟨bb, 1, none⟩ = some (.pointer (some ⟨sb, 0, none⟩)) := h.blk.cell 1
  have hbb := h.blk.lt
  obtain ⟨A, cap, rfl, hdc⟩ := hd.form
  obtain ⟨N, hN⟩ : ∃ N, b.bs.length = N := ⟨_, rfl⟩
  obtain ⟨n, hn⟩ : ∃ n, d.length = n := ⟨_, rfl⟩
  rw [hN] at c0 ho hmo
  rw [hn] at ho hdc ⊢
  have HN := Lib.hid hN
  have Hn := Lib.hid hn
  have hT : (off : Int) + (n : Int) = ((off + n : Nat) : Int) := by omega
  obtain ⟨T, hTe⟩ : ∃ T, off + n = T := ⟨_, rfl⟩
  rw [hTe] at hT ho
  have HTe := Lib.hid hTe
  have g1 : ¬ (off : Int) < 0 := by omega
  have g2 : ¬ (N : Int) < (off : Int) := by omega
  have g3 : ¬ ((N : Int) - (off : Int) < (n : Int)) := by omega
  clear h hd hok hbt hbo hN hn hTe
  go_enter Try.func37, Try.ntmps37
  go_wp2_with fail
  refine HR.out.mono ?_
  rintro e w1 ⟨rv, rfl, hr1, m1⟩
  have HR1 := Lib.hid hr1
  have HM1 := Lib.hid m1
  obtain ⟨A1, cap1, rfl, -, hA1⟩ := hr1.form
  have HA1 := Lib.hid hA1
  obtain ⟨L, hL⟩ : ∃ L, b.l.length = L := ⟨_, rfl⟩
  rw [hL] at hln ⊢
  have HL := Lib.hid hL
  clear hr1 m1 hA1 hL c1 c0 HR
  go_wp2_with fail
  go_loopw [50] (fun z wr => ∃ k : Nat, z = .int .i64 k ∧ k ≤ L ∧ Hid (∀ j (hj : j < b.l.length), j < k → clash1 b.bs off d b.l[j] = false) ∧ Mod NoB w1 wr) (fun z _ => L - (intOf z).toNat)
  case atStart => exact ⟨0, rfl, Nat.zero_le _, Lib.hid (fun j hj h0 => absurd h0 (Nat.not_lt_zero _)), Mod.refl _ _⟩
  case round =>
    obtain ⟨k, rfl, hk, hcr, hmr⟩ := hrel
    by_cases hkn : k < L
    · have hkx : k < b.l.length := by rw [HL.out]; exact hkn
      have hkz : (k : Int) < (L : Int) := by omega
      have hkz0 : (0 : Int) ≤ (k : Int) := by omega
      have hkd : decide ((k : Int) < (L : Int)) = true := by simpa using hkz
      have hx? := List.getElem?_eq_getElem hkx
      obtain ⟨g1', rfl⟩ : ∃ g1', A1 = some ⟨g1', 0, none⟩ := by
        rcases HA1.out with ⟨_, hnil, _⟩ | ⟨g1', e, _⟩
        · rw [hnil] at hkx; simp at hkx
        · exact ⟨g1', e⟩
      have hown := HR1.out.mod hmr (fun _ _ e => e)
      have c1 : wr.cell? ⟨g1', k * 2, none⟩ = some (.int .i64 (b.l[k]'hkx).1) := by
        have := hown.cell encR_len hx? (j := 0) (by omega)
        simpa using this
      have c2 : wr.cell? ⟨g1', k * 2 + 1, none⟩ = some (.int .i64 (b.l[k]'hkx).2) := by
        have := hown.cell encR_len hx? (j := 1) (by omega)
        simpa using this
      have hxm := HBO.out.mem _ (List.getElem_mem hkx)
      have hck : Hid (∀ j (hj : j < b.l.length), j < k + 1 → (j = k → clash1 b.bs off d b.l[j] = false) → clash1 b.bs off d b.l[j] = false) := Lib.hid (fun j hj h1 h2 => by
        rcases Nat.lt_or_ge j k with h3 | h3
        · exact hcr.out j hj h3
        · exact h2 (by omega))
      have HX0 := Lib.hid hkx
      have HX := Lib.hid (show ∀ j (hj : j < b.l.length), j = k → b.l[j] = b.l[k]'hkx from fun j hj e => by subst e; rfl)
      generalize b.l[k]'hkx = x at *
      obtain ⟨x1, x2⟩ := x
      simp only at c1 c2 hxm
      obtain ⟨p, rfl⟩ : ∃ p : Nat, x1 = p := ⟨x1.toNat, by omega⟩
      obtain ⟨q, rfl⟩ : ∃ q : Nat, x2 = q := ⟨x2.toNat, by omega⟩
      rw [HN.out] at hxm
      have HM := Lib.hid ((HM1.out.trans hmr (fun _ _ e => e)).alloc (.cells #[.int .i64 p, .int .i64 q] 131))
      have HMR := Lib.hid (hmr.alloc (.cells #[.int .i64 p, .int .i64 q] 131))
      clear hx? hown hmr hcr
      go_wp2_with fail
      clear c1 c2
      have hsp1 : ((p : Int) < (off : Int) ∧ max (p : Int) (off : Int) = ((off : Nat) : Int)) ∨ (¬ (p : Int) < (off : Int) ∧ max (p : Int) (off : Int) = (p : Int)) := by omega
      have hsp2 : ((T : Int) < (q : Int) ∧ min (q : Int) (T : Int) = (T : Int)) ∨ (¬ (T : Int) < (q : Int) ∧ min (q : Int) (T : Int) = (q : Int)) := by omega
      rcases hsp1 with ⟨hp1, hf⟩ | ⟨hp1, hf⟩
      all_goals rcases hsp2 with ⟨hp2, he⟩ | ⟨hp2, he⟩
      · have HCK := Lib.hid (show ∀ j (hj : j < b.l.length), j = k → clash1 b.bs off d b.l[j] = (decide ((off : Int) < (T : Int)) && !decide (cutB b.bs off T = cutB d (off - off) (T - off))) from fun j hj e => by
          rw [HX.out j hj e]
          unfold clash1
          dsimp only
          rw [Hn.out, HTe.out, hf, he, Int.toNat_natCast, Int.toNat_natCast])
        go_region
        clear hf he
        by_cases hfe : (off : Int) < (T : Int)
        · have hfd : decide ((off : Int) < (T : Int)) = true := by simpa using hfe
          have hu1 : (off : Int) - (off : Int) = 0 := by omega
          have hv1 : (T : Int) - (off : Int) = (n : Int) := by omega
          have hv2 : IntKind.i64.wrap ((T : Int) - (off : Int)) = (n : Int) := by rw [IntKind.wrap_i64]; omega
          have hTe := HTe.out
          have hz1 : off ≤ T := by omega
          have hz2 : T ≤ N := by omega
          have hz3 : 0 ≤ n := by omega
          have hz4 : n ≤ cap := by omega
          have hz5 : ¬ N = off := by omega
          have hz6 : ¬ cap = 0 := by omega
          have hz7 : ((off : Nat) : Int) ≤ ((T : Nat) : Int) := by omega
          have hz8 : ((T : Nat) : Int) ≤ (N : Int) := by omega
          have hz9 : ((0 : Nat) : Int) ≤ ((n : Nat) : Int) := by omega
          have hz10 : ((n : Nat) : Int) ≤ (cap : Int) := by omega
          obtain ⟨gd, od, rfl⟩ : ∃ gd od, A = some ⟨gd, od, none⟩ := by
            have hx0 : 0 < d.length := by rw [Hn.out]; omega
            obtain ⟨gd, od, e, -⟩ := HD.out.at_ encB_len (List.getElem?_eq_getElem hx0)
            exact ⟨gd, od, e⟩
          have HE := Lib.hid (show ∀ W : World, Mod NoB w W → Calls Try.prog 63 #[.slice (some ⟨g, off, none⟩) (T - off) (N - off), .slice (some ⟨gd, od + 0, none⟩) (n - 0) (cap - 0)] W fun e w' => e = .returned (.bool (decide (cutB b.bs off T = cutB d (off - off) (T - off)))) ∧ W = w' from fun W hW => by
            have k1 : Has W W.heap.size 1 encB (.slice (some ⟨g, 0, none⟩) N N) b.bs := by have := (HH.out.own.mod hW (fun _ _ e => e)).has; rwa [HN.out] at this
            have k1 := k1.sub encB_len (a := off) (b := T) (by omega) (by omega)
            have k2 := ((HD.out.later hW (Nat.le_refl _)).sub encB_len (a := 0) (b := n) (by omega) (by rw [Hn.out]; omega))
            rw [Nat.zero_add, Nat.mul_one] at k1
            rw [Nat.mul_one] at k2
            rw [show cutB d (off - off) (T - off) = cutB d 0 n from by rw [show off - off = 0 by omega, show T - off = n by omega]]
            exact equalW _ _ _ _ W _ _ k1 k2 ((HOK.out.byt.drop _).take _) ((HBT.out.drop _).take _))
          have HC0 := Lib.hid (show ∀ W : World, Mod NoB w W → W.cell? ⟨bb, 0, none⟩ = some (.slice (some ⟨g, 0, none⟩) N N) from fun W hW => by
            have := (HH.out.blk.mod hW (fun e => e)).cell 0
            rw [HN.out] at this
            exact this)
          have HMD := Lib.hid (HM.out.drew)
          have HMD1 := Lib.hid (HMR.out.drew)
          generalize (wr.alloc (.cells #[.int .i64 p, .int .i64 q] 131)).drew = W at *
          have c0 := HC0.out W HMD.out
          by_cases hcut : cutB b.bs off T = cutB d (off - off) (T - off)
          · have HCUT := Lib.hid hcut
            rw [decide_eq_true hcut] at HE HCK
            clear hcut hTe hp1 hp2
            go_wp2_with fail
            go_quiet ((go_at_call 63; exact quiet_eq (HE.out _ (HMD.out.drewN _))))
            go_wp2_with fail
            go_roundw
            case rel => exact ⟨k + 1, by go_num, by omega, Lib.hid (fun j hj h1 => hck.out j hj h1 (fun e => by rw [HCK.out j hj e]; simp)), HMD1.out.drewN _⟩
            case measure => simp [intOf]; omega
          · have HCUT := Lib.hid hcut
            rw [decide_eq_false hcut] at HE HCK
            have HFD := Lib.hid hfd
            clear hcut hTe hp1 hp2
            go_wp2_with fail
            go_quiet ((go_at_call 63; exact quiet_eq (HE.out _ (HMD.out.drewN _))))
            go_wp2_with fail
            go_ret2
            unfold PutPost
            rw [if_pos (clash_of HX0.out (by rw [HCK.out k HX0.out rfl, HFD.out]; rfl))]
            exact ⟨rfl, HMD.out.drewN _⟩
        · have hfd : decide ((off : Int) < (T : Int)) = false := by simpa using hfe
          have hfn : decide (off < T) = false := decide_eq_false (show ¬ off < T by omega)
          have HFD := Lib.hid hfd
          have HMD1 := Lib.hid (HMR.out.drew)
          generalize (wr.alloc (.cells #[.int .i64 p, .int .i64 q] 131)).drew = W at *
          clear hfe hp1 hp2
          go_wp2_with fail
          go_quiet (fail)
          go_wp2_with fail
          go_roundw
          case rel => exact ⟨k + 1, by go_num, by omega, Lib.hid (fun j hj h1 => hck.out j hj h1 (fun e => by rw [HCK.out j hj e, HFD.out]; rfl)), HMD1.out.drewN _⟩
          case measure => simp [intOf]; omega
      · have HCK := Lib.hid (show ∀ j (hj : j < b.l.length), j = k → clash1 b.bs off d b.l[j] = (decide ((off : Int) < (q : Int)) && !decide (cutB b.bs off q = cutB d (off - off) (q - off))) from fun j hj e => by
          rw [HX.out j hj e]
          unfold clash1
          dsimp only
          rw [Hn.out, HTe.out, hf, he, Int.toNat_natCast, Int.toNat_natCast])
        go_region
        clear hf he
        by_cases hfe : (off : Int) < (q : Int)
        · have hfd : decide ((off : Int) < (q : Int)) = true := by simpa using hfe
          have hu1 : (off : Int) - (off : Int) = 0 := by omega
          obtain ⟨v, hv⟩ : ∃ v : Nat, q = off + v := ⟨q - off, by omega⟩
          have hv1 : (q : Int) - (off : Int) = (v : Int) := by omega
          have hv2 : IntKind.i64.wrap ((q : Int) - (off : Int)) = (v : Int) := by rw [IntKind.wrap_i64]; omega
          have hTe := HTe.out
          have hz1 : off ≤ q := by omega
          have hz2 : q ≤ N := by omega
          have hz3 : 0 ≤ v := by omega
          have hz4 : v ≤ cap := by omega
          have hz5 : ¬ N = off := by omega
          have hz6 : ¬ cap = 0 := by omega
          have hz7 : ((off : Nat) : Int) ≤ ((q : Nat) : Int) := by omega
          have hz8 : ((q : Nat) : Int) ≤ (N : Int) := by omega
          have hz9 : ((0 : Nat) : Int) ≤ ((v : Nat) : Int) := by omega
          have hz10 : ((v : Nat) : Int) ≤ (cap : Int) := by omega
          obtain ⟨gd, od, rfl⟩ : ∃ gd od, A = some ⟨gd, od, none⟩ := by
            have hx0 : 0 < d.length := by rw [Hn.out]; omega
            obtain ⟨gd, od, e, -⟩ := HD.out.at_ encB_len (List.getElem?_eq_getElem hx0)
            exact ⟨gd, od, e⟩
          have HE := Lib.hid (show ∀ W : World, Mod NoB w W → Calls Try.prog 63 #[.slice (some ⟨g, off, none⟩) (q - off) (N - off), .slice (some ⟨gd, od + 0, none⟩) (v - 0) (cap - 0)] W fun e w' => e = .returned (.bool (decide (cutB b.bs off q = cutB d (off - off) (q - off)))) ∧ W = w' from fun W hW => by
            have k1 : Has W W.heap.size 1 encB (.slice (some ⟨g, 0, none⟩) N N) b.bs := by have := (HH.out.own.mod hW (fun _ _ e => e)).has; rwa [HN.out] at this
            have k1 := k1.sub encB_len (a := off) (b := q) (by omega) (by omega)
            have k2 := ((HD.out.later hW (Nat.le_refl _)).sub encB_len (a := 0) (b := v) (by omega) (by rw [Hn.out]; omega))
            rw [Nat.zero_add, Nat.mul_one] at k1
            rw [Nat.mul_one] at k2
            rw [show cutB d (off - off) (q - off) = cutB d 0 v from by rw [show off - off = 0 by omega, show q - off = v by omega]]
            exact equalW _ _ _ _ W _ _ k1 k2 ((HOK.out.byt.drop _).take _) ((HBT.out.drop _).take _))
          have HC0 := Lib.hid (show ∀ W : World, Mod NoB w W → W.cell? ⟨bb, 0, none⟩ = some (.slice (some ⟨g, 0, none⟩) N N) from fun W hW => by
            have := (HH.out.blk.mod hW (fun e => e)).cell 0
            rw [HN.out] at this
            exact this)
          have HMD := Lib.hid (HM.out.drew)
          have HMD1 := Lib.hid (HMR.out.drew)
          generalize (wr.alloc (.cells #[.int .i64 p, .int .i64 q] 131)).drew = W at *
          have c0 := HC0.out W HMD.out
          by_cases hcut : cutB b.bs off q = cutB d (off - off) (q - off)
          · have HCUT := Lib.hid hcut
            rw [decide_eq_true hcut] at HE HCK
            clear hcut hTe hp1 hp2 hv
            go_wp2_with fail
            go_quiet ((go_at_call 63; exact quiet_eq (HE.out _ (HMD.out.drewN _))))
            go_wp2_with fail
            go_roundw
            case rel => exact ⟨k + 1, by go_num, by omega, Lib.hid (fun j hj h1 => hck.out j hj h1 (fun e => by rw [HCK.out j hj e]; simp)), HMD1.out.drewN _⟩
            case measure => simp [intOf]; omega
          · have HCUT := Lib.hid hcut
            rw [decide_eq_false hcut] at HE HCK
            have HFD := Lib.hid hfd
            clear hcut hTe hp1 hp2 hv
            go_wp2_with fail
            go_quiet ((go_at_call 63; exact quiet_eq (HE.out _ (HMD.out.drewN _))))
            go_wp2_with fail
            go_ret2
            unfold PutPost
            rw [if_pos (clash_of HX0.out (by rw [HCK.out k HX0.out rfl, HFD.out]; rfl))]
            exact ⟨rfl, HMD.out.drewN _⟩
        · have hfd : decide ((off : Int) < (q : Int)) = false := by simpa using hfe
          have hfn : decide (off < q) = false := decide_eq_false (show ¬ off < q by omega)
          have HFD := Lib.hid hfd
          have HMD1 := Lib.hid (HMR.out.drew)
          generalize (wr.alloc (.cells #[.int .i64 p, .int .i64 q] 131)).drew = W at *
          clear hfe hp1 hp2
          go_wp2_with fail
          go_quiet (fail)
          go_wp2_with fail
          go_roundw
          case rel => exact ⟨k + 1, by go_num, by omega, Lib.hid (fun j hj h1 => hck.out j hj h1 (fun e => by rw [HCK.out j hj e, HFD.out]; rfl)), HMD1.out.drewN _⟩
          case measure => simp [intOf]; omega
      · have HCK := Lib.hid (show ∀ j (hj : j < b.l.length), j = k → clash1 b.bs off d b.l[j] = (decide ((p : Int) < (T : Int)) && !decide (cutB b.bs p T = cutB d (p - off) (T - off))) from fun j hj e => by
          rw [HX.out j hj e]
          unfold clash1
          dsimp only
          rw [Hn.out, HTe.out, hf, he, Int.toNat_natCast, Int.toNat_natCast])
        go_region
        clear hf he
        by_cases hfe : (p : Int) < (T : Int)
        · have hfd : decide ((p : Int) < (T : Int)) = true := by simpa using hfe
          obtain ⟨u, hu⟩ : ∃ u : Nat, p = off + u := ⟨p - off, by omega⟩
          have hu1 : (p : Int) - (off : Int) = (u : Int) := by omega
          have hu2 : IntKind.i64.wrap ((p : Int) - (off : Int)) = (u : Int) := by rw [IntKind.wrap_i64]; omega
          have hv1 : (T : Int) - (off : Int) = (n : Int) := by omega
          have hv2 : IntKind.i64.wrap ((T : Int) - (off : Int)) = (n : Int) := by rw [IntKind.wrap_i64]; omega
          have hTe := HTe.out
          have hz1 : p ≤ T := by omega
          have hz2 : T ≤ N := by omega
          have hz3 : u ≤ n := by omega
          have hz4 : n ≤ cap := by omega
          have hz5 : ¬ N = p := by omega
          have hz6 : ¬ cap = u := by omega
          have hz7 : ((p : Nat) : Int) ≤ ((T : Nat) : Int) := by omega
          have hz8 : ((T : Nat) : Int) ≤ (N : Int) := by omega
          have hz9 : ((u : Nat) : Int) ≤ ((n : Nat) : Int) := by omega
          have hz10 : ((n : Nat) : Int) ≤ (cap : Int) := by omega
          obtain ⟨gd, od, rfl⟩ : ∃ gd od, A = some ⟨gd, od, none⟩ := by
            have hx0 : 0 < d.length := by rw [Hn.out]; omega
            obtain ⟨gd, od, e, -⟩ := HD.out.at_ encB_len (List.getElem?_eq_getElem hx0)
            exact ⟨gd, od, e⟩
          have HE := Lib.hid (show ∀ W : World, Mod NoB w W → Calls Try.prog 63 #[.slice (some ⟨g, p, none⟩) (T - p) (N - p), .slice (some ⟨gd, od + u, none⟩) (n - u) (cap - u)] W fun e w' => e = .returned (.bool (decide (cutB b.bs p T = cutB d (p - off) (T - off)))) ∧ W = w' from fun W hW => by
            have k1 : Has W W.heap.size 1 encB (.slice (some ⟨g, 0, none⟩) N N) b.bs := by have := (HH.out.own.mod hW (fun _ _ e => e)).has; rwa [HN.out] at this
            have k1 := k1.sub encB_len (a := p) (b := T) (by omega) (by omega)
            have k2 := ((HD.out.later hW (Nat.le_refl _)).sub encB_len (a := u) (b := n) (by omega) (by rw [Hn.out]; omega))
            rw [Nat.zero_add, Nat.mul_one] at k1
            rw [Nat.mul_one] at k2
            rw [show cutB d (p - off) (T - off) = cutB d u n from by rw [show p - off = u by omega, show T - off = n by omega]]
            exact equalW _ _ _ _ W _ _ k1 k2 ((HOK.out.byt.drop _).take _) ((HBT.out.drop _).take _))
          have HC0 := Lib.hid (show ∀ W : World, Mod NoB w W → W.cell? ⟨bb, 0, none⟩ = some (.slice (some ⟨g, 0, none⟩) N N) from fun W hW => by
            have := (HH.out.blk.mod hW (fun e => e)).cell 0
            rw [HN.out] at this
            exact this)
          have HMD := Lib.hid (HM.out.drew)
          have HMD1 := Lib.hid (HMR.out.drew)
          generalize (wr.alloc (.cells #[.int .i64 p, .int .i64 q] 131)).drew = W at *
          have c0 := HC0.out W HMD.out
          by_cases hcut : cutB b.bs p T = cutB d (p - off) (T - off)
          · have HCUT := Lib.hid hcut
            rw [decide_eq_true hcut] at HE HCK
            clear hcut hTe hp1 hp2 hu
            go_wp2_with fail
            go_quiet ((go_at_call 63; exact quiet_eq (HE.out _ (HMD.out.drewN _))))
            go_wp2_with fail
            go_roundw
            case rel => exact ⟨k + 1, by go_num, by omega, Lib.hid (fun j hj h1 => hck.out j hj h1 (fun e => by rw [HCK.out j hj e]; simp)), HMD1.out.drewN _⟩
            case measure => simp [intOf]; omega
          · have HCUT := Lib.hid hcut
            rw [decide_eq_false hcut] at HE HCK
            have HFD := Lib.hid hfd
            clear hcut hTe hp1 hp2 hu
            go_wp2_with fail
            go_quiet ((go_at_call 63; exact quiet_eq (HE.out _ (HMD.out.drewN _))))
            go_wp2_with fail
            go_ret2
            unfold PutPost
            rw [if_pos (clash_of HX0.out (by rw [HCK.out k HX0.out rfl, HFD.out]; rfl))]
            exact ⟨rfl, HMD.out.drewN _⟩
        · have hfd : decide ((p : Int) < (T : Int)) = false := by simpa using hfe
          have hfn : decide (p < T) = false := decide_eq_false (show ¬ p < T by omega)
          have HFD := Lib.hid hfd
          have HMD1 := Lib.hid (HMR.out.drew)
          generalize (wr.alloc (.cells #[.int .i64 p, .int .i64 q] 131)).drew = W at *
          clear hfe hp1 hp2
          go_wp2_with fail
          go_quiet (fail)
          go_wp2_with fail
          go_roundw
          case rel => exact ⟨k + 1, by go_num, by omega, Lib.hid (fun j hj h1 => hck.out j hj h1 (fun e => by rw [HCK.out j hj e, HFD.out]; rfl)), HMD1.out.drewN _⟩
          case measure => simp [intOf]; omega
      · have HCK := Lib.hid (show ∀ j (hj : j < b.l.length), j = k → clash1 b.bs off d b.l[j] = (decide ((p : Int) < (q : Int)) && !decide (cutB b.bs p q = cutB d (p - off) (q - off))) from fun j hj e => by
          rw [HX.out j hj e]
          unfold clash1
          dsimp only
          rw [Hn.out, HTe.out, hf, he, Int.toNat_natCast, Int.toNat_natCast])
        go_region
        clear hf he
        by_cases hfe : (p : Int) < (q : Int)
        · have hfd : decide ((p : Int) < (q : Int)) = true := by simpa using hfe
          obtain ⟨u, hu⟩ : ∃ u : Nat, p = off + u := ⟨p - off, by omega⟩
          have hu1 : (p : Int) - (off : Int) = (u : Int) := by omega
          have hu2 : IntKind.i64.wrap ((p : Int) - (off : Int)) = (u : Int) := by rw [IntKind.wrap_i64]; omega
          obtain ⟨v, hv⟩ : ∃ v : Nat, q = off + v := ⟨q - off, by omega⟩
          have hv1 : (q : Int) - (off : Int) = (v : Int) := by omega
          have hv2 : IntKind.i64.wrap ((q : Int) - (off : Int)) = (v : Int) := by rw [IntKind.wrap_i64]; omega
          have hTe := HTe.out
          have hz1 : p ≤ q := by omega
          have hz2 : q ≤ N := by omega
          have hz3 : u ≤ v := by omega
          have hz4 : v ≤ cap := by omega
          have hz5 : ¬ N = p := by omega
          have hz6 : ¬ cap = u := by omega
          have hz7 : ((p : Nat) : Int) ≤ ((q : Nat) : Int) := by omega
          have hz8 : ((q : Nat) : Int) ≤ (N : Int) := by omega
          have hz9 : ((u : Nat) : Int) ≤ ((v : Nat) : Int) := by omega
          have hz10 : ((v : Nat) : Int) ≤ (cap : Int) := by omega
          obtain ⟨gd, od, rfl⟩ : ∃ gd od, A = some ⟨gd, od, none⟩ := by
            have hx0 : 0 < d.length := by rw [Hn.out]; omega
            obtain ⟨gd, od, e, -⟩ := HD.out.at_ encB_len (List.getElem?_eq_getElem hx0)
            exact ⟨gd, od, e⟩
          have HE := Lib.hid (show ∀ W : World, Mod NoB w W → Calls Try.prog 63 #[.slice (some ⟨g, p, none⟩) (q - p) (N - p), .slice (some ⟨gd, od + u, none⟩) (v - u) (cap - u)] W fun e w' => e = .returned (.bool (decide (cutB b.bs p q = cutB d (p - off) (q - off)))) ∧ W = w' from fun W hW => by
            have k1 : Has W W.heap.size 1 encB (.slice (some ⟨g, 0, none⟩) N N) b.bs := by have := (HH.out.own.mod hW (fun _ _ e => e)).has; rwa [HN.out] at this
            have k1 := k1.sub encB_len (a := p) (b := q) (by omega) (by omega)
            have k2 := ((HD.out.later hW (Nat.le_refl _)).sub encB_len (a := u) (b := v) (by omega) (by rw [Hn.out]; omega))
            rw [Nat.zero_add, Nat.mul_one] at k1
            rw [Nat.mul_one] at k2
            rw [show cutB d (p - off) (q - off) = cutB d u v from by rw [show p - off = u by omega, show q - off = v by omega]]
            exact equalW _ _ _ _ W _ _ k1 k2 ((HOK.out.byt.drop _).take _) ((HBT.out.drop _).take _))
          have HC0 := Lib.hid (show ∀ W : World, Mod NoB w W → W.cell? ⟨bb, 0, none⟩ = some (.slice (some ⟨g, 0, none⟩) N N) from fun W hW => by
            have := (HH.out.blk.mod hW (fun e => e)).cell 0
            rw [HN.out] at this
            exact this)
          have HMD := Lib.hid (HM.out.drew)
          have HMD1 := Lib.hid (HMR.out.drew)
          generalize (wr.alloc (.cells #[.int .i64 p, .int .i64 q] 131)).drew = W at *
          have c0 := HC0.out W HMD.out
          by_cases hcut : cutB b.bs p q = cutB d (p - off) (q - off)
          · have HCUT := Lib.hid hcut
            rw [decide_eq_true hcut] at HE HCK
            clear hcut hTe hp1 hp2 hu hv
            go_wp2_with fail
            go_quiet ((go_at_call 63; exact quiet_eq (HE.out _ (HMD.out.drewN _))))
            go_wp2_with fail
            go_roundw
            case rel => exact ⟨k + 1, by go_num, by omega, Lib.hid (fun j hj h1 => hck.out j hj h1 (fun e => by rw [HCK.out j hj e]; simp)), HMD1.out.drewN _⟩
            case measure => simp [intOf]; omega
          · have HCUT := Lib.hid hcut
            rw [decide_eq_false hcut] at HE HCK
            have HFD := Lib.hid hfd
            clear hcut hTe hp1 hp2 hu hv
            go_wp2_with fail
            go_quiet ((go_at_call 63; exact quiet_eq (HE.out _ (HMD.out.drewN _))))
            go_wp2_with fail
            go_ret2
            unfold PutPost
            rw [if_pos (clash_of HX0.out (by rw [HCK.out k HX0.out rfl, HFD.out]; rfl))]
            exact ⟨rfl, HMD.out.drewN _⟩
        · exfalso
          omega
    · obtain rfl : k = L := by omega
      have hkz : ¬ (k : Int) < (k : Int) := by omega
      have HNC := Lib.hid (clash_none (fun j hj => hcr.out j hj (by rw [HL.out] at hj; exact hj)))
      have hmw := HM1.out.trans hmr (fun _ _ e => e)
      have HMW := Lib.hid hmw
      have c0 : wr.cell? ⟨bb, 0, none⟩ = some (.slice (some ⟨g, 0, none⟩) N N) := by
        have := (HH.out.blk.mod hmw (fun e => e)).cell 0
        rw [HN.out] at this
        exact this
      have hown : Own wr 0 5 1 encB (.slice (some ⟨g, 0, none⟩) N N) b.bs := by
        have := HH.out.own.mod hmw (fun _ _ e => e)
        rw [HN.out] at this
        exact this
      obtain ⟨w5, hrun, hown5, m5⟩ := run_copy_has (oo := if N = off then 0 else off) (off := off) (dLen := N - off) (dCap := N - off) hown (HD.out.later hmw (Nat.le_refl _)) (by rw [Hn.out, HTe.out]; exact ho) (by have := HTe.out; have := Hn.out; omega) (by
        by_cases e : N = off
        · rw [if_pos e]
          refine .inr (List.eq_nil_of_length_eq_zero ?_)
          have := HTe.out
          have := Hn.out
          omega
        · rw [if_neg e]; exact .inl rfl)
      have hset : SetB w5 0 sb N sv b.l := by
        have := (HH.out.set.mod hmw (fun e => e) (fun _ _ e => e)).mod m5 (fun e => HH.out.ne3 (by rw [e]; rfl)) (fun z e1 e2 => HH.out.ne5 g rfl (by rw [← e2]; exact e1))
        rw [HN.out] at this
        exact this
      have c5 : w5.cell? ⟨bb, 1, none⟩ = some (.pointer (some ⟨sb, 0, none⟩)) := ((HH.out.blk.mod hmw (fun e => e)).mod m5 (fun e => HH.out.ne2 (by rw [e]; rfl))).cell 1
      have HADD := Lib.hid (addW sb 0 N off T sv b.l w5 hset (by omega) (by have := HTe.out; omega) (by omega))
      have HRUN := Lib.hid hrun
      have HO5 := Lib.hid hown5
      have HM5 := Lib.hid m5
      have ho1 : off ≤ N := by have := HTe.out; omega
      clear hrun hown5 m5 hown hmw hset hmr hcr
      by_cases hoN : N = off
      · rw [if_pos hoN] at HRUN
        subst hoN
        go_wp2_with (refine wpList_copy_run _ rfl (.tmp 90) (.tmp 91) 30 30 rfl (.slice (some ⟨g, 0, none⟩) (N - N) (N - N)) (.slice A n cap) (by simp [Act.eval]) (by simp [Act.eval]) (by rw [← Hn.out]; exact HRUN.out _) ?_)
        refine HADD.out.mono ?_
        rintro e w6 ⟨rfl, v', hs6, m6, hv6⟩
        have HFIN := Lib.hid (putFin HH.out HN.out HMW.out HO5.out HM5.out hs6 m6 hv6 (by rw [Hn.out]; exact HTe.out) ho HBT.out)
        clear hs6 m6 hv6
        go_wp2_with fail
        go_ret2
        unfold PutPost
        rw [if_neg (by rw [HNC.out]; exact Bool.false_ne_true)]
        refine ⟨by rw [Hn.out, HTe.out]; rfl, HFIN.out.1, HFIN.out.2⟩
      · rw [if_neg hoN] at HRUN
        go_wp2_with (refine wpList_copy_run _ rfl (.tmp 90) (.tmp 91) 30 30 rfl (.slice (some ⟨g, off, none⟩) (N - off) (N - off)) (.slice A n cap) (by simp [Act.eval]) (by simp [Act.eval]) (by rw [← Hn.out]; exact HRUN.out _) ?_)
        refine HADD.out.mono ?_
        rintro e w6 ⟨rfl, v', hs6, m6, hv6⟩
        have HFIN := Lib.hid (putFin HH.out HN.out HMW.out HO5.out HM5.out hs6 m6 hv6 (by rw [Hn.out]; exact HTe.out) ho HBT.out)
        clear hs6 m6 hv6
        go_wp2_with fail
        go_ret2
        unfold PutPost
        rw [if_neg (by rw [HNC.out]; exact Bool.false_ne_true)]
        refine ⟨by rw [Hn.out, HTe.out]; rfl, HFIN.out.1, HFIN.out.2⟩
end Go.Proofs.Ytddnlbkocmpffaa
