/- peer.Receivers.Retire. -/
import Derived.Test.YtddnlbkocmpffaaZRecQ
namespace Go.Proofs.Ytddnlbkocmpffaa
open Go.RowKit
set_option linter.unusedVariables false
set_option maxHeartbeats 4000000
set_option maxRecDepth 100000
def goneK (i : Nat) (below : Int) (k : Int × Int) : Bool := decide (k.1 = (i : Int)) && decide (k.2 < below)
/-- .. behind keys that were looked at. -/
def RecA.ret (R : RecA) (i : Nat) (below : Int) (l : List (Int × Int)) : RecA :=
  { R with tab := fun k => if k ∈ l ∧ goneK i below k = true then none else R.tab k, n := R.n - (l.countP (goneK i below) : Nat), known := setAt R.known i (R.known i - (l.countP (goneK i below) : Nat)) }
/-- .. behind 'Retire'; so many are gone. -/
def RecA.retire (R : RecA) (i : Nat) (below : Int) (c : Nat) : RecA :=
  { R with win := setAt R.win i (retL (R.win i).1 (R.win i).2 below), tab := fun k => if goneK i below k = true then none else R.tab k, n := R.n - (c : Nat), known := setAt R.known i (R.known i - (c : Nat)) }
section
variable {rb : Nat} {ad : RAd} {R : RecA} {w : World} {s : Nat → Prop}
theorem RecA.ret_nil (i : Nat) (below : Int) : R.ret i below [] = R := by
  unfold RecA.ret
  have : setAt R.known i (R.known i - (([] : List (Int × Int)).countP (goneK i below) : Nat)) = R.known := by
    funext j
    unfold setAt
    split
    · rename_i e; rw [e]; simp
    · rfl
  rw [this]
  simp
theorem RecA.ret_no {i : Nat} {below : Int} {l : List (Int × Int)} {k : Int × Int} (h : goneK i below k = false) : R.ret i below (l ++ [k]) = R.ret i below l := by
  unfold RecA.ret
  rw [List.countP_append, List.countP_singleton, h]
  congr 1
  funext k'
  by_cases e : k' = k
  · rw [e, h]; simp
  · simp [e]
theorem RecA.ret_yes {i : Nat} {below : Int} {l : List (Int × Int)} {k : Int × Int} (h : goneK i below k = true) : R.ret i below (l ++ [k]) = (R.ret i below l).forget i k.2 := by
  have hk : k = ((i : Int), k.2) := by
    unfold goneK at h
    simp at h
    exact Prod.ext h.1 rfl
  unfold RecA.ret RecA.forget
  rw [List.countP_append, List.countP_singleton, h, if_pos rfl, ← hk]
  congr 1
  · funext k'
    show _ = setBuf _ k none k'
    unfold setBuf
    by_cases e : k' = k
    · rw [if_pos e, e, h]; simp
    · simp [e]
  · show R.n - _ = R.n - _ - 1
    omega
  · funext j
    show setAt R.known i _ j = setAt (setAt R.known i _) i (setAt R.known i _ i - 1) j
    unfold setAt
    by_cases e : j = i
    · rw [if_pos e, if_pos e, if_pos rfl]; omega
    · rw [if_neg e, if_neg e, if_neg e]
theorem RecA.ret_all {i : Nat} {below : Int} {l : List (Int × Int)} (h : ∀ k, k ∈ l ↔ (R.tab k).isSome = true) : (R.ret i below l).tab = fun k => if goneK i below k = true then none else R.tab k := by
  funext k
  show (if k ∈ l ∧ goneK i below k = true then none else R.tab k) = _
  by_cases hg : goneK i below k = true
  · rw [if_pos hg]
    by_cases hk : k ∈ l
    · rw [if_pos ⟨hk, hg⟩]
    · rw [if_neg (fun e => hk e.1)]
      cases hc : R.tab k with
      | none => rfl
      | some b => exact absurd ((h k).2 (by rw [hc]; rfl)) hk
  · rw [if_neg hg, if_neg (fun e => hg e.2)]
theorem perm_count {l l' : List (Int × Int)} (h1 : l.Nodup) (h2 : l'.Nodup) (h : ∀ k, k ∈ l ↔ k ∈ l') (p : Int × Int → Bool) : l.countP p = l'.countP p :=
  ((List.perm_ext_iff_of_nodup h1 h2).2 h).countP_eq p
def RetR (rb : Nat) (R2 : RecA) (i : Nat) (below : Int) (kl : List (Int × Int)) (w3 : World) (S2 : Nat → Prop) (k cn : Nat) (wr : World) : Prop :=
  cn = (kl.take k).countP (goneK i below) ∧ ∃ ad', RecX rb ad' (R2.ret i below (kl.take k)) wr (Ext S2 w3 wr) ∧ RLink ad' (R2.ret i below (kl.take k)) ∧ Mod S2 w3 wr
theorem recRetire0 (h : RecX rb ad R w s) (hsz : ∀ k, s k → k < w.heap.size) (hl : RLink ad R) (i : Nat) (hi : i < 8) (below : Int) (hb0 : 0 ≤ below) (ks : List (Int × Int)) (hks : KeysOf R ks) (hkn : -1000000 ≤ R.known i ∧ R.known i ≤ 1000000) (hn : R.n ≤ 1000000) :
    Calls Try.prog 31 #[.pointer (some ⟨rb, 0, none⟩), .int .i64 i, .int .u64 below] w fun e w' => e = .returned (.int .i64 (ks.countP (goneK i below) : Nat)) ∧ RecO rb (R.retire i below (ks.countP (goneK i below))) w' (Ext s w w') ∧ Mod s w w' := by
  have HY := Lib.hid (hasYes h i hi)
  obtain ⟨t, ⟨v, hw, hwb, hwv⟩, ht, hput⟩ := h.winP hi
  have HW := Lib.hid (retireW (ad.wb i) R.most (R.win i).1 below v (R.win i).2 w 0 hw hb0)
  have c2 : w.cell? ⟨rb, 2 + i, none⟩ = some (.pointer (some ⟨ad.wb i, 0, none⟩)) := (h.top.2.cell (2 + i)).trans (recCells_win hi)
  have i1 : (0 : Int) ≤ (i : Int) := by omega
  have i2 : (i : Int) < 8 := by omega
  have HX := Lib.hid h
  have HL := Lib.hid hl
  have HKS := Lib.hid hks
  have HSZ := Lib.hid hsz
  have HP := Lib.hid hput
  have HWB := Lib.hid hwb
  have HWV := Lib.hid hwv
  have HT := Lib.hid ht
  obtain ⟨cc, hcc⟩ : ∃ cc, ks.countP (goneK i below) = cc := ⟨_, rfl⟩
  rw [hcc]
  have HCC := Lib.hid hcc
  clear h hl hks hsz hput hwb hwv ht hw hcc
  go_enter Try.func31, Try.ntmps31
  go_wp2_with fail
  refine HY.out.mono ?_
  rintro e w2 ⟨rfl, rfl⟩
  go_wp2_with fail
  refine HW.out.mono ?_
  rintro e w2 ⟨⟨nz, rfl⟩, v', hw2, m2, hv2⟩
  have m2' := m2.mono (S' := t) (fun k hk e => e.elim (fun e => by rw [e]; exact HWB.out) (fun e => HWV.out k e))
  have hx2 := HP.out (retL (R.win i).1 (R.win i).2 below) w2 m2' ⟨v', hw2, .inl HWB.out, fun k hk => .inl (HWV.out k (by rw [← hv2]; exact hk))⟩
  have HM2 := Lib.hid (m2'.mono (S' := s) (fun k _ e => (HT.out k e).1))
  have c1 : w2.cell? ⟨rb, 1, none⟩ = some (.pointer (some ⟨ad.bt, 0, none⟩)) := hx2.top.2.cell 1
  obtain ⟨t2, -, htb, -⟩ := hx2.tabP
  have HK := Lib.hid (TabBuf.keysT ad.bt ad.bs R.most R.n ad.m w2 htb)
  have HX2 := Lib.hid hx2
  clear hw2 m2 hv2 m2' hx2 htb c2
  go_wp2_with fail
  refine HK.out.mono ?_
  rintro e w3 ⟨kv, kl, rfl, ho3, hs3, hm3, hl3, m3⟩
  obtain ⟨Ak, ck, rfl, -, hAk⟩ := ho3.form
  have HAK := Lib.hid hAk
  have HM3 := Lib.hid m3
  have HO3 := Lib.hid ho3
  have HS3 := Lib.hid hs3
  obtain ⟨L, hL⟩ : ∃ L, kl.length = L := ⟨_, rfl⟩
  rw [hL] at hl3 ⊢
  have HLN := Lib.hid hL
  have hLb : L ≤ 1000000 := by omega
  have HMK := Lib.hid (show ∀ k, k ∈ kl ↔ (R.tab k).isSome = true from fun k => by rw [hm3, HL.out.tab]; simp)
  have HND := Lib.hid (show kl.Nodup from hs3.imp (fun {a b} h e => by subst e; unfold ltK at h; omega))
  clear ho3 hs3 hm3 m3 hAk hL hl3 c1
  go_wp2_with fail
  obtain ⟨R2, hR2⟩ : ∃ R2 : RecA, R2 = { R with win := setAt R.win i (retL (R.win i).1 (R.win i).2 below) } := ⟨_, rfl⟩
  have HR2 := Lib.hid hR2
  have X3 := Lib.hid (show RecX rb ad R2 w3 (Ext s w w2) by rw [hR2]; exact HX2.out.later HM3.out)
  have HL2 := Lib.hid (show RLink ad R2 by rw [hR2]; exact ⟨HL.out.tab, HL.out.outc, HL.out.msr⟩)
  have HT2 := Lib.hid (show R2.tab = R.tab by rw [hR2])
  have hkn2 : -1000000 ≤ R2.known i ∧ R2.known i ≤ 1000000 := by rw [hR2]; exact hkn
  clear hR2 HX2 hkn
  go_loopw [27, 6] (fun q c wr => ∃ (k cn : Nat), q = .int .i64 k ∧ k ≤ L ∧ c = .int .i64 cn ∧ cn ≤ k ∧ Hid (RetR rb R2 i below kl w3 (Ext s w w2) k cn wr)) (fun q _ _ => L - (intOf q).toNat)
  case atStart => exact ⟨0, 0, rfl, Nat.zero_le _, rfl, Nat.le_refl _, Lib.hid ⟨rfl, ad, by rw [List.take_zero, RecA.ret_nil]; exact X3.out.up (fun _ e => .inl e), by rw [List.take_zero, RecA.ret_nil]; exact HL2.out, Mod.refl _ _⟩⟩
  case round =>
    obtain ⟨k, cn, rfl, hk, rfl, hck, hrel⟩ := hrel
    by_cases hkn : k < L
    · have hkx : k < kl.length := by rw [HLN.out]; exact hkn
      have hkz : (k : Int) < (L : Int) := by omega
      have hkz0 : (0 : Int) ≤ (k : Int) := by omega
      have hkd : decide ((k : Int) < (L : Int)) = true := by simpa using hkz
      have hx? := List.getElem?_eq_getElem hkx
      obtain ⟨g, rfl⟩ : ∃ g, Ak = some ⟨g, 0, none⟩ := by
        rcases HAK.out with ⟨_, hnil, _⟩ | ⟨g, e, _⟩
        · rw [hnil] at hkx; simp at hkx
        · exact ⟨g, e⟩
      have hgs : ¬ Ext s w w2 g := fun e => by
        have h1 := HO3.out.base (k := g) rfl
        have h2 := HM2.out.size
        rcases e with e | ⟨-, e⟩
        · have := HSZ.out g e; omega
        · omega
      obtain ⟨hr1, ad', hr2, hr3, hr4⟩ := hrel.out
      have hown := HO3.out.mod hr4 (fun z e => by have : g = z := Option.some.inj e; subst this; exact hgs)
      have d1 : wr.cell? ⟨g, k * 2, none⟩ = some (.int .i64 (kl[k]'hkx).1) := by
        have := hown.cell TabBuf.encKy_len hx? (j := 0) (by omega)
        rw [Nat.add_zero] at this
        exact this
      have d2 : wr.cell? ⟨g, k * 2 + 1, none⟩ = some (.int .u64 (kl[k]'hkx).2) := by
        exact hown.cell TabBuf.encKy_len hx? (j := 1) (by omega)
      have HTS := Lib.hid (show kl.take (k + 1) = kl.take k ++ [kl[k]'hkx] from List.take_succ_eq_append_getElem hkx)
      have HNI := Lib.hid (show kl[k]'hkx ∉ kl.take k from fun e => by
        obtain ⟨j, hj, hje⟩ := List.mem_take_iff_getElem.1 e
        exact List.pairwise_iff_getElem.1 HND.out j k (by omega) hkx (by omega) hje)
      have HIN := Lib.hid ((HMK.out _).1 (List.getElem_mem hkx))
      generalize kl[k]'hkx = x at *
      obtain ⟨p, q⟩ := x
      simp only at d1 d2
      have ha := (Mod.refl NoB wr).alloc (.cells #[.int .i64 p, .int .u64 q] 92)
      have HR1 := Lib.hid hr1
      have HR4 := Lib.hid hr4
      have HR3 := Lib.hid hr3
      have XR := Lib.hid (hr2.later ha)
      have HA := Lib.hid ha
      clear hr1 hr2 hr3 hr4 ha hown hx? hgs hkx
      by_cases hg : goneK i below (p, q) = true
      · have hpq : p = (i : Int) ∧ q < below := by unfold goneK at hg; simpa using hg
        obtain ⟨rfl, hqb⟩ := hpq
        have hqd : decide (q < below) = true := by simpa using hqb
        have htk : (R2.ret i below (kl.take k)).tab ((i : Int), q) = R.tab ((i : Int), q) := by
          show (if _ ∧ _ then none else R2.tab _) = _
          rw [if_neg (fun e => HNI.out e.1), HT2.out]
        obtain ⟨b, hb⟩ := Option.isSome_iff_exists.1 HIN.out
        have hcl := List.countP_le_length (p := goneK i below) (l := kl.take k)
        have hcl2 := List.length_take_le k kl
        have hfw := forgetW XR.out HR3.out.tab i hi q (htk.trans hb) ⟨by show _ ≤ setAt R2.known i _ i; unfold setAt; rw [if_pos rfl]; omega, by show setAt R2.known i _ i ≤ _; unfold setAt; rw [if_pos rfl]; omega⟩
        have HFW := Lib.hid hfw
        have HG := Lib.hid hg
        have HRS := Lib.hid (RecA.ret_yes (R := R2) (l := kl.take k) hg)
        clear hg htk hb hfw hcl hcl2
        go_wp2_with fail
        refine HFW.out.mono ?_
        rintro e w5 ⟨rfl, hx5, m5⟩
        have HX5 := Lib.hid hx5
        have HM5 := Lib.hid m5
        clear hx5 m5
        go_wp2_with fail
        go_roundw
        case rel =>
          refine ⟨k + 1, cn + 1, by go_num, by omega, by go_num, by omega, Lib.hid ⟨?_, { ad' with m := fun z => if z = ((i : Int), q) then none else ad'.m z }, ?_, ?_, ?_⟩⟩
          · rw [HTS.out, List.countP_append, List.countP_singleton, HG.out, if_pos rfl, HR1.out]
          · rw [HTS.out, HRS.out]
            exact HX5.out.up fun z hz => by
              have z1 := HR4.out.size
              have z2 := HA.out.size
              have z3 := HM5.out.size
              rcases hz with (hz | ⟨a, b⟩) | ⟨a, b⟩
              · exact .inl hz
              · exact .inr ⟨a, by omega⟩
              · exact .inr ⟨by omega, by omega⟩
          · rw [HTS.out, HRS.out]
            refine ⟨fun z => ?_, HR3.out.outc, HR3.out.msr⟩
            show (if z = ((i : Int), q) then none else ad'.m z) = (setBuf (R2.ret i below (kl.take k)).tab ((i : Int), q) none z).map _
            unfold setBuf
            split
            · rfl
            · exact HR3.out.tab z
          · exact (HR4.out.trans HA.out (fun _ _ e => e.elim)).trans HM5.out (fun z hz e => e.elim (fun e => e) (fun e => by omega))
        case measure => simp [intOf]; omega
      · have hgf : goneK i below (p, q) = false := by simpa using hg
        have HG := Lib.hid hgf
        have HRS := Lib.hid (RecA.ret_no (R := R2) (l := kl.take k) hgf)
        have hsp : (p == (i : Int)) = false ∨ ((p == (i : Int)) = true ∧ ¬ q < below ∧ decide (q < below) = false) := by
          unfold goneK at hgf
          by_cases e : p = (i : Int)
          · refine .inr ⟨by rw [e]; exact beq_self_eq_true _, ?_⟩
            have : ¬ q < below := by simpa [e] using hgf
            exact ⟨this, decide_eq_false this⟩
          · exact .inl (by rw [beq_eq_false_iff_ne]; exact e)
        clear hg hgf
        rcases hsp with hp | ⟨hp, hq, hqd⟩
        all_goals
          go_wp2_with fail
          go_roundw
          case rel =>
            refine ⟨k + 1, cn, by go_num, by omega, rfl, by omega, Lib.hid ⟨?_, ad', ?_, ?_, ?_⟩⟩
            · rw [HTS.out, List.countP_append, List.countP_singleton, HG.out, HR1.out]; rfl
            · rw [HTS.out, HRS.out]
              exact XR.out.up fun z hz => by
                have z2 := HA.out.size
                rcases hz with hz | ⟨a, b⟩
                · exact .inl hz
                · exact .inr ⟨a, by omega⟩
            · rw [HTS.out, HRS.out]
              exact HR3.out
            · exact HR4.out.trans HA.out (fun _ _ e => e.elim)
          case measure => simp [intOf]; omega
    · obtain rfl : k = L := by omega
      have hkz : ¬ (k : Int) < (k : Int) := by omega
      have hlk : kl.take k = kl := by rw [← HLN.out]; exact List.take_length
      obtain ⟨hr1, ad', hr2, hr3, hr4⟩ := hrel.out
      rw [hlk] at hr1 hr2 hr3
      have hcc : kl.countP (goneK i below) = cc := by rw [← HCC.out]; exact perm_count HND.out HKS.out.nodup (fun z => (HMK.out z).trans (HKS.out.mem z).symm) _
      have hret : R2.ret i below kl = R.retire i below cc := by
        have h1 := RecA.ret_all (R := R2) (i := i) (below := below) (l := kl) (fun z => by rw [HT2.out]; exact HMK.out z)
        have h2 : R2.ret i below kl = { R2.ret i below kl with tab := fun k => if goneK i below k = true then none else R2.tab k } := by rw [← h1]
        rw [h2]
        unfold RecA.ret RecA.retire
        rw [hcc, HR2.out]
      obtain rfl : cn = cc := by rw [hr1, hcc]
      have z2 := HM2.out.size
      have z3 := HM3.out.size
      have z4 := hr4.size
      have HF := Lib.hid (show RecO rb (R.retire i below cn) wr (Ext s w wr) from ⟨ad', by
        rw [← hret]
        exact hr2.up fun z hz => by
          rcases hz with (hz | ⟨a, b⟩) | ⟨a, b⟩
          · exact .inl hz
          · exact .inr ⟨a, by omega⟩
          · exact .inr ⟨by omega, by omega⟩, by rw [← hret]; exact hr3⟩)
      have HMF := Lib.hid ((HM2.out.trans HM3.out (fun _ _ e => e.elim)).trans hr4 (fun z hz e => e.elim (fun e => e) (fun e => by omega)))
      clear hr1 hr2 hr3 hr4 hcc hret hlk hrel
      go_wp2_with fail
      go_ret
      exact ⟨rfl, HF.out, HMF.out⟩
theorem recRetireW (h : RecO rb R w s) (hok : RecOk R) (i : Nat) (hi : i < 8) (below : Int) (hb0 : 0 ≤ below) (ks : List (Int × Int)) (hks : KeysOf R ks) :
    Calls Try.prog 31 #[.pointer (some ⟨rb, 0, none⟩), .int .i64 i, .int .u64 below] w fun e w' => e = .returned (.int .i64 (ks.countP (goneK i below) : Nat)) ∧ RecO rb (R.retire i below (ks.countP (goneK i below))) w' (Ext s w w') ∧ Mod s w w' := by
  obtain ⟨ad, h, hl⟩ := h
  obtain ⟨s0, hs0, h0⟩ := h.size 0
  refine (recRetire0 h0 (fun k hk => (hs0 k hk).2) hl i hi below hb0 ks hks (hok.knownB hi) (by have := hok.cap; have := hok.m2; omega)).mono ?_
  rintro e w' ⟨he, ⟨ad', k1, k2⟩, k3⟩
  exact ⟨he, ⟨ad', k1.up (fun k hk => hk.elim (fun e => .inl (hs0 k e).1) .inr), k2⟩, k3.mono (fun k _ hk => (hs0 k hk).1)⟩
end
end Go.Proofs.Ytddnlbkocmpffaa
