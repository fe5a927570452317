/- Senders.Open, Lowest; Giver.Last. -/
import Derived.Test.YtddnlbkocmpffaaZSndE
namespace Go.Proofs.Ytddnlbkocmpffaa
open Go.RowKit
set_option linter.unusedVariables false
set_option maxHeartbeats 4000000
set_option maxRecDepth 100000
/-- The ids of what is pending. -/
def openA (l : List OutA) : List Int := (l.filter fun a => a.st == 1).map (·.id)
/-- The place of the first message that is pending for a host. -/
def lowAt (dst : Int) : List OutA → Nat → Int
  | [], _ => -1
  | a :: l, k => if a.dst = dst ∧ a.st = 1 then (k : Int) else lowAt dst l (k + 1)
/-- The least pending number for a host. -/
def lowA (S : SndA) (dst : Int) : Int := match S.l.find? (fun a => decide (a.dst = dst ∧ a.st = 1)) with | some a => a.id | none => S.gl + 1
theorem openA_snoc {l : List OutA} {k : Nat} {a : OutA} (hk : l[k]? = some a) : openA (l.take (k + 1)) = openA (l.take k) ++ (if a.st == 1 then [a.id] else []) := by
  obtain ⟨h1, h2⟩ := List.getElem?_eq_some_iff.1 hk
  rw [List.take_succ_eq_append_getElem h1, h2]
  unfold openA
  rw [List.filter_append, List.map_append]
  congr 1
  by_cases h : (a.st == 1) = true
  · simp [h]
  · simp [h]
theorem openA_le (l : List OutA) : (openA l).length ≤ l.length := by
  unfold openA
  rw [List.length_map]
  exact List.length_filter_le _ _
theorem lowAt_none {dst : Int} : ∀ {l : List OutA} {k : Nat}, lowAt dst l k = -1 → l.find? (fun a => decide (a.dst = dst ∧ a.st = 1)) = none
  | [], k, h => rfl
  | a :: l, k, h => by
    unfold lowAt at h
    split at h
    · omega
    · rename_i hn
      rw [List.find?_cons_of_neg (by simpa using hn)]
      exact lowAt_none h
theorem lowAt_some {dst : Int} : ∀ {l : List OutA} {k : Nat} {i : Int}, lowAt dst l k = i → i ≠ -1 → ∃ (j : Nat) (a : OutA), i = ((k + j : Nat) : Int) ∧ l[j]? = some a ∧ l.find? (fun a => decide (a.dst = dst ∧ a.st = 1)) = some a
  | [], k, i, h, hn => absurd h.symm hn
  | a :: l, k, i, h, hn => by
    unfold lowAt at h
    split at h
    · rename_i hp
      exact ⟨0, a, by omega, rfl, List.find?_cons_of_pos (by simpa using hp)⟩
    · rename_i hp
      obtain ⟨j, b, e, h1, h2⟩ := lowAt_some h hn
      exact ⟨j + 1, b, by omega, h1, by rw [List.find?_cons_of_neg (by simpa using hp)]; exact h2⟩
theorem encU_info : (Try.prog.info? 29).map (fun i => (i.zero, i.size, i.bytes)) = some (some (.int .u64 0), 1, 8) := by kernel_rfl
section
variable {sb : Nat} {ad : SAd} {S : SndA} {w : World} {s : Nat → Prop}
theorem openW (h : SndX sb ad S w s) (hl : SLink ad) (hn : S.l.length ≤ 1000000) :
    Calls Try.prog 26 #[.pointer (some ⟨sb, 0, none⟩)] w fun e w' => (∃ v, e = .returned v ∧ Own w' w.heap.size 29 1 (encN .u64) v (openA S.l)) ∧ Mod NoB w w' := by
  obtain ⟨i0, hi0, hz0, hz1, hz2⟩ := info_parts encU_info
  have hlen := h.lens
  have hrow : Own w 0 56 5 encO ad.lc ad.ovs := h.row hl
  obtain ⟨A, cap, hv, hcap, hA⟩ := hrow.form
  obtain ⟨n, hnn⟩ : ∃ n, S.l.length = n := ⟨_, rfl⟩
  rw [hlen, hnn] at hv hcap
  have c3 : w.cell? ⟨sb, 3, none⟩ = some (.slice A n cap) := by rw [h.top.2.cell, ← hv]; rfl
  have HATS := Lib.hid (fun (k : Nat) (a : OutA) (hk : S.l[k]? = some a) => h.ats hk)
  rw [hv] at hrow
  have HROW := Lib.hid hrow.has
  have hnb : n ≤ 1000000 := by omega
  have HN := Lib.hid hnn
  generalize S.l = l at *
  generalize ad.ovs = ovs at *
  clear h hrow hv hlen hn hnn hcap hA
  go_enter Try.func26, Try.ntmps26
  go_wp2_with fail
  go_loopw [2, 12] (fun o i wr => ∃ k : Nat, i = .int .i64 k ∧ k ≤ n ∧ Own wr w.heap.size 29 1 (encN .u64) o (openA (l.take k)) ∧ Mod NoB w wr) (fun _ i _ => n - (intOf i).toNat)
  case atStart => exact ⟨0, rfl, by omega, Own.nil, Mod.refl _ _⟩
  case round =>
    obtain ⟨k, rfl, hk, hown, hm⟩ := hrel
    by_cases hkl : k < n
    · have hkz : (k : Int) < (n : Int) := by omega
      have hkz0 : (0 : Int) ≤ (k : Int) := by omega
      have hkx : k < l.length := by rw [HN.out]; exact hkl
      have hx? := List.getElem?_eq_getElem hkx
      obtain ⟨o, ho, e1, e2, e3, hdo⟩ := HATS.out k _ hx?
      obtain ⟨Ad, cd, hdv, -⟩ := hdo.form
      obtain ⟨ld, hld⟩ : ∃ ld, (l[k]'hkx).data.length = ld := ⟨_, rfl⟩
      rw [hld] at hdv
      obtain ⟨g, off, rfl, hg, c0⟩ := (HROW.out.later hm (Nat.le_refl _)).at_ encO_len ho
      have hos := openA_snoc hx?
      have hol := Nat.le_trans (openA_le (l.take k)) (by rw [List.length_take]; exact Nat.min_le_left k _)
      clear hdo hld
      generalize l[k]'hkx = a at *
      have q1 := c0 0 (by omega)
      have q2 := c0 1 (by omega)
      have q3 := c0 2 (by omega)
      have q4 := c0 3 (by omega)
      have q5 := c0 4 (by omega)
      obtain ⟨oid, odst, odv, ost, one⟩ := o
      dsimp only at e1 e2 e3 hdv
      subst e1 e2 e3 hdv
      simp only [encO, List.getElem?_cons_zero, List.getElem?_cons_succ, ← Nat.add_assoc, Nat.add_zero] at q1 q2 q3 q4 q5
      have HM := Lib.hid hm
      have HOWN := Lib.hid hown
      have HOS := Lib.hid hos
      obtain ⟨L0, hL0⟩ : ∃ L0, openA (l.take k) = L0 := ⟨_, rfl⟩
      rw [hL0] at HOWN HOS hol
      obtain ⟨aid, adst, adata, ast⟩ := a
      dsimp only at q1 q2 q4 HOS
      clear c0 hx? ho hos hm hown hL0 hkx
      obtain ⟨A1, cap1, rfl, hcap1, _⟩ := HOWN.out.form
      by_cases hst : ast = 1
      · subst hst
        have hlit := World.ownsRow_lit (base := 0) (size := 1) (e := 29) (wr.alloc (.cells #[.int .u64 aid, .int .i64 adst, .slice Ad ld cd, .int .i64 1, .bool false] 56)) #[.int .u64 aid] 1 (Nat.zero_le _) (by decide) rfl
        have hlit2 := Reads.of_own hlit
        have hzs : (wr.alloc (.cells #[.int .u64 aid, .int .i64 adst, .slice Ad ld cd, .int .i64 1, .bool false] 56)).heap.size = wr.heap.size + 1 := by simp
        rw [hzs] at hlit2
        have HLIT := Lib.hid hlit2
        have HOWN2 := Lib.hid (Own.later (((Mod.refl (fun _ => False) wr).alloc (.cells #[.int .u64 aid, .int .i64 adst, .slice Ad ld cd, .int .i64 1, .bool false] 56)).alloc (.cells #[.int .u64 aid] 29)) HOWN.out)
        have HBA := Lib.hid (fun q (e : (Value.slice A1 L0.length cap1).ownBlock = some q) => HOWN.out.base e)
        have H1C := Lib.hid (show ∀ y ∈ [Value.int .u64 aid], y.oneCell' = true from fun y hy => by simp at hy; subst hy; rfl)
        have hs5 := HM.out.size
        clear hlit hlit2 hzs
        go_wp2_with (at_builtin
                     refine wpList_append_any _ rfl (.tmp 19) (.tmp 22) _ rfl w.heap.size 29 i0 _ 1 8 Try.underlying67 hi0 hz0 hz1 hz2 rfl (by omega) (.slice A1 L0.length cap1) L0.length (L0.flatMap (encN .u64)) rfl HOWN2.out _ (some ⟨wr.heap.size + 1, 0, none⟩) 1 1 [.int .u64 aid] rfl HLIT.out H1C.out (by simp only [maxLen]; omega) (by omega) (by simp; omega) ?_
                     intro v2 w8 hown2 hgr2 hat2)
        have hown3 : Own w8 w.heap.size 29 1 (encN .u64) v2 (openA (l.take (k + 1))) := by
          rw [HOS.out]
          unfold Own
          rw [if_pos (by rfl), flat_snoc, List.length_append]
          exact hown2
        have m8 : Mod (fun _ => False) w w8 := ((HM.out.alloc (.cells #[.int .u64 aid, .int .i64 adst, .slice Ad ld cd, .int .i64 1, .bool false] 56)).alloc (.cells #[.int .u64 aid] 29)).trans (Mod.ofGrown hgr2) (fun q hq e => by
          have := HBA.out q e
          omega)
        go_roundw
        case rel => exact ⟨k + 1, by go_num, by omega, hown3, m8⟩
        case measure => simp [intOf]; omega
      · have hb1 : (ast == 1) = false := by simp [hst]
        go_wp2_with fail
        go_roundw
        case rel => exact ⟨k + 1, by go_num, by omega, by rw [HOS.out, if_neg (by rw [hb1]; decide), List.append_nil]; exact HOWN.out.later ((Mod.refl _ _).alloc _), HM.out.alloc _⟩
        case measure => simp [intOf]; omega
    · obtain rfl : n = k := by omega
      have hkz : ¬ (n : Int) < (n : Int) := by omega
      have ht : l.take n = l := List.take_of_length_le (by rw [HN.out]; exact Nat.le_refl _)
      rw [ht] at hown
      have HO := Lib.hid hown
      have HM := Lib.hid hm
      clear hown hm
      go_wp2_with fail
      go_ret
      exact ⟨⟨_, rfl, HO.out⟩, HM.out⟩
theorem clLowW (o : OutV) (dst : Int) (fb : Nat) (w : World) (hf : w.cell? ⟨fb, 0, none⟩ = some (.int .i64 dst)) :
    Calls Try.prog 50 #[.agg #[.int .u64 o.id, .int .i64 o.dst, o.dv, .int .i64 o.st, .bool false], .pointer (some ⟨fb, 0, none⟩)] w fun e w' => e = .returned (.bool (decide (o.dst = dst ∧ o.st = 1))) ∧ Mod NoB w w' := by
  obtain ⟨id, odst, dv, st, one⟩ := o
  dsimp only
  have hfb := block_lt_of_cell hf
  simp only at hfb
  have HM := Lib.hid ((Mod.refl NoB w).alloc (.cells (Value.cells (.agg #[.int .u64 id, .int .i64 odst, dv, .int .i64 st, .bool false])) 56))
  by_cases h1 : odst = dst
  · subst h1
    by_cases h2 : st = 1
    · subst h2
      rw [decide_eq_true (by simp)]
      go_enter Try.func50, Try.ntmps50
      go_wp2_with fail
      go_ret
      exact ⟨rfl, HM.out⟩
    · rw [decide_eq_false (by simp [h2])]
      have hb : (st == 1) = false := by simp [h2]
      go_enter Try.func50, Try.ntmps50
      go_wp2_with fail
      go_ret
      exact ⟨rfl, HM.out⟩
  · rw [decide_eq_false (by simp [h1])]
    have hb : (odst == dst) = false := by simp [h1]
    go_enter Try.func50, Try.ntmps50
    go_wp2_with fail
    go_ret
    exact ⟨rfl, HM.out⟩
theorem idxOW (v : Value) (ovs : List OutV) (l : List OutA) (dst : Int) (fb : Nat) (w : World) (h : Own w 0 56 5 encO v ovs) (hats : ∀ (k : Nat) (a : OutA), l[k]? = some a → ∃ o : OutV, ovs[k]? = some o ∧ o.id = a.id ∧ o.dst = a.dst ∧ o.st = a.st) (hlen : ovs.length = l.length) (hn : l.length ≤ 1000000) (hf : w.cell? ⟨fb, 0, none⟩ = some (.int .i64 dst)) :
    Calls Try.prog 49 #[v, .func (.func 50) #[] #[.pointer (some ⟨fb, 0, none⟩)]] w fun e w' => e = .returned (.int .i64 (lowAt dst l 0)) ∧ Mod NoB w w' := by
  obtain ⟨A, cap, rfl, -, -⟩ := h.form
  have hfb := block_lt_of_cell hf
  simp only at hfb
  have HF := Lib.hid hf
  obtain ⟨R, hR⟩ : ∃ R, lowAt dst l 0 = R := ⟨_, rfl⟩
  rw [hR]
  have HR := Lib.hid hR
  rw [hlen] at h ⊢
  obtain ⟨n, hnn⟩ : ∃ n, l.length = n := ⟨_, rfl⟩
  rw [hnn] at hn h ⊢
  have HN := Lib.hid hnn
  have H1 := Lib.hid h.has
  have HA := Lib.hid hats
  clear h hf hR hnn hats hlen
  go_enter Try.func49, Try.ntmps49
  go_wp2_with fail
  go_loopw [8] (fun i wr => ∃ q : Nat, i = .int .i64 q ∧ q ≤ n ∧ Hid (lowAt dst (l.drop q) q = R) ∧ Mod NoB w wr) (fun i _ => n - (RowKit.intOf i).toNat)
  case atStart => exact ⟨0, rfl, by omega, HR, Mod.refl _ _⟩
  case round =>
    obtain ⟨k, rfl, hk, hrel, hmr⟩ := hrel
    by_cases hkn : k < n
    · have hkx : k < l.length := by rw [HN.out]; exact hkn
      have hkz : (k : Int) < (n : Int) := by omega
      have hkz0 : (0 : Int) ≤ (k : Int) := by omega
      have hx? := List.getElem?_eq_getElem hkx
      have hdr := List.drop_eq_getElem_cons hkx
      obtain ⟨o, ho, e1, e2, e3⟩ := HA.out k _ hx?
      obtain ⟨g, off, rfl, hg, c0⟩ := (H1.out.later hmr (Nat.le_refl _)).at_ encO_len ho
      rw [hdr] at hrel
      generalize l[k]'hkx = a at *
      have hrel' : Hid ((if a.dst = dst ∧ a.st = 1 then (k : Int) else lowAt dst (l.drop (k + 1)) (k + 1)) = R) := hrel
      have HCL := Lib.hid (clLowW o dst fb wr ((hmr.cell (p := ⟨fb, 0, none⟩) hfb (fun e => e)).trans HF.out))
      have q1 := c0 0 (by omega)
      have q2 := c0 1 (by omega)
      have q3 := c0 2 (by omega)
      have q4 := c0 3 (by omega)
      have q5 := c0 4 (by omega)
      obtain ⟨oid, odst, odv, ost, one⟩ := o
      dsimp only at e1 e2 e3 HCL
      rw [← e2, ← e3] at hrel'
      simp only [encO, List.getElem?_cons_zero, List.getElem?_cons_succ, ← Nat.add_assoc, Nat.add_zero] at q1 q2 q3 q4 q5
      have HM := Lib.hid hmr
      clear hx? hmr hkx hdr hrel c0 ho e1 e2 e3
      obtain ⟨D, hD⟩ : ∃ D, decide (odst = dst ∧ ost = 1) = D := ⟨_, rfl⟩
      rw [hD] at HCL
      go_wp2_with fail
      refine HCL.out.mono ?_
      rintro e w5 ⟨rfl, m5⟩
      have HM5 := Lib.hid (HM.out.trans m5 (fun _ _ e => e))
      clear m5 q1 q2 q3 q4 q5
      by_cases hp : odst = dst ∧ ost = 1
      · have hrr := hrel'.out
        rw [if_pos hp] at hrr
        obtain rfl : D = true := by rw [← hD]; exact decide_eq_true hp
        clear hrel' hp HR hD
        subst hrr
        go_wp2_with fail
        go_ret
        exact ⟨rfl, HM5.out⟩
      · have hrr := hrel'.out
        rw [if_neg hp] at hrr
        have HRR := Lib.hid hrr
        obtain rfl : D = false := by rw [← hD]; exact decide_eq_false hp
        clear hrel' hp hrr hD
        go_wp2_with fail
        go_roundw
        case rel => exact ⟨k + 1, by go_num, by omega, HRR, HM5.out⟩
        case measure => simp [RowKit.intOf]; omega
    · obtain rfl : k = n := by omega
      have hkz : ¬ (k : Int) < (k : Int) := by omega
      have hdn : l.drop k = [] := List.drop_eq_nil_of_le (by rw [HN.out]; exact Nat.le_refl _)
      rw [hdn] at hrel
      obtain rfl : R = -1 := hrel.out.symm
      have HM := Lib.hid hmr
      clear hmr hdn hrel HR
      go_wp2_with fail
      go_ret
      exact ⟨rfl, HM.out⟩
theorem giverLast (gb : Nat) (gm gl : Int) (w : World) (hb : Blk w gb 138 #[.int .u64 gm, .int .u64 gl]) : Calls Try.prog 51 #[.pointer (some ⟨gb, 0, none⟩)] w fun e w' => e = .returned (.int .u64 gl) ∧ w = w' := by
  have c1 : w.cell? ⟨gb, 1, none⟩ = some (.int .u64 gl) := hb.cell 1
  clear hb
  go_enter Try.func51, Try.ntmps51
  go_wp2_with fail
  go_ret
  exact ⟨rfl, rfl⟩
theorem lowestW (h : SndX sb ad S w s) (hl : SLink ad) (dst : Int) (hn : S.l.length ≤ 1000000) (h0 : 0 ≤ S.gl) (h1 : S.gl ≤ 1152921504606846976) :
    Calls Try.prog 28 #[.pointer (some ⟨sb, 0, none⟩), .int .i64 dst] w fun e w' => e = .returned (.int .u64 (lowA S dst)) ∧ Mod NoB w w' := by
  have m0 := (Mod.refl NoB w).alloc (.cells #[.int .i64 dst] 3)
  have hx0 := h.later m0
  have hlen := h.lens
  have hrow : Own w 0 56 5 encO ad.lc ad.ovs := h.row hl
  have HIX := Lib.hid (idxOW ad.lc ad.ovs S.l dst w.heap.size _ (hx0.row hl) (fun k a hk => by
    obtain ⟨o, q1, q2, q3, q4, -⟩ := h.ats hk
    exact ⟨o, q1, q2, q3, q4⟩) hlen hn ((Blk.new w 3 #[.int .i64 dst]).cell 0))
  have c3 : w.cell? ⟨sb, 3, none⟩ = some ad.lc := by rw [h.top.2.cell]; rfl
  have c2 : w.cell? ⟨sb, 2, none⟩ = some (.pointer (some ⟨ad.gb, 0, none⟩)) := by rw [h.top.2.cell]; rfl
  have hsb := h.top.1.2
  obtain ⟨A, cap, hv, hcap, -⟩ := hrow.form
  rw [hv] at c3 HIX
  obtain ⟨R, hR⟩ : ∃ R, lowAt dst S.l 0 = R := ⟨_, rfl⟩
  rw [hR] at HIX
  have HX := Lib.hid h
  have HM0 := Lib.hid m0
  by_cases hneg : R = -1
  · subst hneg
    have hlow : lowA S dst = S.gl + 1 := by unfold lowA; rw [lowAt_none hR]
    rw [hlow]
    have HWR := Lib.hid (show IntKind.u64.wrap (S.gl + 1) = S.gl + 1 by rw [IntKind.wrap_u64]; omega)
    have HLAST := Lib.hid (fun (W : World) (m : Mod NoB w W) => giverLast ad.gb S.gm S.gl W (h.giv.2.mod m (fun e => e)))
    clear h hl hx0 hlen hrow hv hcap hR m0 hlow h0 h1
    go_enter Try.func28, Try.ntmps28
    go_wp2_with fail
    refine HIX.out.mono ?_
    rintro e w2 ⟨rfl, m2⟩
    have HM2 := Lib.hid (HM0.out.trans m2 (fun _ _ e => e))
    have c2' := (HM2.out.cell (p := ⟨sb, 2, none⟩) hsb (fun e => e)).trans c2
    clear m2
    go_wp2_with fail
    refine (HLAST.out w2 HM2.out).mono ?_
    rintro e w3 ⟨rfl, rfl⟩
    go_wp2_with fail
    go_ret
    exact ⟨by rw [HWR.out]; rfl, HM2.out⟩
  · obtain ⟨j, a, e0, hj, hfi⟩ := lowAt_some hR hneg
    have hlow : lowA S dst = a.id := by unfold lowA; rw [hfi]
    rw [hlow]
    rw [Nat.zero_add] at e0
    subst e0
    obtain ⟨o, ho, e1, -⟩ := h.ats hj
    obtain ⟨g, off, rfl, hg, q0⟩ := (by rw [← hv]; exact hrow.has : Has w w.heap.size 5 encO (.slice A ad.ovs.length cap) ad.ovs).at_ encO_len ho
    have q1 := q0 0 (by omega)
    obtain ⟨oid, odst, odv, ost, one⟩ := o
    dsimp only at e1
    subst e1
    simp only [encO, List.getElem?_cons_zero, Nat.add_zero] at q1
    have hjl := (List.getElem?_eq_some_iff.1 ho).1
    generalize ad.ovs.length = n at *
    have hkz : (j : Int) < (n : Int) := by omega
    have hkz0 : (0 : Int) ≤ (j : Int) := by omega
    have hjn : ¬ (j : Int) < 0 := by omega
    obtain ⟨aid, adst, adata, ast⟩ := a
    dsimp only at q1 ⊢
    clear h hl hx0 hlen hrow hv hcap hR m0 hlow h0 h1 hfi hj ho q0
    go_enter Try.func28, Try.ntmps28
    go_wp2_with fail
    refine HIX.out.mono ?_
    rintro e w2 ⟨rfl, m2⟩
    have HM2 := Lib.hid (HM0.out.trans m2 (fun _ _ e => e))
    have c3' := (HM2.out.cell (p := ⟨sb, 3, none⟩) hsb (fun e => e)).trans c3
    have q1' := (HM2.out.cell (p := ⟨g, off + j * 5, none⟩) hg (fun e => e)).trans q1
    clear m2
    go_wp2_with fail
    go_ret
    exact ⟨rfl, HM2.out⟩
end
end Go.Proofs.Ytddnlbkocmpffaa
