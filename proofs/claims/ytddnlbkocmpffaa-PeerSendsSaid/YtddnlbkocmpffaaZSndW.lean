/- peer.Senders.Submit; ids.Giver. -/
import Derived.Test.YtddnlbkocmpffaaZSndP
import Derived.Deep.RegionLaw
namespace Go.Proofs.Ytddnlbkocmpffaa
open Go.RowKit
set_option linter.unusedVariables false
set_option maxHeartbeats 4000000
set_option maxRecDepth 100000
theorem nextNo (gb : Nat) (gm gl : Int) (w : World) (hb : Blk w gb 138 #[.int .u64 gm, .int .u64 gl]) (h : gm ≤ gl) : Calls Try.prog 44 #[.pointer (some ⟨gb, 0, none⟩)] w fun e w' => e = .returned (.tuple #[.int .u64 0, .int .i64 7]) ∧ Mod NoB w w' := by
  have c0 : w.cell? ⟨gb, 0, none⟩ = some (.int .u64 gm) := hb.cell 0
  have c1 : w.cell? ⟨gb, 1, none⟩ = some (.int .u64 gl) := hb.cell 1
  have hd : decide (gm ≤ gl) = true := decide_eq_true h
  clear hb
  go_enter Try.func44, Try.ntmps44
  go_wp2_with fail
  go_quiet (fail)
  go_wp2_with fail
  go_ret2
  exact ⟨rfl, (Mod.refl _ _).drewN _⟩
theorem nextW (gb : Nat) (gm gl : Int) (w : World) (hb : Blk w gb 138 #[.int .u64 gm, .int .u64 gl]) (h : gl < gm) (h0 : 0 ≤ gl) (h1 : gm ≤ 1152921504606846976) : Calls Try.prog 44 #[.pointer (some ⟨gb, 0, none⟩)] w fun e w' => e = .returned (.tuple #[.int .u64 (gl + 1), .int .i64 0]) ∧ ∃ n, w' = (w.drewN n).setCell ⟨gb, 1, none⟩ (.int .u64 (gl + 1)) := by
  have c0 : w.cell? ⟨gb, 0, none⟩ = some (.int .u64 gm) := hb.cell 0
  have c1 : w.cell? ⟨gb, 1, none⟩ = some (.int .u64 gl) := hb.cell 1
  have f1 : w.frozen? ⟨gb, 1, none⟩ = false := hb.free 1
  have hn : ¬ gm ≤ gl := by omega
  have hd : decide (gm ≤ gl) = false := decide_eq_false hn
  have hw : IntKind.u64.wrap (gl + 1) = gl + 1 := by rw [IntKind.wrap_u64]; omega
  have hlt := hb.lt
  clear hb
  go_enter Try.func44, Try.ntmps44
  go_wp2_with fail
  go_quiet (fail)
  go_wp2_with fail
  go_ret2
  exact ⟨rfl, nq, rfl⟩
/-- .. behind a message that is submitted. -/
def SndA.submit (S : SndA) (dst : Int) (d : List Int) : SndA := { S with gl := S.gl + 1, l := S.l ++ [⟨S.gl + 1, dst, d, 1⟩] }
theorem submitArg (p : Value) (dst : Int) (A : Option Addr) (n c : Nat) (w : World) (h : dst < 0 ∨ 8 ≤ dst) : Calls Try.prog 16 #[p, .int .i64 dst, .slice A n c] w fun e w' => e = .returned (.tuple #[.int .u64 0, .int .i64 1]) ∧ w = w' := by
  have hsp : dst < 0 ∨ (¬ dst < 0 ∧ 8 ≤ dst) := by omega
  clear h
  rcases hsp with h | ⟨h, h'⟩
  all_goals
    go_enter Try.func16, Try.ntmps16
    go_wp2
    go_ret2
    exact ⟨rfl, rfl⟩
theorem submitNil (dst : Int) (A : Option Addr) (n c : Nat) (w : World) (h : ¬ dst < 0 ∧ ¬ 8 ≤ dst) : Calls Try.prog 16 #[.pointer none, .int .i64 dst, .slice A n c] w fun e w' => e = .returned (.tuple #[.int .u64 0, .int .i64 4]) ∧ w = w' := by
  obtain ⟨h1, h2⟩ := h
  go_enter Try.func16, Try.ntmps16
  go_wp2
  go_ret2
  exact ⟨rfl, rfl⟩
section
variable {sb : Nat} {ad : SAd} {S : SndA} {w : World} {s : Nat → Prop}
theorem submitBig (h : SndX sb ad S w s) (dst : Int) (A : Option Addr) (n c : Nat) (hd : ¬ dst < 0 ∧ ¬ 8 ≤ dst) (hn : S.maxMsg < (n : Int)) : Calls Try.prog 16 #[.pointer (some ⟨sb, 0, none⟩), .int .i64 dst, .slice A n c] w fun e w' => e = .returned (.tuple #[.int .u64 0, .int .i64 3]) ∧ w = w' := by
  obtain ⟨h1, h2⟩ := hd
  have c1 : w.cell? ⟨sb, 1, none⟩ = some (.int .i64 S.maxMsg) := h.top.2.cell 1
  clear h
  go_enter Try.func16, Try.ntmps16
  go_wp2
  go_ret2
  exact ⟨rfl, rfl⟩
theorem submitFull (h : SndX sb ad S w s) (hl : SLink ad) (dst : Int) (A : Option Addr) (n c : Nat) (hd : ¬ dst < 0 ∧ ¬ 8 ≤ dst) (hn : ¬ S.maxMsg < (n : Int)) (hf : S.most ≤ (S.l.length : Int)) : Calls Try.prog 16 #[.pointer (some ⟨sb, 0, none⟩), .int .i64 dst, .slice A n c] w fun e w' => e = .returned (.tuple #[.int .u64 0, .int .i64 4]) ∧ Mod NoB w w' := by
  obtain ⟨h1, h2⟩ := hd
  have c0 : w.cell? ⟨sb, 0, none⟩ = some (.int .i64 S.most) := h.top.2.cell 0
  have c1 : w.cell? ⟨sb, 1, none⟩ = some (.int .i64 S.maxMsg) := h.top.2.cell 1
  have c3 : w.cell? ⟨sb, 3, none⟩ = some ad.lc := h.top.2.cell 3
  obtain ⟨Al, cl, he, -, -⟩ := (h.row hl).form
  rw [he, h.lens] at c3
  obtain ⟨nl, hnl⟩ : ∃ nl, S.l.length = nl := ⟨_, rfl⟩
  rw [hnl] at c3 hf
  have hd' : decide (S.most ≤ (nl : Int)) = true := decide_eq_true hf
  clear h hl he hnl
  go_enter Try.func16, Try.ntmps16
  go_wp2_with fail
  go_quiet (fail)
  go_wp2_with fail
  go_ret2
  exact ⟨rfl, (Mod.refl _ _).drewN _⟩
theorem submitSpent (h : SndX sb ad S w s) (hl : SLink ad) (dst : Int) (A : Option Addr) (n c : Nat) (hd : ¬ dst < 0 ∧ ¬ 8 ≤ dst) (hn : ¬ S.maxMsg < (n : Int)) (hf : ¬ S.most ≤ (S.l.length : Int)) (hg : S.gm ≤ S.gl) : Calls Try.prog 16 #[.pointer (some ⟨sb, 0, none⟩), .int .i64 dst, .slice A n c] w fun e w' => e = .returned (.tuple #[.int .u64 0, .int .i64 7]) ∧ Mod NoB w w' := by
  obtain ⟨h1, h2⟩ := hd
  have c0 : w.cell? ⟨sb, 0, none⟩ = some (.int .i64 S.most) := h.top.2.cell 0
  have c1 : w.cell? ⟨sb, 1, none⟩ = some (.int .i64 S.maxMsg) := h.top.2.cell 1
  have c2 : w.cell? ⟨sb, 2, none⟩ = some (.pointer (some ⟨ad.gb, 0, none⟩)) := h.top.2.cell 2
  have c3 : w.cell? ⟨sb, 3, none⟩ = some ad.lc := h.top.2.cell 3
  obtain ⟨Al, cl, he, -, -⟩ := (h.row hl).form
  rw [he, h.lens] at c3
  obtain ⟨nl, hnl⟩ : ∃ nl, S.l.length = nl := ⟨_, rfl⟩
  rw [hnl] at c3 hf
  have hd' : decide (S.most ≤ (nl : Int)) = false := decide_eq_false hf
  have HN := Lib.hid (fun N => nextNo ad.gb S.gm S.gl (w.drewN N) (h.giv.2.drewN N) hg)
  clear h hl he hnl
  go_enter Try.func16, Try.ntmps16
  go_wp2_with fail
  go_quiet (fail)
  go_wp2_with fail
  refine (HN.out nq).mono ?_
  rintro e w2 ⟨rfl, m2⟩
  have HM := Lib.hid m2
  clear m2
  go_wp2_with fail
  go_ret2
  exact ⟨rfl, ((Mod.refl _ _).drewN _).trans HM.out (fun _ _ e => e)⟩
theorem rowAppend {α : Type} {enc : α → List Value} {sz : Nat} {T : TypeId} {w8 w9 : World} {t8 : Nat → Prop} {outv u v9 : Value} {xs : List α} {x : α} {n : Nat} (hn : xs.length = n) (ho : w9.ownsRow 0 T sz v9 (n + 1) (xs.flatMap enc ++ enc x)) (hg : w8.grownBy w9 u.ownBlock)
    (hor : v9.ownBlock = u.ownBlock ∨ v9.ownBlock = some w8.heap.size) (hob : outv.ownBlock = u.ownBlock) (hf : FootV t8 outv) : Mod t8 w8 w9 ∧ FootV (Ext t8 w8 w9) v9 ∧ Own w9 0 T sz enc v9 (xs ++ [x]) := by
  refine ⟨(Mod.ofGrown hg).mono (fun k _ e => hf k (by rw [hob]; exact e)), fun k hk => ?_, ?_⟩
  · have hlt := (ho.lt k hk).2
    rcases hor with e | e
    · exact .inl (hf k (by rw [hob, ← e]; exact hk))
    · rw [e] at hk
      have := Option.some.inj hk
      exact .inr ⟨by omega, hlt⟩
  · unfold Own
    rw [List.length_append, hn, flat_snoc]
    exact ho
theorem submitW0 (h : SndX sb ad S w s) (hl : SLink ad) (dst : Int) (d : List Int) (dv : Value) (hdv : Has w w.heap.size 1 encB dv d) (hap : 0 < d.length → ∀ k, dv.ownBlock = some k → ¬ s k) (hd : ¬ dst < 0 ∧ ¬ 8 ≤ dst) (hn : ¬ S.maxMsg < (d.length : Int)) (hx : S.maxMsg ≤ 20000) (hf : ¬ S.most ≤ (S.l.length : Int)) (hmo : S.most ≤ 10000) (hg : S.gl < S.gm) (hg0 : 0 ≤ S.gl) (hg1 : S.gm ≤ 1152921504606846976) :
    Calls Try.prog 16 #[.pointer (some ⟨sb, 0, none⟩), .int .i64 dst, dv] w fun e w' => e = .returned (.tuple #[.int .u64 (S.gl + 1), .int .i64 0]) ∧ SndO sb (S.submit dst d) w' (Ext s w w') ∧ Mod s w w' := by
  obtain ⟨h1, h2⟩ := hd
  obtain ⟨A, cap, rfl, hdc⟩ := hdv.form
  obtain ⟨n, hnn⟩ : ∃ n, d.length = n := ⟨_, rfl⟩
  have HD := Lib.hid hdv
  rw [hnn] at hn hdc ⊢
  have HNN := Lib.hid hnn
  have c0 : w.cell? ⟨sb, 0, none⟩ = some (.int .i64 S.most) := h.top.2.cell 0
  have c1 : w.cell? ⟨sb, 1, none⟩ = some (.int .i64 S.maxMsg) := h.top.2.cell 1
  have c2 : w.cell? ⟨sb, 2, none⟩ = some (.pointer (some ⟨ad.gb, 0, none⟩)) := h.top.2.cell 2
  have c3 : w.cell? ⟨sb, 3, none⟩ = some ad.lc := h.top.2.cell 3
  obtain ⟨Al, cl, he, -, -⟩ := (h.row hl).form
  have hlen := h.lens
  rw [he, hlen] at c3
  obtain ⟨nl, hnl⟩ : ∃ nl, S.l.length = nl := ⟨_, rfl⟩
  rw [hnl] at c3 hf hlen
  rw [hlen] at he
  have hd' : decide (S.most ≤ (nl : Int)) = false := decide_eq_false hf
  have HN := Lib.hid (fun N => nextW ad.gb S.gm S.gl (w.drewN N) (h.giv.2.drewN N) hg hg0 hg1)
  have HX := Lib.hid h
  have HL := Lib.hid hl
  have HE := Lib.hid he
  have HLE := Lib.hid hlen
  have HAP := Lib.hid hap
  have hnb : n ≤ 20000 := by omega
  have hnlb : nl ≤ 10000 := by omega
  obtain ⟨gid, hgid⟩ : ∃ gid, S.gl + 1 = gid := ⟨_, rfl⟩
  rw [hgid] at HN ⊢
  have HG := Lib.hid hgid
  clear h hl he hlen hnl hnn hdv hap hgid hx hf hmo
  go_enter Try.func16, Try.ntmps16
  go_wp2_with fail
  go_quiet (fail)
  go_wp2_with fail
  refine (HN.out nq).mono ?_
  rintro e w2 ⟨rfl, n2, hw2⟩
  have hx1 : SndX sb ad S ((w.drewN nq).drewN n2) s := HX.out.later (((Mod.refl NoB w).drewN nq).drewN n2)
  have hx2 := hx1.giveP gid
  rw [← hw2] at hx2
  have hm2 : Mod s w w2 := by
    rw [hw2]
    exact (((Mod.refl s w).drewN nq).drewN n2).setCell (p := ⟨ad.gb, 1, none⟩) (fun _ => HX.out.giv.1.1) _
  have hz2 : w2.heap.size = w.heap.size := by rw [hw2]; simp [World.setCell, World.drewN]
  have hx2 := hx2.up (t := Ext s w w2) (fun k hk => hk.elim .inl (fun e => .inr e))
  have HX2 := Lib.hid hx2
  have HM2 := Lib.hid hm2
  have HZ2 := Lib.hid hz2
  clear hx1 hx2 hm2 hz2 hw2 c0 c1 c2 c3
  go_wp2_with fail
  have c3 : w2.cell? ⟨sb, 3, none⟩ = some (.slice Al nl cl) := by
    have := HX2.out.top.2.cell 3
    rw [this]
    show some ad.lc = _
    rw [HE.out]
  have f3 : w2.frozen? ⟨sb, 3, none⟩ = false := HX2.out.top.2.free 3
  have hsl := HX2.out.top.1.2
  have HCL := Lib.hid (show Calls Try.prog 45 #[.slice A n cap] w2.drew fun e w' => ∃ A3 c3, e = .returned (.slice A3 n c3) ∧ Own w' w2.heap.size 5 1 encB (.slice A3 n c3) d ∧ Mod NoB w2 w' from by
    have hd2 := (HD.out.mod0 HM2.out (Nat.le_refl _) HAP.out).more (B' := w2.heap.size) HM2.out.size
    rw [HNN.out] at hd2
    refine (SlB.cloneW (.slice A n cap) d w2.drew hd2 (by rw [HNN.out]; omega)).mono ?_
    rintro e w3 ⟨v3, rfl, ho3, m3⟩
    obtain ⟨A3, c3, rfl, -, -⟩ := ho3.form
    rw [HNN.out] at ho3 ⊢
    exact ⟨A3, c3, rfl, ho3, (Mod.refl NoB w2).drew.trans m3 (fun _ _ e => e)⟩)
  obtain ⟨i0, hi0, hz0, hz1, hz2⟩ := info_parts (show (Try.prog.info? 56).map (fun i => (i.zero, i.size, i.bytes)) = some (some (.agg #[.int .u64 0, .int .i64 0, .slice none 0 0, .int .i64 0, .bool false]), 5, 56) by kernel_rfl)
  have HOW := Lib.hid (fun (W : World) (hm : Mod NoB w2 W) => (show W.ownsRow 0 56 5 (.slice Al nl cl) nl (ad.ovs.flatMap encO) from by
    have h1 := (HX2.out.later hm).row HL.out
    rw [HE.out] at h1
    unfold Own at h1
    rw [HLE.out] at h1
    exact h1))
  have HLI := Lib.hid (fun (W : World) (A3 : Option Addr) (c3 : Nat) => Reads.of_own (World.ownsRow_lit (base := 0) (size := 5) (e := 56) W #[.int .u64 gid, .int .i64 dst, .slice A3 n c3, .int .i64 1, .bool false] 1 (Nat.zero_le _) (by decide) rfl))
  have HOV := Lib.hid (show ad.lv.ownBlock = (Value.slice Al nl cl).ownBlock by rw [← HL.out.lc, HE.out])
  have HON := Lib.hid (fun (A3 : Option Addr) (c3 : Nat) => SlO.one_at ⟨gid, dst, .slice A3 n c3, 1, rfl⟩)
  go_region_law (first
    | (go_simp; go_at_call 45; refine HCL.out.mono ?_; rintro e w3 ⟨A3, k3, rfl, ho3, m3⟩; have c3' : w3.cell? ⟨sb, 3, none⟩ = some (.slice Al nl cl) := (m3.cell (p := ⟨sb, 3, none⟩) hsl (fun e => e)).trans c3; have f3' : w3.frozen? ⟨sb, 3, none⟩ = false := (m3.frozen (p := ⟨sb, 3, none⟩) hsl (fun e => e)).trans f3; have hsl3 : sb < w3.heap.size := Nat.lt_of_lt_of_le hsl m3.size; have HX4 := Lib.hid (HX2.out.datAdd m3 ho3 rfl gid dst 1); have HM3 := Lib.hid m3; clear ho3 m3)
    | (refine step_append_any _ (by rfl) (.tmp 54) (.tmp 60) 101 (by rfl) 0 56 i0 _ 5 56 Try.underlying101 hi0 hz0 hz1 hz2 (by rfl) (by omega) (.slice Al nl cl) nl (ad.ovs.flatMap encO) (by rfl) (HOW.out _ (HM3.out.alloc _)) _ (some ⟨w3.heap.size, 0, none⟩) 1 1 [.int .u64 gid, .int .i64 dst, .slice A3 n k3, .int .i64 1, .bool false] (by rfl) (HLI.out w3 A3 k3) (HON.out A3 k3) (by simp only [maxLen]; omega) (by omega) (Nat.zero_le _) ?_; intro v9 w9 hown9 hgr9 hor9; obtain ⟨A9, c9, rfl⟩ := ownsSlice hown9; obtain ⟨t8, k8f, k8o, k8t, k8p⟩ := (HX4.out.later ((Mod.refl NoB w3).alloc (.cells #[.int .u64 gid, .int .i64 dst, .slice A3 n k3, .int .i64 1, .bool false] 56))).rowP; have hap9 := rowAppend (enc := encO) (xs := ad.ovs) (x := ⟨gid, dst, .slice A3 n k3, 1, rfl⟩) HLE.out hown9 hgr9 hor9 HOV.out k8f; have hx9 := k8p _ _ w9 hap9.1 hap9.2.1 hap9.2.2; have f9 := hx9.top.2.free 3; have c9' : w9.cell? ⟨sb, 3, none⟩ = some ad.lc := hx9.top.2.cell 3; have HAP9 := Lib.hid hap9; have HT8 := Lib.hid k8t; have HX10 := Lib.hid (hx9.lcP (.slice A9 (nl + 1) c9)); clear hown9 hgr9 hor9 hap9 hx9 k8f k8o k8t k8p))
  all_goals
    go_wp2_with fail
    go_ret2
    have z2 := HM2.out.size
    have z3 := HM3.out.size
    have z4 : (w3.alloc (.cells #[.int .u64 gid, .int .i64 dst, .slice A3 n k3, .int .i64 1, .bool false] 56)).heap.size = w3.heap.size + 1 := by simp
    have z5 := HAP9.out.1.size
    have z6 : (w9.setCell ⟨sb, 3, none⟩ (.slice A9 (nl + 1) c9)).heap.size = w9.heap.size := by simp [World.setCell]
    have hx := HX10.out.up (t := Ext s w (w9.setCell ⟨sb, 3, none⟩ (.slice A9 (nl + 1) c9))) (fun k hk => by
      unfold Ext at hk ⊢
      rw [z6]
      rw [z6] at hk
      rcases hk with (((hk | ⟨a, b⟩) | ⟨a, b⟩) | ⟨a, b⟩) | ⟨a, b⟩
      · exact .inl hk
      · exact .inr ⟨a, by omega⟩
      · exact .inr ⟨by omega, by omega⟩
      · exact .inr ⟨by omega, by omega⟩
      · exact .inr ⟨by omega, by omega⟩)
    refine ⟨rfl, ⟨_, (by unfold SndA.submit; rw [HG.out]; exact hx), ⟨rfl, rfl⟩⟩, ?_⟩
    have hm4 := (HM2.out.trans HM3.out (fun _ _ e => e.elim)).alloc (.cells #[.int .u64 gid, .int .i64 dst, .slice A3 n k3, .int .i64 1, .bool false] 56)
    have hm9 := hm4.trans HAP9.out.1 (fun k hk e => by
      rcases (HT8.out k e).1 with (h1 | ⟨h1, -⟩) | ⟨h1, -⟩
      · exact h1
      · omega
      · omega)
    exact hm9.setCell (p := ⟨sb, 3, none⟩) (fun _ => HX.out.top.1.1) _
end
end Go.Proofs.Ytddnlbkocmpffaa
