/- mizzenref16.Senders.Submit. -/
import Derived.Test.YtddnlbkocmpffaaZRsnP
import Derived.Deep.RegionLaw
import Derived.BigQuiet
namespace Go.Proofs.Ytddnlbkocmpffaa
open Go.RowKit
set_option linter.unusedVariables false
set_option maxHeartbeats 4000000
set_option maxRecDepth 100000
theorem R4_info : (Try.prog.info? 60).map (fun i => (i.zero, i.size, i.bytes)) = some (some (.agg #[.int .u64 0, .int .i64 0, .slice none 0 0, .int .i64 0]), 4, 48) := by kernel_rfl
theorem one_R4 (o : OutV) : ∀ y ∈ encR4 o, y.oneCell' = true := fun y hy => by
  simp at hy
  rcases hy with rfl | rfl | rfl | rfl
  · rfl
  · rfl
  · exact o.one
  · rfl
theorem one_R4s (l : List OutV) : ∀ y ∈ l.flatMap encR4, y.oneCell' = true := fun y hy => by
  obtain ⟨c, _, hc⟩ := List.mem_flatMap.1 hy
  exact one_R4 c y hc
theorem readsR {α : Type} {enc : α → List Value} {sz : Nat} {w : World} {B : Nat} {A : Option Addr} {n cap : Nat} {xs : List α} (h : Has w B sz enc (.slice A n cap) xs) : Reads w B sz A n (xs.flatMap enc) := by
  obtain ⟨A', cap', e, h1, h2, h3, h4⟩ := h
  injection e with e1 e2 e3
  subst e1 e2 e3
  exact h3
theorem own_drewR {w : World} {base size n : Nat} {e : TypeId} {v : Value} {xs : List Value} (h : w.ownsRow base e size v n xs) : w.drew.ownsRow base e size v n xs := h
theorem litOwnR {w : World} {base n : Nat} (T : TypeId) (cs : Array Value) (k : Nat) (hn : w.heap.size = n) (hb : base ≤ n) (hk : k ≤ maxLen) (hs : cs.size = k * 4) :
    (w.alloc (.cells cs T)).ownsRow base T 4 (.slice (some ⟨n, 0, none⟩) k k) k cs.toList := by
  subst hn
  exact World.ownsRow_lit w cs k hb hk hs
section
variable {B rb : Nat} {lv : Value} {ovs : List OutV} {S : SndA} {w w' : World}
theorem rsubArg (p : Value) (dst : Int) (A : Option Addr) (n c : Nat) (w : World) (h : dst < 0 ∨ 8 ≤ dst) : Calls Try.prog 17 #[p, .int .i64 dst, .slice A n c] w fun e w' => e = .returned (.tuple #[.int .u64 0, .int .i64 1]) ∧ w = w' := by
  have hsp : dst < 0 ∨ (¬ dst < 0 ∧ 7 < dst) := by omega
  clear h
  rcases hsp with h | ⟨h, h'⟩
  all_goals
    go_enter Try.func17, Try.ntmps17
    go_wp2
    go_ret2
    exact ⟨rfl, rfl⟩
theorem rsubBig (h : RSnd B rb lv ovs S w) (dst : Int) (A : Option Addr) (n c : Nat) (hd : ¬ dst < 0 ∧ ¬ 8 ≤ dst) (hn : S.maxMsg < (n : Int)) : Calls Try.prog 17 #[.pointer (some ⟨rb, 0, none⟩), .int .i64 dst, .slice A n c] w fun e w' => e = .returned (.tuple #[.int .u64 0, .int .i64 3]) ∧ w = w' := by
  obtain ⟨h1, h2'⟩ := hd
  have h2 : ¬ 7 < dst := by omega
  have c1 : w.cell? ⟨rb, 1, none⟩ = some (.int .i64 S.maxMsg) := by rw [h.blk.cell]; rfl
  clear h h2'
  go_enter Try.func17, Try.ntmps17
  go_wp2
  go_ret2
  exact ⟨rfl, rfl⟩
theorem rsubFull (h : RSnd B rb lv ovs S w) (dst : Int) (A : Option Addr) (n c : Nat) (hd : ¬ dst < 0 ∧ ¬ 8 ≤ dst) (hn : ¬ S.maxMsg < (n : Int)) (hf : S.most ≤ (S.l.length : Int)) : Calls Try.prog 17 #[.pointer (some ⟨rb, 0, none⟩), .int .i64 dst, .slice A n c] w fun e w' => e = .returned (.tuple #[.int .u64 0, .int .i64 4]) ∧ Mod NoB w w' := by
  obtain ⟨h1, h2'⟩ := hd
  have h2 : ¬ 7 < dst := by omega
  have c0 : w.cell? ⟨rb, 0, none⟩ = some (.int .i64 S.most) := by rw [h.blk.cell]; rfl
  have c1 : w.cell? ⟨rb, 1, none⟩ = some (.int .i64 S.maxMsg) := by rw [h.blk.cell]; rfl
  obtain ⟨Al, cl, hv, -, -⟩ := h.row.form
  rw [h.len] at hv
  obtain ⟨nl, hnl⟩ : ∃ nl, S.l.length = nl := ⟨_, rfl⟩
  rw [hnl] at hv hf
  have c4 : w.cell? ⟨rb, 4, none⟩ = some (.slice Al nl cl) := by rw [h.blk.cell, ← hv]; rfl
  have hd' : decide (S.most ≤ (nl : Int)) = true := decide_eq_true hf
  clear h h2' hv hnl
  go_enter Try.func17, Try.ntmps17
  go_wp2_with fail
  go_quiet (fail)
  go_wp2_with fail
  go_ret2
  exact ⟨rfl, (Mod.refl _ _).drewN _⟩
theorem rsubSpent (h : RSnd B rb lv ovs S w) (dst : Int) (A : Option Addr) (n c : Nat) (hd : ¬ dst < 0 ∧ ¬ 8 ≤ dst) (hn : ¬ S.maxMsg < (n : Int)) (hf : ¬ S.most ≤ (S.l.length : Int)) (hg : S.gm ≤ S.gl) : Calls Try.prog 17 #[.pointer (some ⟨rb, 0, none⟩), .int .i64 dst, .slice A n c] w fun e w' => e = .returned (.tuple #[.int .u64 0, .int .i64 7]) ∧ Mod NoB w w' := by
  obtain ⟨h1, h2'⟩ := hd
  have h2 : ¬ 7 < dst := by omega
  have c0 : w.cell? ⟨rb, 0, none⟩ = some (.int .i64 S.most) := by rw [h.blk.cell]; rfl
  have c1 : w.cell? ⟨rb, 1, none⟩ = some (.int .i64 S.maxMsg) := by rw [h.blk.cell]; rfl
  have c2 : w.cell? ⟨rb, 2, none⟩ = some (.int .u64 S.gm) := by rw [h.blk.cell]; rfl
  have c3 : w.cell? ⟨rb, 3, none⟩ = some (.int .u64 S.gl) := by rw [h.blk.cell]; rfl
  obtain ⟨Al, cl, hv, -, -⟩ := h.row.form
  rw [h.len] at hv
  obtain ⟨nl, hnl⟩ : ∃ nl, S.l.length = nl := ⟨_, rfl⟩
  rw [hnl] at hv hf
  have c4 : w.cell? ⟨rb, 4, none⟩ = some (.slice Al nl cl) := by rw [h.blk.cell, ← hv]; rfl
  have hd' : decide (S.most ≤ (nl : Int)) = false := decide_eq_false hf
  have hd2 : decide (S.gm ≤ S.gl) = true := decide_eq_true hg
  clear h h2' hv hnl
  go_enter Try.func17, Try.ntmps17
  go_wp2_with fail
  go_quiet (fail)
  go_wp2_with fail
  go_quiet (fail)
  go_wp2_with fail
  go_ret2
  exact ⟨rfl, (((Mod.refl _ _).drewN _).drewN _)⟩
theorem rsubYes (h : RSnd B rb lv ovs S w) (dst : Int) (d : List Int) (dv : Value) (one : dv.oneCell' = true) (hdv : Has w B 1 encB dv d) (hd : ¬ dst < 0 ∧ ¬ 8 ≤ dst) (hn : ¬ S.maxMsg < (d.length : Int)) (hf : ¬ S.most ≤ (S.l.length : Int)) (hmo : S.most ≤ 10000) (hg : S.gl < S.gm) (hg0 : 0 ≤ S.gl) (hg1 : S.gm ≤ 1152921504606846976) :
    Calls Try.prog 17 #[.pointer (some ⟨rb, 0, none⟩), .int .i64 dst, dv] w fun e w' => e = .returned (.tuple #[.int .u64 (S.gl + 1), .int .i64 0]) ∧ (∃ lv', RSnd B rb lv' (ovs ++ [⟨S.gl + 1, dst, dv, 1, one⟩]) (S.submit dst d) w' ∧ ∀ k, lv'.ownBlock = some k → w.heap.size ≤ k) ∧ Mod (fun k => k = rb) w w' := by
  obtain ⟨h1, h2'⟩ := hd
  have h2 : ¬ 7 < dst := by omega
  have hsz := h.sz
  have c0 : w.cell? ⟨rb, 0, none⟩ = some (.int .i64 S.most) := by rw [h.blk.cell]; rfl
  have c1 : w.cell? ⟨rb, 1, none⟩ = some (.int .i64 S.maxMsg) := by rw [h.blk.cell]; rfl
  have c2 : w.cell? ⟨rb, 2, none⟩ = some (.int .u64 S.gm) := by rw [h.blk.cell]; rfl
  have c3 : w.cell? ⟨rb, 3, none⟩ = some (.int .u64 S.gl) := by rw [h.blk.cell]; rfl
  have f3 : w.frozen? ⟨rb, 3, none⟩ = false := h.blk.free 3
  obtain ⟨Al, cl, hv, -, -⟩ := h.row.form
  have hlen := h.len
  rw [h.len] at hv
  obtain ⟨nl, hnl⟩ : ∃ nl, S.l.length = nl := ⟨_, rfl⟩
  rw [hnl] at hv hf hlen
  have c4 : w.cell? ⟨rb, 4, none⟩ = some (.slice Al nl cl) := by rw [h.blk.cell, ← hv]; rfl
  have hd' : decide (S.most ≤ (nl : Int)) = false := decide_eq_false hf
  have hd2 : decide (S.gm ≤ S.gl) = false := decide_eq_false (by omega)
  have hwr : IntKind.u64.wrap (S.gl + 1) = S.gl + 1 := by rw [IntKind.wrap_u64]; omega
  have hrl := h.blk.lt
  have hnb : nl ≤ 10000 := by omega
  obtain ⟨Ad, cd, rfl, -⟩ := hdv.form
  obtain ⟨ld, hld⟩ : ∃ ld, d.length = ld := ⟨_, rfl⟩
  have HDV := Lib.hid hdv
  rw [hld] at hn HDV ⊢
  obtain ⟨gid, hgid⟩ : ∃ gid, S.gl + 1 = gid := ⟨_, rfl⟩
  rw [hgid] at hwr ⊢
  have HX := Lib.hid h
  have HG := Lib.hid hgid
  have HLE := Lib.hid hlen
  have HV := Lib.hid hv
  obtain ⟨iC, hiC, hzC0, hzC1, hzC2⟩ := info_parts R4_info
  have HONS := Lib.hid (one_R4s ovs)
  have HON1 := Lib.hid (one_R4 ⟨gid, dst, .slice Ad ld cd, 1, rfl⟩)
  clear h h2' hv hlen hnl hdv hld hf hg
  go_enter Try.func17, Try.ntmps17
  go_wp2_with fail
  go_quiet (fail)
  go_wp2_with fail
  go_quiet (fail)
  go_wp2_with fail
  rename_i n1 K1 a1
  obtain ⟨w2, hw2⟩ : ∃ w2, (w.drewN (n1 + nq)).setCell ⟨rb, 3, none⟩ (.int .u64 gid) = w2 := ⟨_, rfl⟩
  have m2 : Mod (fun k => k = rb) w w2 := by
    rw [← hw2]
    exact ((Mod.refl (fun k => k = rb) w).drewN _).setCell (p := ⟨rb, 3, none⟩) (fun _ => rfl) _
  have hb2 : Blk w2 rb 65 #[.int .i64 S.most, .int .i64 S.maxMsg, .int .u64 S.gm, .int .u64 gid, .slice Al nl cl] := by
    have := (HX.out.blk.drewN (n1 + nq)).set 3 (.int .u64 gid)
    rw [HV.out, hw2] at this
    exact this
  have ho2 : Own w2 B 60 4 encR4 (.slice Al nl cl) ovs := by
    have := HX.out.row.mod m2 (fun k hk e => HX.out.apart (by rw [hk, e]))
    rw [HV.out] at this
    exact this
  have hz2 : w2.heap.size = w.heap.size := by rw [← hw2]; simp [World.setCell, World.drewN]
  have HZ2 := Lib.hid hz2
  rw [hw2]
  have HB2 := Lib.hid hb2
  have HM2 := Lib.hid m2
  have hr2 : rb < w2.heap.size := hb2.lt
  have HRD : Hid (∀ w' : World, Mod NoB w2 w' → Reads w' w'.heap.size 4 Al nl (ovs.flatMap encR4)) := Lib.hid fun w' m' => readsR (ho2.later m').has
  have c3 : w2.cell? ⟨rb, 3, none⟩ = some (.int .u64 gid) := by rw [hb2.cell]; rfl
  have c4 : w2.cell? ⟨rb, 4, none⟩ = some (.slice Al nl cl) := by rw [hb2.cell]; rfl
  have f4 : w2.frozen? ⟨rb, 4, none⟩ = false := hb2.free 4
  obtain ⟨X1, hX1⟩ : ∃ X1, ovs.flatMap encR4 = X1 := ⟨_, rfl⟩
  rw [hX1] at HRD HONS
  have HXE := Lib.hid hX1
  have HON := HONS
  clear hw2 m2 hb2 ho2 hz2 hX1 HONS c0 c1 c2 f3 hd' hd2
  go_region_law (first
    | (refine step_append_any _ (by rfl) (.tmp 52) (.tmp 56) 63 (by rfl) w2.heap.size 60 iC _ 4 48 Try.underlying63 hiC hzC0 hzC1 hzC2 (by rfl) (by omega) (.slice (some ⟨w2.heap.size, 0, none⟩) 0 0) 0 [] (by rfl) (own_drewR (litOwnR (w := w2) (n := w2.heap.size) 60 #[] 0 (by simp) (by omega) (by decide) rfl)) _ Al nl cl X1 (by rfl) (HRD.out _ (by first | exact ((Mod.refl NoB w2).drew.alloc _) | exact (((Mod.refl NoB w2).drew.alloc _).alloc _))) HON.out (by simp only [maxLen]; omega) (by omega) (by simp <;> omega) ?_; intro v5 w5 hown5 hgr5 hat5; have hk5 : Mod NoB w2 w5 := (show Mod NoB w2 _ by first | exact ((Mod.refl NoB w2).drew.alloc _) | exact (((Mod.refl NoB w2).drew.alloc _).alloc _)).trans (Mod.ofGrown hgr5) (fun z hz e => by have h2 := Option.some.inj e; simp only at h2; omega); have q3 := (hk5.cell (p := ⟨rb, 3, none⟩) hr2 (fun e => e)).trans c3; have q4 := (hk5.cell (p := ⟨rb, 4, none⟩) hr2 (fun e => e)).trans c4; have p4 := (hk5.frozen (p := ⟨rb, 4, none⟩) hr2 (fun e => e)).trans f4; have hr5 := Nat.lt_of_lt_of_le hr2 hk5.size)
    | (refine step_append_any _ (by rfl) (.tmp 52) (.tmp 56) 63 (by rfl) w2.heap.size 60 iC _ 4 48 Try.underlying63 hiC hzC0 hzC1 hzC2 (by rfl) (by omega) (.slice (some ⟨w2.heap.size, 0, none⟩) 0 0) 0 [] (by rfl) (own_drewR (own_mod ((Mod.refl (fun _ => False) (w2.alloc (.cells #[] 60))).alloc _) (litOwnR (w := w2) (n := w2.heap.size) 60 #[] 0 (by simp) (by omega) (by decide) rfl) (fun _ _ e => e))) _ Al nl cl X1 (by rfl) (HRD.out _ (by first | exact ((Mod.refl NoB w2).drew.alloc _) | exact (((Mod.refl NoB w2).drew.alloc _).alloc _))) HON.out (by simp only [maxLen]; omega) (by omega) (by simp <;> omega) ?_; intro v5 w5 hown5 hgr5 hat5; have hk5 : Mod NoB w2 w5 := (show Mod NoB w2 _ by first | exact ((Mod.refl NoB w2).drew.alloc _) | exact (((Mod.refl NoB w2).drew.alloc _).alloc _)).trans (Mod.ofGrown hgr5) (fun z hz e => by have h2 := Option.some.inj e; simp only at h2; omega); have q3 := (hk5.cell (p := ⟨rb, 3, none⟩) hr2 (fun e => e)).trans c3; have q4 := (hk5.cell (p := ⟨rb, 4, none⟩) hr2 (fun e => e)).trans c4; have p4 := (hk5.frozen (p := ⟨rb, 4, none⟩) hr2 (fun e => e)).trans f4; have hr5 := Nat.lt_of_lt_of_le hr2 hk5.size; have hl1 := Reads.of_own (own_mod (Mod.ofGrown hgr5) (own_drewR (litOwnR (w := (w2.alloc (.cells #[] 60))) (n := w2.heap.size + 1) 60 #[.int .u64 gid, .int .i64 dst, .slice Ad ld cd, .int .i64 1] 1 (by simp) (Nat.zero_le _) (by decide) rfl)) (fun k e1 e2 => by have h1 := Option.some.inj e1; have h2 := Option.some.inj e2; simp only at h1 h2; omega)))
    | (refine step_append_any _ (by rfl) (.tmp 52) (.tmp 56) 63 (by rfl) w2.heap.size 60 iC _ 4 48 Try.underlying63 hiC hzC0 hzC1 hzC2 (by rfl) (by omega) (.slice (some ⟨w2.heap.size + 1, 0, none⟩) 0 0) 0 [] (by rfl) (own_drewR (litOwnR (w := (w2.alloc (.cells #[.int .u64 gid, .int .i64 dst, .slice Ad ld cd, .int .i64 1] 60))) (n := w2.heap.size + 1) 60 #[] 0 (by simp) (by omega) (by decide) rfl)) _ Al nl cl X1 (by rfl) (HRD.out _ (by first | exact ((Mod.refl NoB w2).drew.alloc _) | exact (((Mod.refl NoB w2).drew.alloc _).alloc _))) HON.out (by simp only [maxLen]; omega) (by omega) (by simp <;> omega) ?_; intro v5 w5 hown5 hgr5 hat5; have hk5 : Mod NoB w2 w5 := (show Mod NoB w2 _ by first | exact ((Mod.refl NoB w2).drew.alloc _) | exact (((Mod.refl NoB w2).drew.alloc _).alloc _)).trans (Mod.ofGrown hgr5) (fun z hz e => by have h2 := Option.some.inj e; simp only at h2; omega); have q3 := (hk5.cell (p := ⟨rb, 3, none⟩) hr2 (fun e => e)).trans c3; have q4 := (hk5.cell (p := ⟨rb, 4, none⟩) hr2 (fun e => e)).trans c4; have p4 := (hk5.frozen (p := ⟨rb, 4, none⟩) hr2 (fun e => e)).trans f4; have hr5 := Nat.lt_of_lt_of_le hr2 hk5.size; have hl1 := Reads.of_own (own_mod (Mod.ofGrown hgr5) (own_drewR (own_mod ((Mod.refl (fun _ => False) (w2.alloc (.cells #[.int .u64 gid, .int .i64 dst, .slice Ad ld cd, .int .i64 1] 60))).alloc _) (litOwnR (w := w2) (n := w2.heap.size) 60 #[.int .u64 gid, .int .i64 dst, .slice Ad ld cd, .int .i64 1] 1 (by simp) (Nat.zero_le _) (by decide) rfl) (fun _ _ e => e))) (fun k e1 e2 => by have h1 := Option.some.inj e1; have h2 := Option.some.inj e2; simp only at h1 h2; omega)))
    | (refine step_append_any _ (by rfl) (.tmp 57) (.tmp 65) 63 (by rfl) w2.heap.size 60 iC _ 4 48 Try.underlying63 hiC hzC0 hzC1 hzC2 (by rfl) (by omega) v5 _ _ (by rfl) (own_mod ((Mod.refl (fun _ => False) _).alloc _) hown5 (fun _ _ e => e)) _ (some ⟨w5.heap.size, 0, none⟩) 1 1 [.int .u64 gid, .int .i64 dst, .slice Ad ld cd, .int .i64 1] (by rfl) (Reads.of_own (litOwnR 60 #[.int .u64 gid, .int .i64 dst, .slice Ad ld cd, .int .i64 1] 1 (by simp) (Nat.zero_le _) (by decide) rfl)) HON1.out (by simp only [maxLen]; omega) (by omega) (by have := hk5.size; first | exact this | (simp; omega)) ?_; intro v6 w6 hown6 hgr6 hat6; obtain ⟨A6, c6, rfl⟩ := ownsSlice hown6; have hk6 : Mod NoB w2 w6 := (show Mod NoB w2 _ by first | exact hk5 | exact hk5.alloc _).trans (Mod.ofGrown hgr6) (fun z hz e => by have := (hown5.lt z e).1; omega); have q3' := (hk6.cell (p := ⟨rb, 3, none⟩) hr2 (fun e => e)).trans c3; have q4' := (hk6.cell (p := ⟨rb, 4, none⟩) hr2 (fun e => e)).trans c4; have p4' := (hk6.frozen (p := ⟨rb, 4, none⟩) hr2 (fun e => e)).trans f4; have hr6 := Nat.lt_of_lt_of_le hr2 hk6.size)
    | (refine step_append_any _ (by rfl) (.tmp 57) (.tmp 65) 63 (by rfl) w2.heap.size 60 iC _ 4 48 Try.underlying63 hiC hzC0 hzC1 hzC2 (by rfl) (by omega) v5 _ _ (by rfl) hown5 _ (some ⟨w2.heap.size + 1, 0, none⟩) 1 1 [.int .u64 gid, .int .i64 dst, .slice Ad ld cd, .int .i64 1] (by rfl) hl1 HON1.out (by simp only [maxLen]; omega) (by omega) (by have := hk5.size; first | exact this | (simp; omega)) ?_; intro v6 w6 hown6 hgr6 hat6; obtain ⟨A6, c6, rfl⟩ := ownsSlice hown6; have hk6 : Mod NoB w2 w6 := (show Mod NoB w2 _ by first | exact hk5 | exact hk5.alloc _).trans (Mod.ofGrown hgr6) (fun z hz e => by have := (hown5.lt z e).1; omega); have q3' := (hk6.cell (p := ⟨rb, 3, none⟩) hr2 (fun e => e)).trans c3; have q4' := (hk6.cell (p := ⟨rb, 4, none⟩) hr2 (fun e => e)).trans c4; have p4' := (hk6.frozen (p := ⟨rb, 4, none⟩) hr2 (fun e => e)).trans f4; have hr6 := Nat.lt_of_lt_of_le hr2 hk6.size)
    | (refine step_append_any _ (by rfl) (.tmp 57) (.tmp 65) 63 (by rfl) w2.heap.size 60 iC _ 4 48 Try.underlying63 hiC hzC0 hzC1 hzC2 (by rfl) (by omega) v5 _ _ (by rfl) hown5 _ (some ⟨w2.heap.size, 0, none⟩) 1 1 [.int .u64 gid, .int .i64 dst, .slice Ad ld cd, .int .i64 1] (by rfl) hl1 HON1.out (by simp only [maxLen]; omega) (by omega) (by have := hk5.size; first | exact this | (simp; omega)) ?_; intro v6 w6 hown6 hgr6 hat6; obtain ⟨A6, c6, rfl⟩ := ownsSlice hown6; have hk6 : Mod NoB w2 w6 := (show Mod NoB w2 _ by first | exact hk5 | exact hk5.alloc _).trans (Mod.ofGrown hgr6) (fun z hz e => by have := (hown5.lt z e).1; omega); have q3' := (hk6.cell (p := ⟨rb, 3, none⟩) hr2 (fun e => e)).trans c3; have q4' := (hk6.cell (p := ⟨rb, 4, none⟩) hr2 (fun e => e)).trans c4; have p4' := (hk6.frozen (p := ⟨rb, 4, none⟩) hr2 (fun e => e)).trans f4; have hr6 := Nat.lt_of_lt_of_le hr2 hk6.size))
  all_goals
    have hrow6 : Own w6 w2.heap.size 60 4 encR4 (.slice A6 (nl + 1) c6) (ovs ++ [⟨gid, dst, .slice Ad ld cd, 1, one⟩]) := by
      unfold Own
      rw [Nat.zero_add] at hown6
      rw [List.length_append, HLE.out, List.length_singleton, flat_snoc, HXE.out]
      exact hown6
    have HR6 := Lib.hid hrow6
    have HB6 := Lib.hid (HB2.out.mod hk6 (fun e => e))
    have HM6 := Lib.hid (HM2.out.trans hk6 (fun _ _ e => e.elim))
    clear hown5 hgr5 hat5 hk5 hown6 hgr6 hat6 hk6 hrow6
    go_wp2_with fail
    go_ret2
    have hmod : Mod (fun k => k = rb) w (w6.setCell ⟨rb, 4, none⟩ (.slice A6 (nl + 1) c6)) := HM6.out.setCell (p := ⟨rb, 4, none⟩) (fun _ => rfl) _
    refine ⟨rfl, ⟨.slice A6 (nl + 1) c6, ⟨?_, ?_, ?_, ?_, HX.out.hB, fun e => ?_⟩, fun k hk => ?_⟩, hmod⟩
    · show Blk _ rb _ #[.int .i64 S.most, .int .i64 S.maxMsg, .int .u64 S.gm, .int .u64 (S.gl + 1), _]
      rw [HG.out]
      exact HB6.out.set 4 _
    · refine (Own.le (B' := B) (HR6.out.mod ((Mod.refl (fun k => k = rb) w6).setCell (p := ⟨rb, 4, none⟩) (fun _ => rfl) _) (fun k hk e => ?_)) (by rw [HZ2.out]; exact hsz))
      have := HR6.out.base hk
      omega
    · show (ovs ++ [_]).length = (S.l ++ [_]).length
      rw [List.length_append, List.length_append, HX.out.len]; rfl
    · intro p hp
      change p ∈ (ovs ++ [_]).zip (S.l ++ [_]) at hp
      rw [List.zip_append HX.out.len, List.mem_append] at hp
      rcases hp with hp | hp
      · exact (HX.out.dat p hp).keep hmod hsz (fun k (e : k = rb) => by rw [e]; exact HX.out.hB)
      · simp only [List.zip_cons_cons, List.zip_nil_right, List.mem_singleton] at hp
        subst hp
        exact DatR.keep (o := ⟨gid, dst, .slice Ad ld cd, 1, one⟩) (a := ⟨S.gl + 1, dst, d, 1⟩) ⟨HG.out.symm, rfl, rfl, HDV.out⟩ hmod hsz (fun k (e : k = rb) => by rw [e]; exact HX.out.hB)
    · have := HR6.out.base e
      omega
    · have := HR6.out.base hk
      have := HZ2.out
      omega
end
end Go.Proofs.Ytddnlbkocmpffaa
