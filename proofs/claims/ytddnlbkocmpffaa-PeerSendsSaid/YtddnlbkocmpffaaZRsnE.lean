/- mizzenref16.Senders: End, Forget. -/
import Derived.Test.YtddnlbkocmpffaaZRsnS
namespace Go.Proofs.Ytddnlbkocmpffaa
open Go.RowKit
set_option linter.unusedVariables false
set_option maxHeartbeats 4000000
set_option maxRecDepth 100000
theorem zip_set {α β : Type} {xs : List α} {ys : List β} {k : Nat} {x : α} {y : β} (hl : xs.length = ys.length) : ∀ p ∈ (xs.set k x).zip (ys.set k y), p = (x, y) ∨ p ∈ xs.zip ys := by
  intro p hp
  obtain ⟨j, hj⟩ := List.mem_iff_getElem?.1 hp
  rw [List.getElem?_zip_eq_some] at hj
  obtain ⟨h1, h2⟩ := hj
  by_cases e : k = j
  · subst e
    have hk1 := (List.getElem?_eq_some_iff.1 h1).1
    have hk2 := (List.getElem?_eq_some_iff.1 h2).1
    rw [List.length_set] at hk1 hk2
    rw [List.getElem?_set_self hk1] at h1
    rw [List.getElem?_set_self hk2] at h2
    left
    rw [Option.some.inj h1, Option.some.inj h2]
  · rw [List.getElem?_set_ne e] at h1 h2
    exact .inr (List.mem_iff_getElem?.2 ⟨j, List.getElem?_zip_eq_some.2 ⟨h1, h2⟩⟩)
theorem zip_cut {α β : Type} {xs : List α} {ys : List β} (k : Nat) (hl : xs.length = ys.length) : ∀ p ∈ (xs.take k ++ xs.drop (k + 1)).zip (ys.take k ++ ys.drop (k + 1)), p ∈ xs.zip ys := by
  intro p hp
  rw [List.zip_append (by rw [List.length_take, List.length_take, hl]), List.mem_append] at hp
  rcases hp with hp | hp
  all_goals
    obtain ⟨j, hj⟩ := List.mem_iff_getElem?.1 hp
    rw [List.getElem?_zip_eq_some] at hj
    obtain ⟨h1, h2⟩ := hj
  · rw [List.getElem?_take] at h1 h2
    split at h1
    · rename_i hj
      rw [if_pos hj] at h2
      exact List.mem_iff_getElem?.2 ⟨j, List.getElem?_zip_eq_some.2 ⟨h1, h2⟩⟩
    · cases h1
  · rw [List.getElem?_drop] at h1 h2
    exact List.mem_iff_getElem?.2 ⟨_, List.getElem?_zip_eq_some.2 ⟨h1, h2⟩⟩
theorem Reads.takeR {w : World} {B size n : Nat} {A : Option Addr} {xs : List Value} (h : Reads w B size A n xs) {m : Nat} (hm : m ≤ n) : Reads w B size A m (xs.take (m * size)) := by
  refine ⟨?_, fun h0 => ?_⟩
  · rw [List.length_take, h.1]
    exact Nat.min_eq_left (Nat.mul_le_mul_right _ hm)
  · obtain ⟨ad, e, hb, hc⟩ := h.2 (by omega)
    refine ⟨ad, e, hb, fun j u hu => hc j u ?_⟩
    rw [List.getElem?_take] at hu
    split at hu
    · exact hu
    · cases hu
theorem Has.takeR {α : Type} {enc : α → List Value} {sz : Nat} {w : World} {B : Nat} {A : Option Addr} {n cap m : Nat} {xs : List α} (hE : ∀ x, (enc x).length = sz) (h : Has w B sz enc (.slice A n cap) xs) (hm : m ≤ n) : Has w B sz enc (.slice A m cap) (xs.take m) := by
  obtain ⟨A', cap', e, h1, h2, h3, h4⟩ := h
  injection e with e1 e2 e3
  subst e1 e2 e3
  have hl : (xs.take m).length = m := by rw [List.length_take]; omega
  refine ⟨A, cap, by rw [hl], by omega, h2, ?_, fun g e hn => h4 g e (by omega)⟩
  rw [hl]
  have := h3.takeR hm
  have ht : (xs.flatMap enc).take (m * sz) = (xs.take m).flatMap enc := by
    clear h1 h3 h4 hl this hm
    induction xs generalizing m with
    | nil => simp
    | cons x xs ih =>
      cases m with
      | zero => simp
      | succ m =>
        rw [List.flatMap_cons, List.take_succ_cons, List.flatMap_cons, Nat.succ_mul, List.take_append, hE, List.take_of_length_le (by rw [hE]; omega), show m * sz + sz - sz = m * sz by omega, ih]
  rw [← ht]
  exact this
section
variable {B rb : Nat} {lv : Value} {ovs : List OutV} {S : SndA} {w w' : World}
theorem rendNo (h : RSnd B rb lv ovs S w) (id st : Int) (hn : S.l.length ≤ 1000000) (hno : id ∉ idsA S.l) :
    Calls Try.prog 19 #[.pointer (some ⟨rb, 0, none⟩), .int .u64 id, .int .i64 st] w fun e w' => e = .returned (.int .i64 5) ∧ w = w' := by
  have HF := Lib.hid (rfindNo h id hn hno)
  clear h hno
  go_enter Try.func19, Try.ntmps19
  go_wp2_with fail
  refine HF.out.mono ?_
  rintro e w2 ⟨rfl, rfl⟩
  go_wp2_with fail
  go_ret
  exact ⟨rfl, rfl⟩
theorem rendArg (h : RSnd B rb lv ovs S w) (id st : Int) (hs : (idsA S.l).Pairwise (· < ·)) (hn : S.l.length ≤ 1000000) {k : Nat} {a : OutA} (hk : S.l[k]? = some a) (hid : a.id = id) (hst : st < 2 ∨ 4 < st) :
    Calls Try.prog 19 #[.pointer (some ⟨rb, 0, none⟩), .int .u64 id, .int .i64 st] w fun e w' => e = .returned (.int .i64 1) ∧ w = w' := by
  have HF := Lib.hid (rfindYes h id hn hs hk hid)
  have hk0 : ¬ (k : Int) < 0 := by omega
  have b2 : (st != 2) = true := by simp; omega
  have b3 : (st != 3) = true := by simp; omega
  have b4 : (st != 4) = true := by simp; omega
  clear h hs hk hid hst
  go_enter Try.func19, Try.ntmps19
  go_wp2_with fail
  refine HF.out.mono ?_
  rintro e w2 ⟨rfl, rfl⟩
  go_wp2_with fail
  go_ret
  exact ⟨rfl, rfl⟩
theorem rendLate (h : RSnd B rb lv ovs S w) (id st : Int) (hs : (idsA S.l).Pairwise (· < ·)) (hn : S.l.length ≤ 1000000) {k : Nat} {a : OutA} (hk : S.l[k]? = some a) (hid : a.id = id) (hst : ¬ st < 2 ∧ ¬ 4 < st) (hno : ¬ a.st = 1) :
    Calls Try.prog 19 #[.pointer (some ⟨rb, 0, none⟩), .int .u64 id, .int .i64 st] w fun e w' => e = .returned (.int .i64 8) ∧ w = w' := by
  have HF := Lib.hid (rfindYes h id hn hs hk hid)
  have hk0 : ¬ (k : Int) < 0 := by omega
  obtain ⟨o, ho, e1, e2, e3, -⟩ := h.ats hk
  have hrow := h.row
  have hkl := (List.getElem?_eq_some_iff.1 ho).1
  obtain ⟨g, cap, hv, hcap, -, hg⟩ := hrow.form1 (by omega)
  obtain ⟨n, hnn⟩ : ∃ n, ovs.length = n := ⟨_, rfl⟩
  rw [hnn] at hv hkl
  have c4 : w.cell? ⟨rb, 4, none⟩ = some (.slice (some ⟨g, 0, none⟩) n cap) := by rw [h.blk.cell, ← hv]; rfl
  rw [hv] at hrow
  have r3 := hrow.cell encR4_len ho (j := 3) (by omega)
  simp only [encR4, List.getElem?_cons_zero, List.getElem?_cons_succ] at r3
  rw [e3] at r3
  obtain ⟨sta, hsta⟩ : ∃ sta, a.st = sta := ⟨_, rfl⟩
  rw [hsta] at r3 hno
  have hd1 : (sta != 1) = true := by simp [hno]
  have hkz : (k : Int) < (n : Int) := by omega
  have hkz0 : (0 : Int) ≤ (k : Int) := by omega
  have hsp : st = 2 ∨ st = 3 ∨ st = 4 := by omega
  clear h hs hk hrow hv hnn ho e1 e2 e3 hsta hst hid
  rcases hsp with rfl | rfl | rfl
  all_goals
    go_enter Try.func19, Try.ntmps19
    go_wp2_with fail
    refine HF.out.mono ?_
    rintro e w2 ⟨rfl, rfl⟩
    go_wp2_with fail
    go_ret
    exact ⟨rfl, rfl⟩
theorem rendYes (h : RSnd B rb lv ovs S w) (id st : Int) (hs : (idsA S.l).Pairwise (· < ·)) (hn : S.l.length ≤ 1000000) {k : Nat} {a : OutA} (hk : S.l[k]? = some a) (hid : a.id = id) (hst : ¬ st < 2 ∧ ¬ 4 < st) (hno : a.st = 1) :
    Calls Try.prog 19 #[.pointer (some ⟨rb, 0, none⟩), .int .u64 id, .int .i64 st] w fun e w' => e = .returned (.int .i64 0) ∧ (∃ lv' ovs', RSnd B rb lv' ovs' { S with l := S.l.set k { a with st := st } } w' ∧ ∀ k, lv'.ownBlock = some k → w.heap.size ≤ k) ∧ Mod (fun k => k = rb) w w' := by
  have HF := Lib.hid (rfindYes h id hn hs hk hid)
  have hk0 : ¬ (k : Int) < 0 := by omega
  obtain ⟨o, ho, e1, e2, e3, hdat⟩ := h.ats hk
  have hrow := h.row
  have hkl := (List.getElem?_eq_some_iff.1 ho).1
  obtain ⟨g, cap, hv, hcap, hBg, hg⟩ := hrow.form1 (by omega)
  obtain ⟨n, hnn⟩ : ∃ n, ovs.length = n := ⟨_, rfl⟩
  have hlen := h.len
  rw [hnn] at hv hkl hcap hlen
  have hrl := h.blk.lt
  have hsz := h.sz
  have c4 : w.cell? ⟨rb, 4, none⟩ = some (.slice (some ⟨g, 0, none⟩) n cap) := by rw [h.blk.cell, ← hv]; rfl
  have f4 : w.frozen? ⟨rb, 4, none⟩ = false := h.blk.free 4
  rw [hv] at hrow
  have r3 := hrow.cell encR4_len ho (j := 3) (by omega)
  simp only [encR4, List.getElem?_cons_zero, List.getElem?_cons_succ] at r3
  rw [e3, hno] at r3
  have hkz : (k : Int) < (n : Int) := by omega
  have hkz0 : (0 : Int) ≤ (k : Int) := by omega
  have hsp : st = 2 ∨ st = 3 ∨ st = 4 := by omega
  obtain ⟨iC, hiC, hzC0, hzC1, hzC2⟩ := info_parts R4_info
  have HX := Lib.hid h
  have HV := Lib.hid hv
  have HO := Lib.hid ho
  have HD := Lib.hid (show DatR B { o with st := st } { a with st := st } w from ⟨e1, e2, rfl, hdat⟩)
  have HN := Lib.hid hnn
  have hnb : n ≤ 1000000 := by omega
  have HRD := Lib.hid (readsR ((hrow.later ((Mod.refl NoB w).alloc (.cells #[] 60))).has))
  have HONS := Lib.hid (one_R4s ovs)
  have HBK := Lib.hid h.blk
  clear h hs hk hrow hv hnn ho e1 e2 e3 hst hid hdat hlen
  rcases hsp with rfl | rfl | rfl
  · go_enter Try.func19, Try.ntmps19
    go_wp2_with fail
    refine HF.out.mono ?_
    rintro e w2 ⟨rfl, rfl⟩
    go_wp2_with (at_builtin
                 go_loud (refine wpList_append_any _ rfl (.tmp 36) (.tmp 40) _ rfl w.heap.size 60 iC _ 4 48 Try.underlying63 hiC hzC0 hzC1 hzC2 rfl (by omega) (.slice (some ⟨w.heap.size, 0, none⟩) 0 0) 0 [] rfl (litOwnR (w := w) (n := w.heap.size) 60 #[] 0 (by simp) (by omega) (by decide) rfl) _ (some ⟨g, 0, none⟩) n cap (ovs.flatMap encR4) rfl HRD.out HONS.out (by simp only [maxLen]; omega) (by omega) (by simp) ?_
                          intro v9 w9 hown9 hgr9 hat9
                          have m9 : Mod NoB w w9 := ((Mod.refl NoB w).alloc (.cells #[] 60)).trans (Mod.ofGrown hgr9) (fun q hq e => by have h2 := Option.some.inj e; simp only at h2; omega)
                          have ho9 : Own w9 w.heap.size 60 4 encR4 v9 ovs := by unfold Own; rw [HN.out]; simpa using hown9
                          obtain ⟨g9, k9, e9, hc9, hb9, hl9⟩ := ho9.form1 (by rw [HN.out]; omega)
                          rw [HN.out] at e9
                          subst e9
                          have q4 := (m9.cell (p := ⟨rb, 4, none⟩) hrl (fun e => e)).trans c4
                          have p4 := (m9.frozen (p := ⟨rb, 4, none⟩) hrl (fun e => e)).trans f4
                          have hne : rb ≠ g9 := by omega
                          have hne' : g9 ≠ rb := by omega
                          have p9 := ho9.free (k * 4 + 3)
                          have q9 : w9.cell? ⟨g9, k * 4 + 3, none⟩ = some (.int .i64 o.st) := ho9.cell encR4_len HO.out (j := 3) (by omega)
                          have HM9 := Lib.hid m9
                          have HO9 := Lib.hid ho9
                          clear hown9 hgr9 hat9 m9 ho9))
    go_ret
    have hm1 := (HM9.out.mono (S' := fun k => k = rb) (fun _ _ e => e.elim)).setCell (p := ⟨rb, 4, none⟩) (fun _ => rfl) (.slice (some ⟨g9, 0, none⟩) n k9)
    have hmod := hm1.setCell (p := ⟨g9, k * 4 + 3, none⟩) (fun e => absurd (show g9 < w.heap.size from e) (by omega)) (.int .i64 2)
    refine ⟨rfl, ⟨.slice (some ⟨g9, 0, none⟩) n k9, ovs.set k { o with st := 2 }, ⟨?_, ?_, ?_, ?_, HX.out.hB, fun e => hne' (Option.some.inj e)⟩, fun z hz => ?_⟩, hmod⟩
    · exact ((HBK.out.mod HM9.out (fun e => e)).set 4 _).setOther (a := ⟨g9, k * 4 + 3, none⟩) hne _
    · have h5 := HO9.out.mod ((Mod.refl (fun k => k = rb) w9).setCell (p := ⟨rb, 4, none⟩) (fun _ => rfl) (.slice (some ⟨g9, 0, none⟩) n k9)) (fun z hz e => hne' ((Option.some.inj hz).trans e))
      exact (h5.set encR4_len HO.out (j := 3) (by omega) (.int .i64 2) { o with st := 2 } rfl).le hsz
    · show (ovs.set k _).length = (S.l.set k _).length
      rw [List.length_set, List.length_set, HX.out.len]
    · intro p hp
      rcases zip_set HX.out.len p hp with rfl | hp
      · exact HD.out.keep hmod hsz (fun k (e : k = rb) => by rw [e]; exact HX.out.hB)
      · exact (HX.out.dat p hp).keep hmod hsz (fun k (e : k = rb) => by rw [e]; exact HX.out.hB)
    · have : g9 = z := Option.some.inj hz
      omega
  · go_enter Try.func19, Try.ntmps19
    go_wp2_with fail
    refine HF.out.mono ?_
    rintro e w2 ⟨rfl, rfl⟩
    go_wp2_with (at_builtin
                 refine wpList_append_any _ rfl (.tmp 36) (.tmp 40) _ rfl w.heap.size 60 iC _ 4 48 Try.underlying63 hiC hzC0 hzC1 hzC2 rfl (by omega) (.slice (some ⟨w.heap.size, 0, none⟩) 0 0) 0 [] rfl (litOwnR (w := w) (n := w.heap.size) 60 #[] 0 (by simp) (by omega) (by decide) rfl) _ (some ⟨g, 0, none⟩) n cap (ovs.flatMap encR4) rfl HRD.out HONS.out (by simp only [maxLen]; omega) (by omega) (by simp) ?_
                 intro v9 w9 hown9 hgr9 hat9
                 have m9 : Mod NoB w w9 := ((Mod.refl NoB w).alloc (.cells #[] 60)).trans (Mod.ofGrown hgr9) (fun q hq e => by have h2 := Option.some.inj e; simp only at h2; omega)
                 have ho9 : Own w9 w.heap.size 60 4 encR4 v9 ovs := by unfold Own; rw [HN.out]; simpa using hown9
                 obtain ⟨g9, k9, e9, hc9, hb9, hl9⟩ := ho9.form1 (by rw [HN.out]; omega)
                 rw [HN.out] at e9
                 subst e9
                 have q4 := (m9.cell (p := ⟨rb, 4, none⟩) hrl (fun e => e)).trans c4
                 have p4 := (m9.frozen (p := ⟨rb, 4, none⟩) hrl (fun e => e)).trans f4
                 have hne : rb ≠ g9 := by omega
                 have hne' : g9 ≠ rb := by omega
                 have p9 := ho9.free (k * 4 + 3)
                 have q9 : w9.cell? ⟨g9, k * 4 + 3, none⟩ = some (.int .i64 o.st) := ho9.cell encR4_len HO.out (j := 3) (by omega)
                 have HM9 := Lib.hid m9
                 have HO9 := Lib.hid ho9
                 clear hown9 hgr9 hat9 m9 ho9)
    go_ret
    have hm1 := (HM9.out.mono (S' := fun k => k = rb) (fun _ _ e => e.elim)).setCell (p := ⟨rb, 4, none⟩) (fun _ => rfl) (.slice (some ⟨g9, 0, none⟩) n k9)
    have hmod := hm1.setCell (p := ⟨g9, k * 4 + 3, none⟩) (fun e => absurd (show g9 < w.heap.size from e) (by omega)) (.int .i64 3)
    refine ⟨rfl, ⟨.slice (some ⟨g9, 0, none⟩) n k9, ovs.set k { o with st := 3 }, ⟨?_, ?_, ?_, ?_, HX.out.hB, fun e => hne' (Option.some.inj e)⟩, fun z hz => ?_⟩, hmod⟩
    · exact ((HBK.out.mod HM9.out (fun e => e)).set 4 _).setOther (a := ⟨g9, k * 4 + 3, none⟩) hne _
    · have h5 := HO9.out.mod ((Mod.refl (fun k => k = rb) w9).setCell (p := ⟨rb, 4, none⟩) (fun _ => rfl) (.slice (some ⟨g9, 0, none⟩) n k9)) (fun z hz e => hne' ((Option.some.inj hz).trans e))
      exact (h5.set encR4_len HO.out (j := 3) (by omega) (.int .i64 3) { o with st := 3 } rfl).le hsz
    · show (ovs.set k _).length = (S.l.set k _).length
      rw [List.length_set, List.length_set, HX.out.len]
    · intro p hp
      rcases zip_set HX.out.len p hp with rfl | hp
      · exact HD.out.keep hmod hsz (fun k (e : k = rb) => by rw [e]; exact HX.out.hB)
      · exact (HX.out.dat p hp).keep hmod hsz (fun k (e : k = rb) => by rw [e]; exact HX.out.hB)
    · have : g9 = z := Option.some.inj hz
      omega
  · go_enter Try.func19, Try.ntmps19
    go_wp2_with fail
    refine HF.out.mono ?_
    rintro e w2 ⟨rfl, rfl⟩
    go_wp2_with (at_builtin
                 refine wpList_append_any _ rfl (.tmp 36) (.tmp 40) _ rfl w.heap.size 60 iC _ 4 48 Try.underlying63 hiC hzC0 hzC1 hzC2 rfl (by omega) (.slice (some ⟨w.heap.size, 0, none⟩) 0 0) 0 [] rfl (litOwnR (w := w) (n := w.heap.size) 60 #[] 0 (by simp) (by omega) (by decide) rfl) _ (some ⟨g, 0, none⟩) n cap (ovs.flatMap encR4) rfl HRD.out HONS.out (by simp only [maxLen]; omega) (by omega) (by simp) ?_
                 intro v9 w9 hown9 hgr9 hat9
                 have m9 : Mod NoB w w9 := ((Mod.refl NoB w).alloc (.cells #[] 60)).trans (Mod.ofGrown hgr9) (fun q hq e => by have h2 := Option.some.inj e; simp only at h2; omega)
                 have ho9 : Own w9 w.heap.size 60 4 encR4 v9 ovs := by unfold Own; rw [HN.out]; simpa using hown9
                 obtain ⟨g9, k9, e9, hc9, hb9, hl9⟩ := ho9.form1 (by rw [HN.out]; omega)
                 rw [HN.out] at e9
                 subst e9
                 have q4 := (m9.cell (p := ⟨rb, 4, none⟩) hrl (fun e => e)).trans c4
                 have p4 := (m9.frozen (p := ⟨rb, 4, none⟩) hrl (fun e => e)).trans f4
                 have hne : rb ≠ g9 := by omega
                 have hne' : g9 ≠ rb := by omega
                 have p9 := ho9.free (k * 4 + 3)
                 have q9 : w9.cell? ⟨g9, k * 4 + 3, none⟩ = some (.int .i64 o.st) := ho9.cell encR4_len HO.out (j := 3) (by omega)
                 have HM9 := Lib.hid m9
                 have HO9 := Lib.hid ho9
                 clear hown9 hgr9 hat9 m9 ho9)
    go_ret
    have hm1 := (HM9.out.mono (S' := fun k => k = rb) (fun _ _ e => e.elim)).setCell (p := ⟨rb, 4, none⟩) (fun _ => rfl) (.slice (some ⟨g9, 0, none⟩) n k9)
    have hmod := hm1.setCell (p := ⟨g9, k * 4 + 3, none⟩) (fun e => absurd (show g9 < w.heap.size from e) (by omega)) (.int .i64 4)
    refine ⟨rfl, ⟨.slice (some ⟨g9, 0, none⟩) n k9, ovs.set k { o with st := 4 }, ⟨?_, ?_, ?_, ?_, HX.out.hB, fun e => hne' (Option.some.inj e)⟩, fun z hz => ?_⟩, hmod⟩
    · exact ((HBK.out.mod HM9.out (fun e => e)).set 4 _).setOther (a := ⟨g9, k * 4 + 3, none⟩) hne _
    · have h5 := HO9.out.mod ((Mod.refl (fun k => k = rb) w9).setCell (p := ⟨rb, 4, none⟩) (fun _ => rfl) (.slice (some ⟨g9, 0, none⟩) n k9)) (fun z hz e => hne' ((Option.some.inj hz).trans e))
      exact (h5.set encR4_len HO.out (j := 3) (by omega) (.int .i64 4) { o with st := 4 } rfl).le hsz
    · show (ovs.set k _).length = (S.l.set k _).length
      rw [List.length_set, List.length_set, HX.out.len]
    · intro p hp
      rcases zip_set HX.out.len p hp with rfl | hp
      · exact HD.out.keep hmod hsz (fun k (e : k = rb) => by rw [e]; exact HX.out.hB)
      · exact (HX.out.dat p hp).keep hmod hsz (fun k (e : k = rb) => by rw [e]; exact HX.out.hB)
    · have : g9 = z := Option.some.inj hz
      omega
theorem rforgetNo (h : RSnd B rb lv ovs S w) (id : Int) (hn : S.l.length ≤ 1000000) (hno : id ∉ idsA S.l) :
    Calls Try.prog 21 #[.pointer (some ⟨rb, 0, none⟩), .int .u64 id] w fun e w' => e = .returned (.int .i64 5) ∧ w = w' := by
  have HF := Lib.hid (rfindNo h id hn hno)
  clear h hno
  go_enter Try.func21, Try.ntmps21
  go_wp2_with fail
  refine HF.out.mono ?_
  rintro e w2 ⟨rfl, rfl⟩
  go_wp2_with fail
  go_ret
  exact ⟨rfl, rfl⟩
theorem rforgetArg (h : RSnd B rb lv ovs S w) (id : Int) (hs : (idsA S.l).Pairwise (· < ·)) (hn : S.l.length ≤ 1000000) {k : Nat} {a : OutA} (hk : S.l[k]? = some a) (hid : a.id = id) (hno : a.st = 1) :
    Calls Try.prog 21 #[.pointer (some ⟨rb, 0, none⟩), .int .u64 id] w fun e w' => e = .returned (.int .i64 1) ∧ w = w' := by
  have HF := Lib.hid (rfindYes h id hn hs hk hid)
  have hk0 : ¬ (k : Int) < 0 := by omega
  obtain ⟨o, ho, e1, e2, e3, -⟩ := h.ats hk
  have hrow := h.row
  have hkl := (List.getElem?_eq_some_iff.1 ho).1
  obtain ⟨g, cap, hv, hcap, -, hg⟩ := hrow.form1 (by omega)
  obtain ⟨n, hnn⟩ : ∃ n, ovs.length = n := ⟨_, rfl⟩
  rw [hnn] at hv hkl
  have c4 : w.cell? ⟨rb, 4, none⟩ = some (.slice (some ⟨g, 0, none⟩) n cap) := by rw [h.blk.cell, ← hv]; rfl
  rw [hv] at hrow
  have r3 := hrow.cell encR4_len ho (j := 3) (by omega)
  simp only [encR4, List.getElem?_cons_zero, List.getElem?_cons_succ] at r3
  rw [e3, hno] at r3
  have hkz : (k : Int) < (n : Int) := by omega
  have hkz0 : (0 : Int) ≤ (k : Int) := by omega
  clear h hs hk hrow hv hnn ho e1 e2 e3 hid hno
  go_enter Try.func21, Try.ntmps21
  go_wp2_with fail
  refine HF.out.mono ?_
  rintro e w2 ⟨rfl, rfl⟩
  go_wp2_with fail
  go_ret
  exact ⟨rfl, rfl⟩
theorem rforgetYes (h : RSnd B rb lv ovs S w) (id : Int) (hs : (idsA S.l).Pairwise (· < ·)) (hn : S.l.length ≤ 1000000) {k : Nat} {a : OutA} (hk : S.l[k]? = some a) (hid : a.id = id) (hno : ¬ a.st = 1) :
    Calls Try.prog 21 #[.pointer (some ⟨rb, 0, none⟩), .int .u64 id] w fun e w' => e = .returned (.int .i64 0) ∧ (∃ lv' ovs', RSnd B rb lv' ovs' { S with l := S.l.take k ++ S.l.drop (k + 1) } w' ∧ ∀ k, lv'.ownBlock = some k → w.heap.size ≤ k) ∧ Mod (fun k => k = rb) w w' := by
  have HF := Lib.hid (rfindYes h id hn hs hk hid)
  have hk0 : ¬ (k : Int) < 0 := by omega
  obtain ⟨o, ho, e1, e2, e3, -⟩ := h.ats hk
  have hrow := h.row
  have hkl := (List.getElem?_eq_some_iff.1 ho).1
  obtain ⟨g, cap, hv, hcap, hBg, hg⟩ := hrow.form1 (by omega)
  obtain ⟨n, hnn⟩ : ∃ n, ovs.length = n := ⟨_, rfl⟩
  have hlen := h.len
  rw [hnn] at hv hkl hcap hlen
  have hrl := h.blk.lt
  have hsz := h.sz
  have c4 : w.cell? ⟨rb, 4, none⟩ = some (.slice (some ⟨g, 0, none⟩) n cap) := by rw [h.blk.cell, ← hv]; rfl
  have f4 : w.frozen? ⟨rb, 4, none⟩ = false := h.blk.free 4
  rw [hv] at hrow
  have r3 := hrow.cell encR4_len ho (j := 3) (by omega)
  simp only [encR4, List.getElem?_cons_zero, List.getElem?_cons_succ] at r3
  rw [e3] at r3
  obtain ⟨sta, hsta⟩ : ∃ sta, a.st = sta := ⟨_, rfl⟩
  rw [hsta] at r3 hno
  have hd1 : (sta == 1) = false := by simp [hno]
  have hkz : (k : Int) < (n : Int) := by omega
  have hkz0 : (0 : Int) ≤ (k : Int) := by omega
  obtain ⟨iC, hiC, hzC0, hzC1, hzC2⟩ := info_parts R4_info
  have HX := Lib.hid h
  have HN := Lib.hid hnn
  have hnb : n ≤ 1000000 := by omega
  have hm1 : Mod NoB w (w.alloc (.cells #[] 60)) := (Mod.refl NoB w).alloc _
  have hrowD : Own w.drew B 60 4 encR4 (.slice (some ⟨g, 0, none⟩) n cap) ovs := hrow
  have HRD1 := Lib.hid (readsR ((hrowD.later ((Mod.refl NoB w.drew).alloc (.cells #[] 60))).has.takeR encR4_len (show k ≤ n by omega)))
  have HRW := Lib.hid (fun (W : World) (m : Mod NoB w W) => hrow.later m)
  have HLIT0 := Lib.hid (own_drewR (litOwnR (w := w) (n := w.heap.size) 60 #[] 0 (by simp) (Nat.le_refl _) (by decide) rfl))
  have HON1 := Lib.hid (one_R4s (ovs.take k))
  have HON2 := Lib.hid (one_R4s (ovs.drop (k + 1)))
  have HBK := Lib.hid h.blk
  have HRL := Lib.hid hrl
  have b0 : (0 : Int) ≤ (k : Int) := by omega
  have b1 : (k : Int) ≤ (cap : Int) := by omega
  have b2 : (k : Int) + 1 ≤ (cap : Int) := by omega
  have b3 : IntKind.i64.wrap ((k : Int) + 1) = (k : Int) + 1 := by rw [IntKind.wrap_i64]; omega
  have b7 : k + 1 ≤ n := by omega
  have b9 : (0 : Int) ≤ (k : Int) + 1 := by omega
  have b10 : (k : Int) + 1 ≤ (n : Int) := by omega
  have b11 : (n : Int) ≤ (cap : Int) := by omega
  clear h hs hk hrow hrowD hv hnn ho e1 e2 e3 hid hsta hm1 hlen
  go_enter Try.func21, Try.ntmps21
  go_wp2_with fail
  refine HF.out.mono ?_
  rintro e w2 ⟨rfl, rfl⟩
  go_wp2_with fail
  by_cases hcc : cap = k + 1
  · subst hcc
    obtain rfl : n = k + 1 := by omega
    have b12 : (k : Int) + 1 ≤ (k : Int) + 1 := by omega
    have b8 : k ≤ k + 1 := by omega
    have b13 : (k : Int) ≤ (k : Int) + 1 := by omega
    have b14 : k + 1 - (k + 1) = 0 := by omega
    go_region_law
      (first
        | (refine step_append_any _ (by rfl) (.tmp 21) (.tmp 27) 63 (by rfl) w.heap.size 60 iC _ 4 48 Try.underlying63 hiC hzC0 hzC1 hzC2 (by rfl) (by omega) (.slice (some ⟨w.heap.size, 0, none⟩) 0 0) 0 [] (by rfl) HLIT0.out _ (some ⟨g, 0, none⟩) k (k + 1) ((ovs.take k).flatMap encR4) (by rfl) HRD1.out HON1.out (by simp only [maxLen]; omega) (by omega) (by simp) ?_; intro v5 w5 hown5 hgr5 hat5; have hk5 : Mod NoB w w5 := (show Mod NoB w _ from (Mod.refl NoB w).drew.alloc (.cells #[] 60)).trans (Mod.ofGrown hgr5) (fun z hz e => by have h2 := Option.some.inj e; simp only at h2; omega); have q4 := (hk5.cell (p := ⟨rb, 4, none⟩) hrl (fun e => e)).trans c4; have p4 := (hk5.frozen (p := ⟨rb, 4, none⟩) hrl (fun e => e)).trans f4; have hr5 := Nat.lt_of_lt_of_le hrl hk5.size)
        | (refine step_append_any _ (by rfl) (.tmp 28) (.tmp 35) 63 (by rfl) w.heap.size 60 iC _ 4 48 Try.underlying63 hiC hzC0 hzC1 hzC2 (by rfl) (by omega) _ _ _ (by rfl) hown5 _ (some ⟨g, 0, none⟩) 0 0 [] (by rfl) (⟨by simp, fun h => absurd h (by omega)⟩ : Reads w5 w5.heap.size 4 (some ⟨g, 0, none⟩) 0 []) (fun _ h => by cases h) (by simp only [maxLen]; omega) (by omega) hk5.size ?_; intro v6 w6 hown6 hgr6 hat6; obtain ⟨A6, c6, rfl⟩ := ownsSlice hown6; have hk6 : Mod NoB w w6 := hk5.trans (Mod.ofGrown hgr6) (fun z hz e => by have := (hown5.lt z e).1; omega); have q4' := (hk6.cell (p := ⟨rb, 4, none⟩) hrl (fun e => e)).trans c4; have p4' := (hk6.frozen (p := ⟨rb, 4, none⟩) hrl (fun e => e)).trans f4; have hr6 := Nat.lt_of_lt_of_le hrl hk6.size))
    all_goals
      have hrow6 : Own w6 w.heap.size 60 4 encR4 (.slice A6 k c6) (ovs.take k ++ ovs.drop (k + 1)) := by
        unfold Own
        rw [List.drop_of_length_le (show ovs.length ≤ k + 1 by rw [HN.out]; exact Nat.le_refl _), List.append_nil, List.length_take, HN.out, show min k (k + 1) = k by omega]
        simpa using hown6
      have HR6 := Lib.hid hrow6
      have HM6 := Lib.hid (hk6.mono (S' := fun k => k = rb) (fun _ _ e => e.elim))
      have HK6 := Lib.hid hk6
      clear hown5 hgr5 hat5 hk5 hown6 hgr6 hat6 hk6 hrow6
      go_wp2_with fail
      go_ret
      have hmod := HM6.out.setCell (p := ⟨rb, 4, none⟩) (fun _ => rfl) (.slice A6 (k) c6)
      refine ⟨rfl, ⟨.slice A6 (k) c6, ovs.take k ++ ovs.drop (k + 1), ⟨?_, ?_, ?_, ?_, HX.out.hB, fun e => ?_⟩, fun z hz => ?_⟩, hmod⟩
      · exact (HBK.out.mod HK6.out (fun e => e)).set 4 _
      · refine Own.le (B' := B) (HR6.out.mod ((Mod.refl (fun k => k = rb) w6).setCell (p := ⟨rb, 4, none⟩) (fun _ => rfl) _) (fun z hz e => ?_)) hsz
        have := HR6.out.base hz
        omega
      · show (ovs.take k ++ ovs.drop (k + 1)).length = (S.l.take k ++ S.l.drop (k + 1)).length
        rw [List.length_append, List.length_append, List.length_take, List.length_take, List.length_drop, List.length_drop, HX.out.len]
      · intro p hp
        exact (HX.out.dat p (zip_cut k HX.out.len p hp)).keep hmod hsz (fun k (e : k = rb) => by rw [e]; exact HX.out.hB)
      · have := HR6.out.base e
        omega
      · exact HR6.out.base hz
  · have b4 : ¬ cap - (k + 1) = 0 := by omega
    have b5 : ¬ (cap : Int) = (k : Int) + 1 := by omega
    have b6 : k + 1 < cap := by omega
    have b8 : k ≤ cap := by omega
    have HRD2 := Lib.hid (fun (W : World) (m : Mod NoB w W) => show Reads W W.heap.size 4 (some ⟨g, (k + 1) * 4, none⟩) (n - (k + 1)) ((ovs.drop (k + 1)).flatMap encR4) from by
      have h := readsR ((HRW.out W m).has.cut encR4_len (k := k + 1) (by omega))
      rw [if_neg hcc] at h
      simpa [Go.WideShapes.add_plain] using h)
    go_region_law
      (first
        | (refine step_append_any _ (by rfl) (.tmp 21) (.tmp 27) 63 (by rfl) w.heap.size 60 iC _ 4 48 Try.underlying63 hiC hzC0 hzC1 hzC2 (by rfl) (by omega) (.slice (some ⟨w.heap.size, 0, none⟩) 0 0) 0 [] (by rfl) HLIT0.out _ (some ⟨g, 0, none⟩) k cap ((ovs.take k).flatMap encR4) (by rfl) HRD1.out HON1.out (by simp only [maxLen]; omega) (by omega) (by simp) ?_; intro v5 w5 hown5 hgr5 hat5; have hk5 : Mod NoB w w5 := (show Mod NoB w _ from (Mod.refl NoB w).drew.alloc (.cells #[] 60)).trans (Mod.ofGrown hgr5) (fun z hz e => by have h2 := Option.some.inj e; simp only at h2; omega); have q4 := (hk5.cell (p := ⟨rb, 4, none⟩) hrl (fun e => e)).trans c4; have p4 := (hk5.frozen (p := ⟨rb, 4, none⟩) hrl (fun e => e)).trans f4; have hr5 := Nat.lt_of_lt_of_le hrl hk5.size)
        | (refine step_append_any _ (by rfl) (.tmp 28) (.tmp 35) 63 (by rfl) w.heap.size 60 iC _ 4 48 Try.underlying63 hiC hzC0 hzC1 hzC2 (by rfl) (by omega) _ _ _ (by rfl) hown5 _ (some ⟨g, (k + 1) * 4, none⟩) (n - (k + 1)) (cap - (k + 1)) ((ovs.drop (k + 1)).flatMap encR4) (by rfl) (HRD2.out w5 hk5) HON2.out (by simp only [maxLen]; omega) (by omega) hk5.size ?_; intro v6 w6 hown6 hgr6 hat6; obtain ⟨A6, c6, rfl⟩ := ownsSlice hown6; have hk6 : Mod NoB w w6 := hk5.trans (Mod.ofGrown hgr6) (fun z hz e => by have := (hown5.lt z e).1; omega); have q4' := (hk6.cell (p := ⟨rb, 4, none⟩) hrl (fun e => e)).trans c4; have p4' := (hk6.frozen (p := ⟨rb, 4, none⟩) hrl (fun e => e)).trans f4; have hr6 := Nat.lt_of_lt_of_le hrl hk6.size))
    all_goals
      have hrow6 : Own w6 w.heap.size 60 4 encR4 (.slice A6 (k + (n - (k + 1))) c6) (ovs.take k ++ ovs.drop (k + 1)) := by
        unfold Own
        rw [List.length_append, List.length_take, List.length_drop, HN.out, List.flatMap_append, show min k n = k by omega]
        simpa using hown6
      have HR6 := Lib.hid hrow6
      have HM6 := Lib.hid (hk6.mono (S' := fun k => k = rb) (fun _ _ e => e.elim))
      have HK6 := Lib.hid hk6
      clear hown5 hgr5 hat5 hk5 hown6 hgr6 hat6 hk6 hrow6
      go_wp2_with fail
      go_ret
      have hmod := HM6.out.setCell (p := ⟨rb, 4, none⟩) (fun _ => rfl) (.slice A6 (k + (n - (k + 1))) c6)
      refine ⟨rfl, ⟨.slice A6 (k + (n - (k + 1))) c6, ovs.take k ++ ovs.drop (k + 1), ⟨?_, ?_, ?_, ?_, HX.out.hB, fun e => ?_⟩, fun z hz => ?_⟩, hmod⟩
      · exact (HBK.out.mod HK6.out (fun e => e)).set 4 _
      · refine Own.le (B' := B) (HR6.out.mod ((Mod.refl (fun k => k = rb) w6).setCell (p := ⟨rb, 4, none⟩) (fun _ => rfl) _) (fun z hz e => ?_)) hsz
        have := HR6.out.base hz
        omega
      · show (ovs.take k ++ ovs.drop (k + 1)).length = (S.l.take k ++ S.l.drop (k + 1)).length
        rw [List.length_append, List.length_append, List.length_take, List.length_take, List.length_drop, List.length_drop, HX.out.len]
      · intro p hp
        exact (HX.out.dat p (zip_cut k HX.out.len p hp)).keep hmod hsz (fun k (e : k = rb) => by rw [e]; exact HX.out.hB)
      · have := HR6.out.base e
        omega
      · exact HR6.out.base hz
end
end Go.Proofs.Ytddnlbkocmpffaa
