/- Contracts of a table of int that write: Delete. -/
import Derived.Test.YtkfembhladjhdaaTabXInt
namespace Go.Proofs.Ytkfembhladjhdaa.TabInt
open Go.RowKit
set_option linter.unusedVariables false
set_option maxHeartbeats 4000000
set_option maxRecDepth 100000
/-- A slot emptied. -/
theorem Mem.clear {w : World} {bt bs : Nat} {most n : Int} {s : List (Option ((Int × Int) × Int))} (h : Mem w bt bs most n s) {i : Nat} (hi : i < s.length) (hne : bt ≠ bs) :
    Mem ((((w.setCell ⟨bs, i * 4, none⟩ (.bool false)).setCell ⟨bs, i * 4 + 1, none⟩ (.int .i64 0)).setCell ⟨bs, i * 4 + 2, none⟩ (.int .u64 0)).setCell ⟨bs, i * 4 + 3, none⟩ (.int .i64 0)) bt bs most n (s.set i none) := by
  refine ⟨?_, ?_⟩
  · have := (((h.top.setOther (a := ⟨bs, i * 4, none⟩) hne (.bool false)).setOther (a := ⟨bs, i * 4 + 1, none⟩) hne (.int .i64 0)).setOther (a := ⟨bs, i * 4 + 2, none⟩) hne (.int .u64 0)).setOther (a := ⟨bs, i * 4 + 3, none⟩) hne (.int .i64 0)
    rw [List.length_set]
    exact this
  · have := (((h.row.set (i * 4) (.bool false)).set (i * 4 + 1) (.int .i64 0)).set (i * 4 + 2) (.int .u64 0)).set (i * 4 + 3) (.int .i64 0)
    rw [flat_set s hi none _ _ _ _ rfl] at this
    exact this
/-- A slot filled. -/
theorem Mem.fill {w : World} {bt bs : Nat} {most n : Int} {s : List (Option ((Int × Int) × Int))} (h : Mem w bt bs most n s) {i : Nat} (hi : i < s.length) (hne : bt ≠ bs) (p k : Int) (x : Int) :
    Mem ((((w.setCell ⟨bs, i * 4, none⟩ (.bool true)).setCell ⟨bs, i * 4 + 1, none⟩ (.int .i64 p)).setCell ⟨bs, i * 4 + 2, none⟩ (.int .u64 k)).setCell ⟨bs, i * 4 + 3, none⟩ (.int .i64 x)) bt bs most n (s.set i (some ((p, k), x))) := by
  refine ⟨?_, ?_⟩
  · have := (((h.top.setOther (a := ⟨bs, i * 4, none⟩) hne (.bool true)).setOther (a := ⟨bs, i * 4 + 1, none⟩) hne (.int .i64 p)).setOther (a := ⟨bs, i * 4 + 2, none⟩) hne (.int .u64 k)).setOther (a := ⟨bs, i * 4 + 3, none⟩) hne (.int .i64 x)
    rw [List.length_set]
    exact this
  · have := (((h.row.set (i * 4) (.bool true)).set (i * 4 + 1) (.int .i64 p)).set (i * 4 + 2) (.int .u64 k)).set (i * 4 + 3) (.int .i64 x)
    rw [flat_set s hi (some ((p, k), x)) _ _ _ _ rfl] at this
    exact this
theorem Mem.count {w : World} {bt bs : Nat} {most n : Int} {s : List (Option ((Int × Int) × Int))} (h : Mem w bt bs most n s) (hne : bs ≠ bt) (m : Int) : Mem (w.setCell ⟨bt, 1, none⟩ (.int .i64 m)) bt bs most m s :=
  ⟨h.top.set 1 _, h.row.setOther (a := ⟨bt, 1, none⟩) hne _⟩
theorem deleteNone (p i : Int) (w : World) :
    Calls Try.prog 31 #[.pointer none, .agg #[.int .i64 p, .int .u64 i]] w fun e w' => e = .returned (.int .i64 5) ∧ Mod (fun _ => False) w w' := by
  go_enter Try.func31, Try.ntmps31
  go_wp2_with fail
  refine (hasNone _ _ _).mono ?_
  rintro e w1 ⟨rfl, m1⟩
  have m2 : Mod (fun _ => False) w w1 := ((Mod.refl (fun _ => False) w).alloc _).trans m1 (fun _ _ h => h)
  clear m1
  go_wp2
  go_ret
  exact ⟨rfl, m2⟩
theorem deleteNo (bt bs : Nat) (most n : Int) (s : List (Option ((Int × Int) × Int))) (p i : Int) (w : World) (h : Mem w bt bs most n s) (hok : Tab.Ok home s) (hL2 : s.length ≤ 4294967296) (habs : ∀ v, ¬ Tab.has s (p, i) v) :
    Calls Try.prog 31 #[.pointer (some ⟨bt, 0, none⟩), .agg #[.int .i64 p, .int .u64 i]] w fun e w' => e = .returned (.int .i64 5) ∧ Mod (fun _ => False) w w' := by
  have hL : 1 ≤ s.length := by obtain ⟨i, hi, _⟩ := hok.room; omega
  have hA : Mem (w.alloc (.cells #[.int .i64 p, .int .u64 i] 29)) bt bs most n s := h.mod ((Mod.refl (fun _ => False) w).alloc _) (fun e => e) (fun e => e)
  have hf0 : (Tab.at_ s (Tab.find home s (p, i))).isSome = false := by
    rw [(Tab.find_none (hok.home_lt _) hok.room habs).2.1]; rfl
  have HF := Lib.hid hf0
  have hr := hok.room
  clear habs hf0 hok
  go_enter Try.func31, Try.ntmps31
  go_wp2_with fail
  refine (hasW _ _ _ _ _ _ _ _ hA hL (by omega) hr).mono ?_
  rintro e w1 ⟨rfl, m1⟩
  rw [HF.out]
  have m2 : Mod (fun _ => False) w w1 := ((Mod.refl (fun _ => False) w).alloc _).trans m1 (fun _ _ h => h)
  clear m1
  go_wp2
  go_ret
  exact ⟨rfl, m2⟩
theorem deleteW (bt bs : Nat) (most n : Int) (s : List (Option ((Int × Int) × Int))) (p i : Int) (w : World) (h : Mem w bt bs most n s) (hok : Tab.Ok home s) (hL2 : s.length ≤ 4294967296) (hne : bt ≠ bs) (hn1 : 1 ≤ n) (hn2 : n ≤ 100000) {v : Int} {R : Nat} (hR : Tab.at_ s R = some ((p, i), v)) :
    Calls Try.prog 31 #[.pointer (some ⟨bt, 0, none⟩), .agg #[.int .i64 p, .int .u64 i]] w fun e w' => e = .returned (.int .i64 0) ∧ Mem w' bt bs most (n - 1) (Tab.mend home s.length (s.set R none) (Tab.nx s.length R)) ∧ Mod (fun k => k = bt ∨ k = bs) w w' := by
  have hL : 1 ≤ s.length := by obtain ⟨i, hi, _⟩ := hok.room; omega
  have hA : Mem (w.alloc (.cells #[.int .i64 p, .int .u64 i] 29)) bt bs most n s := h.mod ((Mod.refl (fun _ => False) w).alloc _) (fun e => e) (fun e => e)
  have hRl := Tab.at_lt hR
  have hfi := Tab.find_has hok hR
  obtain ⟨q, hq1, hq2, hq3⟩ := hok.mid hR
  have hr := hok.room
  have HF := Lib.hid hfi
  have HA := Lib.hid hR
  have hlt := h.top.lt
  have hls := h.row.lt
  have hneT := hne.symm
  have hsL : (s.set R none).length = s.length := by simp
  have hd0 := hq1
  generalize hfin : Tab.mend home s.length (s.set R none) (Tab.nx s.length R) = Fin
  have HFIN := Lib.hid hfin
  clear hfi hR hok hq2 hq3 hfin
  go_enter Try.func31, Try.ntmps31
  go_wp2_with fail
  refine (hasW _ _ _ _ _ _ _ _ hA hL (by omega) hr).mono ?_
  rintro e w1 ⟨rfl, m1⟩
  rw [HF.out, HA.out]
  simp only [Option.isSome_some]
  have hmem := hA.mod m1 (fun e => e) (fun e => e)
  have htop := hmem.top.cell
  have hft := hmem.top.free
  have hfr := hmem.row.free
  obtain ⟨s0, s1, s2, s3⟩ := hmem.slot hRl
  rw [HA.out] at s0 s1 s2 s3
  simp only [enc, List.getElem?_cons_zero, List.getElem?_cons_succ] at s0 s1 s2 s3
  have m2 : Mod (fun k => k = bt ∨ k = bs) w w1 := (((Mod.refl (fun _ => False) w).alloc _).trans m1 (fun _ _ h => h)).mono (fun _ _ h => h.elim)
  have hwsz := m2.size
  clear m1 hA h hr
  have hm2 := ((hmem.clear hRl hne).count hneT (n - 1))
  have m3 := ((m2.four (b := bs) (fun _ => .inr rfl) (R * 4) (R * 4 + 1) (R * 4 + 2) (R * 4 + 3) (.bool false) (.int .i64 0) (.int .u64 0) (.int .i64 0))).setCell (p := ⟨bt, 1, none⟩) (fun _ => .inl rfl) (.int .i64 (n - 1))
  have HSL := Lib.hid hsL
  clear hsL
  have HQ := Lib.hid hq1
  clear hq1 hd0
  go_wp2_with fail
  clear s0 s1 s2 s3 htop hft hfr
  go_loopw [5] (fun x wr => ∃ (c : Nat) (s1 : List (Option ((Int × Int) × Int))) (f : Nat), x = .int .i64 c ∧ Hid (s1.length = s.length) ∧ Tab.Mid home s1 c q ∧ Tab.dist s.length c q < f ∧ Hid (Tab.mend home f s1 c = Fin) ∧ Mem wr bt bs most (n - 1) s1 ∧ Mod (fun k => k = bt ∨ k = bs) w wr) (fun x _ => Tab.dist s.length (intOf x).toNat q)
  case atStart => exact ⟨Tab.nx s.length R, _, s.length, by rw [nx_val], HSL, HQ.out, by have := HQ.out.q_lt; have := HQ.out.p_lt; rw [HSL.out] at *; unfold Tab.dist; split <;> omega, HFIN, hm2, m3⟩
  case round =>
    obtain ⟨c, s1, f, rfl, hl1, hmid, hdf, hmend, hm, hM⟩ := hrel
    clear hm2 m3 m2 hmem
    have hcl := hmid.p_lt
    have htop := hm.top.cell
    rw [hl1.out] at htop
    obtain ⟨t0, t1, t2, t3⟩ := hm.slot hcl
    rcases hat : Tab.at_ s1 c with _ | ⟨⟨p', i'⟩, x⟩
    · rw [hat] at t0
      simp only [enc, List.getElem?_cons_zero] at t0
      have hfin : s1 = Fin := by
        have := hmend.out
        cases f with
        | zero => omega
        | succ f => rw [Tab.mend, hat] at this; simpa using this
      have HX := Lib.hid hfin
      clear t1 t2 t3 hat hfin hmend hdf
      rw [hl1.out] at hcl
      go_wp2
      go_ret
      exact ⟨rfl, by rw [← HX.out]; exact hm, hM⟩
    · rw [hat] at t0 t1 t2 t3
      simp only [enc, List.getElem?_cons_zero, List.getElem?_cons_succ] at t0 t1 t2 t3
      obtain ⟨k1, k2, k3, k4, k5⟩ := hmid.step hat
      have hagain : Tab.again home s1 c = Tab.put home (s1.set c none) (p', i') x := by unfold Tab.again; rw [hat]
      have hmend2 : ∃ g, f = g + 1 ∧ Tab.mend home g (Tab.again home s1 c) (Tab.nx s.length c) = Fin := by
        have := hmend.out
        cases f with
        | zero => omega
        | succ f => rw [Tab.mend, hat, hl1.out] at this; exact ⟨f, rfl, by simpa using this⟩
      obtain ⟨g, rfl, hmend2⟩ := hmend2
      rw [hl1.out] at k1 k4
      have hR1 : Tab.find home (s1.set c none) (p', i') < (s1.set c none).length := Tab.find_lt (by rw [List.length_set]; exact hmid.home_lt _) (by rw [List.length_set]; exact k5)
      have hR2 : Tab.at_ (s1.set c none) (Tab.find home (s1.set c none) (p', i')) = none := by
        refine (Tab.find_none (by rw [List.length_set]; exact hmid.home_lt _) (by rw [List.length_set]; exact k5) (fun v ⟨j, hj⟩ => ?_)).2.1
        rw [Tab.at_set hcl] at hj
        split at hj
        · cases hj
        · rename_i hcj; exact hcj (hmid.once c j _ _ _ hat hj)
      rw [hagain] at k1 hmend2
      unfold Tab.put at k1 hmend2
      have hroom : ∃ i, i < (s1.set c none).length ∧ Tab.at_ (s1.set c none) i = none := by rw [List.length_set]; exact k5
      generalize hRe : Tab.find home (s1.set c none) (p', i') = r at *
      have HRe := Lib.hid hRe
      have HM := Lib.hid hmend2
      have HK4 := Lib.hid k4
      have hfr := hm.row.free
      have hls1 := hm.row.lt
      have hlt1 := hm.top.lt
      have hcl' : c < s.length := by rw [← hl1.out]; exact hcl
      obtain ⟨wc, hwc⟩ : ∃ wc, wc = (((wr.setCell ⟨bs, c * 4, none⟩ (.bool false)).setCell ⟨bs, c * 4 + 1, none⟩ (.int .i64 0)).setCell ⟨bs, c * 4 + 2, none⟩ (.int .u64 0)).setCell ⟨bs, c * 4 + 3, none⟩ (.int .i64 0) := ⟨_, rfl⟩
      have hwcs : wc.heap.size = wr.heap.size := by rw [hwc]; simp
      have hmc : Mem wc bt bs most (n - 1) (s1.set c none) := by rw [hwc]; exact hm.clear hcl hne
      have hMc : Mod (fun k => k = bt ∨ k = bs) w wc := by rw [hwc]; exact hM.four (fun _ => .inr rfl) _ _ _ _ _ _ _ _
      have HWC := Lib.hid hwc
      clear hwc
      have hbx : wr.heap.size ≠ bs := by omega
      clear hRe hmend2 hmend k4 hat hagain k2 k3 k5
      go_wp2_with fail
      rw [← HWC.out]
      have hxc : Blk (wc.alloc (.cells #[.bool true, .int .i64 p', .int .u64 i', .int .i64 x] 87)) wr.heap.size 87 #[.bool true, .int .i64 p', .int .u64 i', .int .i64 x] := Blk.newAt hwcs _ _
      have hmx := hmc.mod ((Mod.refl (fun _ => False) wc).alloc (.cells #[.bool true, .int .i64 p', .int .u64 i', .int .i64 x] 87)) (fun e => e) (fun e => e)
      have hMx := hMc.alloc (.cells #[.bool true, .int .i64 p', .int .u64 i', .int .i64 x] 87)
      generalize World.alloc wc _ = wx at hxc hmx hMx ⊢
      clear hwcs hmc hMc t0 t1 t2 t3 htop hfr HWC
      have hl2 : (s1.set c none).length = s.length := by rw [List.length_set]; exact hl1.out
      have hf : ∀ (y : Later wx), Calls Try.prog 47 #[.pointer (some ⟨bt, 0, none⟩), .agg #[.int .i64 p', .int .u64 i']] y.world fun e w' => e = .returned (.int .i64 r) ∧ Mod (fun _ => False) y.world w' := fun y => by
        have := findW bt bs most (n - 1) (s1.set c none) p' i' y.world (hmx.later y) (by omega) (by omega) hroom
        rw [HRe.out] at this
        exact this
      have HFD := Lib.hid hf
      clear hf
      have hT := fun (y : Later wx) => (hmx.later y).top.cell
      have hK := fun (y : Later wx) => (hxc.later y).cell
      rw [hl2] at hT hR1
      have hLL := Lib.hid hl2
      clear hl2
      refine region_later_tail 10 (by kernel_rfl) (by kernel_rfl) ?_
      simp only [List.take_succ_cons, List.take_zero, List.drop_succ_cons, List.drop_zero]
      repeat (go_big_quiet_step ((go_at_call 47; exact later_call (HFD.out _))))
      refine wpQuiet_nil ?_
      intro _ hw'
      obtain ⟨y, hw''⟩ := hw'
      subst hw''
      have hfr := (hmx.later y).row.free
      have htop := (hmx.later y).top.cell
      rw [hLL.out] at htop
      obtain ⟨t0, t1, t2, t3⟩ := (hmx.later y).slot (show r < (s1.set c none).length by rw [hLL.out]; exact hR1)
      rw [hR2] at t0 t1 t2 t3
      simp only [enc, List.getElem?_cons_zero, List.getElem?_cons_succ] at t0 t1 t2 t3
      have hmf := (hmx.later y).fill (show r < (s1.set c none).length by rw [hLL.out]; exact hR1) hne p' i' x
      have hMf := (hMx.trans y.mod (fun _ _ h => h.elim)).four (b := bs) (fun _ => .inr rfl) (r * 4) (r * 4 + 1) (r * 4 + 2) (r * 4 + 3) (.bool true) (.int .i64 p') (.int .u64 i') (.int .i64 x)
      clear hT hK
      go_wp2
      go_roundw
      case rel => exact ⟨Tab.nx s.length c, _, g, by rw [← nx_val], (by rw [List.length_set]; exact hLL.out : List.length _ = s.length), k1, by have := HK4.out; omega, HM.out, hmf, hMf⟩
      case measure => simp [intOf]; rw [nx_val, Int.toNat_natCast]; have := HK4.out; omega
end Go.Proofs.Ytkfembhladjhdaa.TabInt
