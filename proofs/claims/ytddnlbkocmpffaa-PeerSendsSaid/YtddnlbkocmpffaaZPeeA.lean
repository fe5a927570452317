/- mizzenlaw20.awake. -/
import Derived.Test.YtddnlbkocmpffaaZSndW
import Derived.Lib.SlBytesConst
namespace Go.Proofs.Ytddnlbkocmpffaa
open Go.RowKit
set_option linter.unusedVariables false
set_option maxHeartbeats 4000000
set_option maxRecDepth 100000
section
variable {rb sb : Nat} {R : RecA} {S : SndA} {w w' : World} {s t : Nat → Prop}
theorem RecO.keep {Z : Nat → Prop} (h : RecO rb R w s) (m : Mod Z w w') (hs : ∀ k, s k → ¬ Z k) : RecO rb R w' s := by
  obtain ⟨ad, h1, h2⟩ := h
  exact ⟨ad, h1.keep m hs, h2⟩
theorem RecO.later (h : RecO rb R w s) (m : Mod NoB w w') : RecO rb R w' s := h.keep m fun _ _ e => e
theorem RecO.up (h : RecO rb R w s) (hst : ∀ k, s k → t k) : RecO rb R w t := by
  obtain ⟨ad, h1, h2⟩ := h
  exact ⟨ad, h1.up hst, h2⟩
theorem RecO.size (h : RecO rb R w s) : RecO rb R w (fun k => s k ∧ k < w.heap.size) := by
  obtain ⟨ad, h1, h2⟩ := h
  obtain ⟨s', h3, h4⟩ := h1.size 0
  exact ⟨ad, h4.up h3, h2⟩
theorem SndO.keep {Z : Nat → Prop} (h : SndO sb S w s) (m : Mod Z w w') (hs : ∀ k, s k → ¬ Z k) : SndO sb S w' s := by
  obtain ⟨ad, h1, h2⟩ := h
  exact ⟨ad, h1.keep m hs, h2⟩
theorem SndO.later (h : SndO sb S w s) (m : Mod NoB w w') : SndO sb S w' s := h.keep m fun _ _ e => e
theorem SndO.up (h : SndO sb S w s) (hst : ∀ k, s k → t k) : SndO sb S w t := by
  obtain ⟨ad, h1, h2⟩ := h
  exact ⟨ad, h1.up hst, h2⟩
theorem SndO.size (h : SndO sb S w s) : SndO sb S w (fun k => s k ∧ k < w.heap.size) := by
  obtain ⟨ad, h1, h2⟩ := h
  obtain ⟨s', h3, h4⟩ := h1.size
  exact ⟨ad, h4.up h3, h2⟩
end
/-- A literal of bytes. -/
theorem lit_has (w : World) (cs : List Int) (m : Nat × Nat) : Has (w.alloc (.cells (cs.map (Value.int .u8)).toArray 5 m)) (w.alloc (.cells (cs.map (Value.int .u8)).toArray 5 m)).heap.size 1 encB (.slice (some ⟨w.heap.size, 0, none⟩) cs.length cs.length) cs := by
  have hsz : (w.alloc (.cells (cs.map (Value.int .u8)).toArray 5 m)).heap.size = w.heap.size + 1 := by simp
  refine ⟨some ⟨w.heap.size, 0, none⟩, cs.length, rfl, Nat.le_refl _, (fun e => by cases e), ⟨flat_len encB_len cs, fun hn => ⟨⟨w.heap.size, 0, none⟩, rfl, by rw [hsz]; exact Nat.lt_succ_self _, fun j u hu => ?_⟩⟩, fun g e hn => ?_⟩
  · rw [flat_B] at hu
    have hb : (w.alloc (.cells (cs.map (Value.int .u8)).toArray 5 m)).heap[w.heap.size]? = some (.cells (cs.map (Value.int .u8)).toArray 5 m) := heap_alloc_new w _
    rw [Go.WideShapes.add_plain, Nat.zero_add]
    simp only [World.cell?, hb]
    simpa using hu
  · obtain rfl := Option.some.inj e
    exact ⟨rfl, by rw [hsz]; exact Nat.lt_succ_self _⟩
def awR : RecA := ((newRec 2 10).data 3 1 1 0 [97]).1
theorem awR_ok : RecOk awR := (newRec_ok (by omega)).data (by omega) (by omega) (by omega) (fun x hx => by simp at hx; omega) (by simp)
theorem aw1 : (newRec 2 10).data 3 1 1 0 [97] = (awR, 1, true, 0) := by
  have : ((newRec 2 10).data 3 1 1 0 [97]).2 = (1, true, 0) := by kernel_rfl
  exact Prod.ext rfl this
theorem aw2 : awR.data 3 1 1 0 [98] = (awR, 0, true, 0) := by
  have : winIs (awR.win 3).1 (awR.win 3).2 1 = true := by kernel_rfl
  unfold RecA.data
  rw [if_pos this]
theorem aw3 : awR.out = [(3, 1, [97])] := by kernel_rfl
theorem awakeW (w : World) : Calls Try.prog 7 #[] w fun e w' => e = .returned (.bool true) ∧ Mod NoB w w' := by
  have kc := fun (w : World) (C : Array Value) (n c : Nat) => Lib.run_convert_bytes_const (P := Try.prog) w 30 5 C n c Try.underlying30 Try.underlying5
  have HNS := Lib.hid (newSndW 1 10 5 w (by unfold sndMay; omega))
  go_enter Try.func7, Try.ntmps7
  go_wp2_with fail
  refine HNS.out.mono ?_
  rintro e w2 ⟨sb, rfl, hs2, m2⟩
  have HS2 := Lib.hid hs2
  have HM2 := Lib.hid m2
  clear hs2 m2
  go_wp2_with fail
  refine (newRecW 2 10 w2 (by omega)).mono ?_
  rintro e w3 ⟨rb, rfl, hr3, m3⟩
  have HR3 := Lib.hid hr3
  have HM3 := Lib.hid m3
  clear hr3 m3
  go_wp2_with fail
  have ha := (Mod.refl NoB w3).alloc (.cells #[.int .u8 97] 5 (1, 2))
  have hz3 : (w3.alloc (.cells #[.int .u8 97] 5 (1, 2))).heap.size = w3.heap.size + 1 := by simp
  have hsub : Calls Try.prog 16 #[.pointer (some ⟨sb, 0, none⟩), .int .i64 1, .slice (some ⟨w3.heap.size, 0, none⟩) 1 1] (w3.alloc (.cells #[.int .u8 97] 5 (1, 2))) fun e w' => e = .returned (.tuple #[.int .u64 1, .int .i64 0]) ∧ SndO sb ((newSnd 1 10 5).submit 1 [97]) w' (Ext (Ext NoB w w2) (w3.alloc (.cells #[.int .u8 97] 5 (1, 2))) w') ∧ Mod (Ext NoB w w2) (w3.alloc (.cells #[.int .u8 97] 5 (1, 2))) w' := by
    obtain ⟨ad, hx, hl⟩ := (HS2.out.later HM3.out).later ha
    exact submitW0 hx hl 1 [97] _ (lit_has w3 [97] (1, 2)) (fun _ k hk e => by
      have : w3.heap.size = k := Option.some.inj hk
      have := HM3.out.size
      rcases e with e | ⟨-, e⟩
      · exact e
      · omega) (by omega) (by show ¬ (10 : Int) < 1; omega) (by show (10 : Int) ≤ 20000; omega) (by show ¬ (1 : Int) ≤ 0; omega) (by show (1 : Int) ≤ 10000; omega) (by show (0 : Int) < 5; omega) (by show (0 : Int) ≤ 0; omega) (by show (5 : Int) ≤ _; omega)
  have HSUB := Lib.hid hsub
  have HA := Lib.hid ha
  have HZ3 := Lib.hid hz3
  clear ha hz3 hsub
  go_wp2_with fail
  refine HSUB.out.mono ?_
  rintro e w4 ⟨rfl, hs4, m4⟩
  have HS4 := Lib.hid hs4
  have HM4 := Lib.hid m4
  clear hs4 m4
  go_wp2_with fail
  have hful : Calls Try.prog 16 #[.pointer (some ⟨sb, 0, none⟩), .int .i64 1, .slice none 0 0] w4 fun e w' => e = .returned (.tuple #[.int .u64 0, .int .i64 4]) ∧ Mod NoB w4 w' := by
    obtain ⟨ad, hx, hl⟩ := HS4.out
    exact submitFull hx hl 1 none 0 0 (by omega) (by show ¬ (10 : Int) < 0; omega) (by show (1 : Int) ≤ 1; omega)
  refine hful.mono ?_
  rintro e w5 ⟨rfl, m5⟩
  have HM5 := Lib.hid m5
  clear hful m5
  have hr5 : RecO rb (newRec 2 10) w5 (Ext NoB w2 w3) := ((HR3.out.later HA.out).keep HM4.out (fun k hk e => by
    rcases hk with hk | ⟨a, b⟩
    · exact hk
    · rcases e with e | ⟨-, e⟩
      · exact e
      · omega)).later HM5.out
  have HR5 := Lib.hid hr5
  have hw5 : Mod NoB w w5 := (((HM2.out.trans HM3.out (fun _ _ e => e)).trans HA.out (fun _ _ e => e)).trans HM4.out (fun k hk e => by
    rcases e with e | ⟨e, -⟩
    · exact e
    · omega)).trans HM5.out (fun _ _ e => e)
  have HW5 := Lib.hid hw5
  have hz35 : w3.heap.size ≤ w5.heap.size := Nat.le_trans (Nat.le_of_lt (by rw [← Nat.succ_le_iff, ← Nat.add_one, ← HZ3.out]; exact Nat.le_refl _)) (Nat.le_trans HM4.out.size HM5.out.size)
  have HZ35 := Lib.hid hz35
  clear hr5 hw5 hz35
  go_wp2_with fail
  have ha6 := (Mod.refl NoB w5).alloc (.cells #[.int .u8 97] 5 (1, 2))
  have hz6 : (w5.alloc (.cells #[.int .u8 97] 5 (1, 2))).heap.size = w5.heap.size + 1 := by simp
  have hd6 := dataW (HR5.out.later ha6) (newRec_ok (by omega)) 3 (by omega) 1 (by omega) (by omega) 1 0 [97] _ (lit_has w5 [97] (1, 2)) (by simp) (by omega) (fun _ k hk e => by
    have h1 : w5.heap.size = k := Option.some.inj hk
    have := HZ35.out
    rcases e with e | ⟨-, e⟩
    · exact e
    · omega) (fun x hx => by simp at hx; omega) (by show (0 : Nat) ≤ _; omega)
  rw [aw1] at hd6
  have HD6 := Lib.hid hd6
  have HA6 := Lib.hid ha6
  have HZ6 := Lib.hid hz6
  clear ha6 hz6 hd6
  refine HD6.out.mono ?_
  rintro e w7 ⟨rfl, hr7, m7⟩
  have HR7 := Lib.hid hr7
  have HM7 := Lib.hid m7
  dsimp only
  clear hr7 m7
  go_wp2_with fail
  have ha8 := (Mod.refl NoB w7).alloc (.cells #[.int .u8 98] 5 (1, 2))
  have hd8 := dataW (HR7.out.size.later ha8) awR_ok 3 (by omega) 1 (by omega) (by omega) 1 0 [98] _ (lit_has w7 [98] (1, 2)) (by simp) (by omega) (fun _ k hk e => by
    have h1 : w7.heap.size = k := Option.some.inj hk
    have := e.2
    omega) (fun x hx => by simp at hx; omega) (by rw [aw3]; simp)
  rw [aw2] at hd8
  have HD8 := Lib.hid hd8
  have HA8 := Lib.hid ha8
  clear ha8 hd8
  refine HD8.out.mono ?_
  rintro e w9 ⟨rfl, hr9, m9⟩
  have HR9 := Lib.hid hr9
  have HM9 := Lib.hid m9
  dsimp only
  clear hr9 m9
  go_wp2_with fail
  refine (pollW HR9.out 3 1 [97] [] aw3 (by rw [aw3]; simp)).mono ?_
  rintro e w10 ⟨dv, rfl, ho10, -, -, m10⟩
  have HO10 := Lib.hid ho10
  have HM10 := Lib.hid m10
  obtain ⟨A10, c10, rfl, -, -⟩ := ho10.form
  have HCV := (show (convert 30 9 (.slice A10 1 c10)).run Try.prog (w10.alloc (.cells #[.int .i64 3, .int .u64 1, .slice A10 1 c10] 33)) = .ok (.string ⟨#[97]⟩) (w10.alloc (.cells #[.int .i64 3, .int .u64 1, .slice A10 1 c10] 33)) from
    run_string_has Try.underlying30 Try.underlying5 Try.underlying9 (ho10.mod ((Mod.refl NoB w10).alloc _) (fun _ _ e => e)).has)
  clear ho10 m10
  go_wp2_with fail
  go_ret
  refine ⟨rfl, ?_⟩
  have h9 : Mod NoB w w9 := (((((HW5.out.trans HA6.out (fun _ _ e => e)).trans HM7.out (fun k hk e => by
    have := HM2.out.size
    rcases e with e | ⟨e, -⟩
    · exact e
    · omega)).trans HA8.out (fun _ _ e => e))).trans HM9.out (fun k hk e => by
    have := HM2.out.size
    have := HW5.out.size
    have := HA6.out.size
    rcases e with ⟨(e | ⟨e, -⟩) | ⟨e, -⟩, -⟩
    · exact e
    · omega
    · omega))
  have h10 : Mod NoB w w10 := h9.trans HM10.out (fun k hk e => by
    have := HM2.out.size
    have := HW5.out.size
    have := HA6.out.size
    have := HM7.out.size
    have := HA8.out.size
    rcases e with ⟨(e | ⟨e, -⟩) | ⟨e, -⟩, -⟩ | ⟨e, -⟩
    · exact e
    · omega
    · omega
    · omega)
  exact h10.alloc _
end Go.Proofs.Ytddnlbkocmpffaa
