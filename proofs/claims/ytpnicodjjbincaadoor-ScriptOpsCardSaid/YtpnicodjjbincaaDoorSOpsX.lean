/- The walk of ScriptOps, whatever op and whatever text come in. -/
import Derived.Test.YtpnicodjjbincaaDoorSOpE
import Derived.Test.YtpnicodjjbincaaDoorSSamW
import Derived.Test.YtpnicodjjbincaaDoorSPrsR
namespace Go.Proofs.YtpnicodjjbincaaDoor
open Go.RowKit
set_option linter.unusedVariables false
set_option maxHeartbeats 8000000
set_option maxRecDepth 100000
/-- An op that came in. -/
def InO (w : World) (v : Value) (o : OpT) : Prop := ∃ dv, v = .agg (opV o dv) ∧ Has w w.heap.size 1 encB dv o.data
theorem open_scriptOps_o {H : Type} {enc : TypeId × Value → H} {w : World} {v : Value} {d : DataW H} {p : List MemPlace}
    (hv : Value.okWide Tryd.prog w .any 0 24 v) (h : DataW.Trod enc Tryd.prog w 0 (fun _ => true) true 24 v d p) : ∃ o : OpT, InO w v o := by
  obtain ⟨o, dv, e, hh⟩ := open_op hv h
  exact ⟨o, dv, e, hh⟩
theorem fillR_len (N : Nat) : ∀ (f : Tx) (o : OpT) (ws : List Tx), o.data.length ≤ N → (∀ t ∈ ws, t.length ≤ N) → (fillR o f ws).data.length ≤ N
  | [], o, ws, h, _ => by cases ws <;> exact h
  | _ :: _, o, [], h, _ => h
  | c :: f, o, w :: r, h, hw => by
    show (fillR (fill1R o c w) f r).data.length ≤ N
    refine fillR_len N f _ r ?_ fun t ht => hw t (List.mem_cons_of_mem _ ht)
    unfold fill1R
    split
    · exact h
    · split
      · exact h
      · split
        · exact h
        · have h1 := unhexR_len w
          have h2 := hw w (List.mem_cons_self ..)
          show (unhexR w).length ≤ N
          omega
theorem refO_len (s : Tx) : (refO s).data.length ≤ s.length := by
  unfold refO
  refine fillR_len _ _ _ _ (Nat.zero_le _) fun t ht => ?_
  rcases List.mem_append.1 ht with h | h
  · exact wordsT_bound 32 s t (List.mem_of_mem_tail h)
  · simp at h
    rw [h]
    exact Nat.zero_le _
theorem parP_len (s : Tx) : (parP s).1.data.length ≤ s.length ∧ ((parP s).2 = 0 ∨ (parP s).2 = 2) := by
  rw [par_ref]
  unfold refP
  split
  · exact ⟨Nat.zero_le _, .inr rfl⟩
  · exact ⟨refO_len s, .inl rfl⟩
theorem walk_ops (o : OpT) (dv : Value) (s : ByteArray) (w : World) (E : Env w) (hd : Has w w.heap.size 1 encB dv o.data) :
    Calls Tryd.prog 3 #[.agg (opV o dv), .string s] w fun e w' => e = .returned (.bool true) ∧ Mod (fun _ => False) w w' := by
  obtain ⟨A, cap, rfl, hcap⟩ := hd.form
  have HE := Lib.hid E
  have HD := Lib.hid hd
  have HB := Lib.hid (Blk.new w 24 (opV o (.slice A o.data.length cap)))
  have HM1 := Lib.hid ((Mod.refl (fun _ => False) w).alloc (.cells (opV o (.slice A o.data.length cap)) 24))
  clear E hd
  by_cases hlong : 2000 < o.data.length
  · have hlz : (2000 : Int) < (o.data.length : Int) := by omega
    have hlz' : decide ((2000 : Int) < (o.data.length : Int)) = true := by simpa using hlz
    have HAW := Lib.hid (awakeW _ (HE.out.later HM1.out))
    unfold opV at *
    go_enter Tryd.func3, Tryd.ntmps3
    go_wp2_with fail
    refine HAW.out.mono ?_
    rintro e w2 ⟨rfl, m2⟩
    have HM2 := Lib.hid (HM1.out.trans m2 (fun _ _ e => e))
    clear m2
    go_wp2_with fail
    go_ret
    exact ⟨rfl, HM2.out⟩
  · have hlz : ¬ (2000 : Int) < (o.data.length : Int) := by omega
    have hlz' : decide ((2000 : Int) < (o.data.length : Int)) = false := by simpa using hlz
    by_cases hlong2 : 2000 < s.size
    · have hsz : (2000 : Int) < (s.size : Int) := by omega
      have hsz' : decide ((2000 : Int) < (s.size : Int)) = true := by simpa using hsz
      have HAW := Lib.hid (awakeW _ (HE.out.later HM1.out))
      unfold opV at *
      go_enter Tryd.func3, Tryd.ntmps3
      go_wp2_with fail
      refine HAW.out.mono ?_
      rintro e w2 ⟨rfl, m2⟩
      have HM2 := Lib.hid (HM1.out.trans m2 (fun _ _ e => e))
      clear m2
      go_wp2_with fail
      go_ret
      exact ⟨rfl, HM2.out⟩
    · have hsz : ¬ (2000 : Int) < (s.size : Int) := by omega
      have hsz' : decide ((2000 : Int) < (s.size : Int)) = false := by simpa using hsz
      obtain ⟨tx, rfl⟩ : ∃ tx, s = tb tx := ⟨s.data.toList, (tb_of s).symm⟩
      have htl : tx.length ≤ 2000 := by rw [tb_size] at hlong2; omega
      have hpl := parP_len tx
      have hq1 := parseW (tb tx) (by rw [tb_size]; omega) _ (HE.out.later HM1.out)
      rw [tb_data] at hq1
      have hq2 := fun w => parseRW (tb tx) (by rw [tb_size]; omega) w
      simp only [tb_data, ← par_ref] at hq2
      generalize hP : parP tx = P at *
      clear hP
      obtain ⟨p, er⟩ := P
      simp only at hq1 hq2 hpl
      obtain ⟨hpl, her⟩ := hpl
      have hmade := madeW o A o.data.length cap
      unfold opV at hmade HB HM1 hq1 hq2
      have HMD := Lib.hid hmade
      have HQ1 := Lib.hid hq1
      have HQ2 := Lib.hid hq2
      have hbo := HB.out.lt
      clear hmade hq1 hq2
      unfold opV
      go_enter Tryd.func3, Tryd.ntmps3
      go_wp2_with fail
      generalize w.alloc (.cells #[.int .i64 o.kind, .int .i64 o.a, .int .i64 o.b, .int .i64 o.n, .slice A o.data.length cap] 24) = w1 at *
      generalize hbo' : w.heap.size = bo at *
      refine HQ1.out.mono ?_
      rintro e w2 ⟨⟨dv2, rfl, hh2⟩, m2⟩
      obtain ⟨A2, c2, rfl, hcap2⟩ := hh2.form
      have hm3 := m2.alloc (.cells #[.int .i64 p.kind, .int .i64 p.a, .int .i64 p.b, .int .i64 p.n, .slice A2 p.data.length c2] 26)
      have HB3 := Lib.hid (HB.out.mod hm3 (fun e => e))
      have HP3 := Lib.hid (Blk.new w2 26 #[.int .i64 p.kind, .int .i64 p.a, .int .i64 p.b, .int .i64 p.n, .slice A2 p.data.length c2])
      have HH3 := Lib.hid (hh2.later ((Mod.refl (fun _ => False) w2).alloc (.cells #[.int .i64 p.kind, .int .i64 p.a, .int .i64 p.b, .int .i64 p.n, .slice A2 p.data.length c2] 26)) (Nat.le_refl _))
      have HM3 := Lib.hid (HM1.out.trans hm3 (fun _ _ e => e))
      have hs2 := m2.size
      clear m2 hm3 hh2
      go_wp2_with fail
      have hs3 : (w2.alloc (.cells #[.int .i64 p.kind, .int .i64 p.a, .int .i64 p.b, .int .i64 p.n, .slice A2 p.data.length c2] 26)).heap.size = w2.heap.size + 1 := by simp
      generalize w2.alloc (.cells #[.int .i64 p.kind, .int .i64 p.a, .int .i64 p.b, .int .i64 p.n, .slice A2 p.data.length c2] 26) = w3 at *
      generalize w2.heap.size = ba at *
      have HS3 := Lib.hid hs3
      clear hs3
      refine (HQ2.out w3).mono ?_
      rintro e w4 ⟨⟨dv4, rfl, hh4⟩, m4⟩
      obtain ⟨A4, c4, rfl, hcap4⟩ := hh4.form
      have hm5 := m4.alloc (.cells #[.int .i64 p.kind, .int .i64 p.a, .int .i64 p.b, .int .i64 p.n, .slice A4 p.data.length c4] 24)
      have HB5 := Lib.hid (HB3.out.mod hm5 (fun e => e))
      have HP5 := Lib.hid (HP3.out.mod hm5 (fun e => e))
      have HR5 := Lib.hid (Blk.new w4 24 #[.int .i64 p.kind, .int .i64 p.a, .int .i64 p.b, .int .i64 p.n, .slice A4 p.data.length c4])
      have hs4 := m4.size
      have HH5 := Lib.hid (HH3.out.later hm5 (by have := HS3.out; omega))
      have HK5 := Lib.hid (hh4.later ((Mod.refl (fun _ => False) w4).alloc (.cells #[.int .i64 p.kind, .int .i64 p.a, .int .i64 p.b, .int .i64 p.n, .slice A4 p.data.length c4] 24)) (Nat.le_refl _))
      have HM5 := Lib.hid (HM3.out.trans hm5 (fun _ _ e => e))
      clear m4 hm5 hh4
      go_upto_region 5 with fail
      have hs5 : (w4.alloc (.cells #[.int .i64 p.kind, .int .i64 p.a, .int .i64 p.b, .int .i64 p.n, .slice A4 p.data.length c4] 24)).heap.size = w4.heap.size + 1 := by simp
      generalize w4.alloc (.cells #[.int .i64 p.kind, .int .i64 p.a, .int .i64 p.b, .int .i64 p.n, .slice A4 p.data.length c4] 24) = w5 at *
      generalize w4.heap.size = bb at *
      have HS5 := Lib.hid hs5
      clear hs5
      have lo0 : ∀ y : Later w5, y.world.cell? ⟨bo, 0, none⟩ = some (.int .i64 o.kind) := fun y => (HB5.out.later y).cell 0
      have lo1 : ∀ y : Later w5, y.world.cell? ⟨bo, 1, none⟩ = some (.int .i64 o.a) := fun y => (HB5.out.later y).cell 1
      have lo2 : ∀ y : Later w5, y.world.cell? ⟨bo, 2, none⟩ = some (.int .i64 o.b) := fun y => (HB5.out.later y).cell 2
      have lo3 : ∀ y : Later w5, y.world.cell? ⟨bo, 3, none⟩ = some (.int .i64 o.n) := fun y => (HB5.out.later y).cell 3
      have lo4 : ∀ y : Later w5, y.world.cell? ⟨bo, 4, none⟩ = some (.slice A o.data.length cap) := fun y => (HB5.out.later y).cell 4
      have lp0 : ∀ y : Later w5, y.world.cell? ⟨ba, 0, none⟩ = some (.int .i64 p.kind) := fun y => (HP5.out.later y).cell 0
      have lp1 : ∀ y : Later w5, y.world.cell? ⟨ba, 1, none⟩ = some (.int .i64 p.a) := fun y => (HP5.out.later y).cell 1
      have lp2 : ∀ y : Later w5, y.world.cell? ⟨ba, 2, none⟩ = some (.int .i64 p.b) := fun y => (HP5.out.later y).cell 2
      have lp3 : ∀ y : Later w5, y.world.cell? ⟨ba, 3, none⟩ = some (.int .i64 p.n) := fun y => (HP5.out.later y).cell 3
      have lp4 : ∀ y : Later w5, y.world.cell? ⟨ba, 4, none⟩ = some (.slice A2 p.data.length c2) := fun y => (HP5.out.later y).cell 4
      have lr0 : ∀ y : Later w5, y.world.cell? ⟨bb, 0, none⟩ = some (.int .i64 p.kind) := fun y => (HR5.out.later y).cell 0
      have lr1 : ∀ y : Later w5, y.world.cell? ⟨bb, 1, none⟩ = some (.int .i64 p.a) := fun y => (HR5.out.later y).cell 1
      have lr2 : ∀ y : Later w5, y.world.cell? ⟨bb, 2, none⟩ = some (.int .i64 p.b) := fun y => (HR5.out.later y).cell 2
      have lr3 : ∀ y : Later w5, y.world.cell? ⟨bb, 3, none⟩ = some (.int .i64 p.n) := fun y => (HR5.out.later y).cell 3
      have lr4 : ∀ y : Later w5, y.world.cell? ⟨bb, 4, none⟩ = some (.slice A4 p.data.length c4) := fun y => (HR5.out.later y).cell 4
      have hw5 := HM5.out.size
      have htx := fun y : Later w5 => textW o (.slice A o.data.length cap) y.world ((HD.out.later (HM5.out.trans y.mod (fun _ _ e => e)) (Nat.le_of_eq hbo'.symm)).more (by have := (HM5.out.trans y.mod (fun _ _ e => e)).size; omega)) (by omega) (HE.out.later (HM5.out.trans y.mod (fun _ _ e => e))).pow
      have htr := fun y : Later w5 => textRW o (.slice A o.data.length cap) y.world ((HD.out.later (HM5.out.trans y.mod (fun _ _ e => e)) (Nat.le_of_eq hbo'.symm)).more (by have := (HM5.out.trans y.mod (fun _ _ e => e)).size; omega)) (by omega)
      have hfl := fun y : Later w5 => flatW p A2 p.data.length c2 y.world
      have hso := fun y : Later w5 => sameOpW p (.slice A2 p.data.length c2) (.slice A4 p.data.length c4) y.world ((HH5.out.later y.mod (by have := HS5.out; have := HS3.out; omega)).more (by have := HS5.out; have := HS3.out; have := y.mod.size; omega)) ((HK5.out.later y.mod (by have := HS5.out; omega)).more (by have := HS5.out; have := y.mod.size; omega))
      have haw := fun y : Later w5 => awakeW y.world (HE.out.later (HM5.out.trans y.mod (fun _ _ e => e)))
      unfold opV at htx htr hfl hso
      have C1 := Lib.hid htx
      have C2 := Lib.hid htr
      have C3 := Lib.hid hfl
      have C4 := Lib.hid hso
      have C5 := Lib.hid haw
      clear htx htr hfl hso haw
      refine region_later (by kernel_rfl) (by kernel_rfl) ?_
      repeat (go_big_quiet_step (first
        | (go_at_call 11; exact later_call (HMD.out _))
        | (go_at_call 10; exact later_call (C1.out _))
        | (go_at_call 12; exact later_call (C2.out _))
        | (go_at_call 14; exact later_call (C3.out _))
        | (go_at_call 13; exact later_call (C4.out _))
        | (go_at_call 7; exact later_call (C5.out _))))
      refine wpQuiet_nil ?_
      intro _ hw'
      obtain ⟨y, hw''⟩ := hw'
      subst hw''
      have HMY := Lib.hid (HM5.out.trans y.mod (fun _ _ e => e))
      clear lo0 lo1 lo2 lo3 lo4 lp0 lp1 lp2 lp3 lp4 lr0 lr1 lr2 lr3 lr4
      go_wp2_with fail
      go_ret
      exact ⟨rfl, HMY.out⟩
theorem walk_scriptOps {v : Value} (w : World) (E : Env w) (o : OpT) (h : InO w v o) (s : ByteArray) {X : Prop} (_ : X) : Calls Tryd.prog 3 #[v, .string s] w fun e w' => e = .returned (.bool true) ∧ Below w.heap.size w w' := by
  obtain ⟨dv, rfl, hh⟩ := h
  exact (walk_ops o dv s w E hh).mono fun e w' ⟨he, hm⟩ => ⟨he, hm.below⟩
end Go.Proofs.YtpnicodjjbincaaDoor
