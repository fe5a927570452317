/- The walk of SrptAsks. -/
import Derived.Test.YtpcgfejdeanenaaSrJ
import Derived.Test.YtpcgfejdeanenaaSrW
import Derived.Test.YtpcgfejdeanenaaSrL
import Derived.Deep.RegionHeld3
namespace Go.Proofs.Ytpcgfejdeanenaa
open Go.ChangeShapes Go.WideShapes Go.RowKit
set_option linter.unusedVariables false
set_option maxHeartbeats 8000000
set_option maxRecDepth 100000
attribute [local go_sem ↓] Go.wp_at_zero Go.wp_at_succ
instance (k budget share : Int) : Decidable (askG k budget share) := by unfold askG; infer_instance
/-- What is answered: the grants, and the error's number. -/
def ansG (ms : List Ms) (k budget share : Int) : List Gr := if askG k budget share then grantsL ms k budget share else []
def errG (k budget share : Int) : Int := if askG k budget share then 0 else 1
theorem grantsAllW (v : Value) (ms : List Ms) (k budget share : Int) (w : World) (h : Has w w.heap.size 6 encM v ms) (hl : ms.length ≤ 10000) :
    Calls Try.prog 9 #[v, .int .i64 k, .int .i64 budget, .int .i64 share] w fun e w' => ∃ v', e = .returned (.tuple #[v', .int .i64 (errG k budget share)]) ∧ Own w' w.heap.size 35 4 encG v' (ansG ms k budget share) ∧ Mod (fun _ => False) w w' := by
  unfold ansG errG
  by_cases ha : askG k budget share
  · rw [if_pos ha, if_pos ha]
    obtain ⟨a, b, c, d, e, f⟩ := ha
    exact grantsW v ms k budget share w h hl a b c d e f
  · rw [if_neg ha, if_neg ha]
    refine (grantsNo v k budget share w ha).mono ?_
    rintro e w' ⟨rfl, rfl⟩
    exact ⟨_, rfl, Own.nil, Mod.refl _ _⟩
theorem refGrantsAllW (v : Value) (ms : List Ms) (k budget share : Int) (w : World) (h : Has w w.heap.size 6 encM v ms) (hl : ms.length ≤ 10000) :
    Calls Try.prog 10 #[v, .int .i64 k, .int .i64 budget, .int .i64 share] w fun e w' => ∃ v', e = .returned (.tuple #[v', .int .i64 (errG k budget share)]) ∧ Own w' w.heap.size 36 4 encG v' (ansG ms k budget share) ∧ Mod (fun _ => False) w w' := by
  unfold ansG errG
  by_cases ha : askG k budget share
  · rw [if_pos ha, if_pos ha]
    obtain ⟨a, b, c, d, e, f⟩ := ha
    exact refGrantsW v ms k budget share w h hl a b c d e f
  · rw [if_neg ha, if_neg ha]
    refine (refGrantsNo v k budget share w ha).mono ?_
    rintro e w' ⟨rfl, rfl⟩
    exact ⟨_, rfl, Own.nil, Mod.refl _ _⟩
theorem grants_len (ms : List Ms) (k budget share : Int) : (grantsL ms k budget share).length ≤ k.toNat + 1 := by
  have h1 := stepsG_len ms (budget / k) (firstK ms k) (shareG ms budget share)
  have h2 := shareG_len ms budget share
  have h3 : (firstK ms k).length ≤ k.toNat := by unfold firstK; rw [List.length_take]; omega
  unfold grantsL endG
  rw [List.length_map]
  omega
theorem ans_len (ms : List Ms) (k budget share : Int) : (ansG ms k budget share).length ≤ 9 := by
  unfold ansG
  split
  · rename_i h
    have := grants_len ms k budget share
    obtain ⟨_, h2, _⟩ := h
    omega
  · simp
theorem kept {w w' : World} {p : Addr} {u : Value} (m : Mod (fun _ => False) w w') (h : w.cell? p = some u) : w'.cell? p = some u := by
  rw [m.cell (World.block_lt_of_cell? _ _ h) (fun e => e)]
  exact h
theorem keep13 {a w w' : World} {p1 p2 p3 p4 p5 p6 p7 p8 p9 p10 p11 p12 : Addr} {u1 u2 u3 u4 u5 u6 u7 u8 u9 u10 u11 u12 : Value} (m : Mod (fun _ => False) w w')
    (h : Mod (fun _ => False) a w ∧ w.cell? p1 = some u1 ∧ w.cell? p2 = some u2 ∧ w.cell? p3 = some u3 ∧ w.cell? p4 = some u4 ∧ w.cell? p5 = some u5 ∧ w.cell? p6 = some u6 ∧ w.cell? p7 = some u7 ∧ w.cell? p8 = some u8 ∧ w.cell? p9 = some u9 ∧ w.cell? p10 = some u10 ∧ w.cell? p11 = some u11 ∧ w.cell? p12 = some u12) :
    Mod (fun _ => False) a w' ∧ w'.cell? p1 = some u1 ∧ w'.cell? p2 = some u2 ∧ w'.cell? p3 = some u3 ∧ w'.cell? p4 = some u4 ∧ w'.cell? p5 = some u5 ∧ w'.cell? p6 = some u6 ∧ w'.cell? p7 = some u7 ∧ w'.cell? p8 = some u8 ∧ w'.cell? p9 = some u9 ∧ w'.cell? p10 = some u10 ∧ w'.cell? p11 = some u11 ∧ w'.cell? p12 = some u12 := by
  obtain ⟨h0, h1, h2, h3, h4, h5, h6, h7, h8, h9, h10, h11, h12⟩ := h
  exact ⟨h0.trans m (fun _ _ e => e), kept m h1, kept m h2, kept m h3, kept m h4, kept m h5, kept m h6, kept m h7, kept m h8, kept m h9, kept m h10, kept m h11, kept m h12⟩
theorem mod13 {a w : World} {p1 p2 p3 p4 p5 p6 p7 p8 p9 p10 p11 p12 : Addr} {u1 u2 u3 u4 u5 u6 u7 u8 u9 u10 u11 u12 : Value}
    (h : Mod (fun _ => False) a w ∧ w.cell? p1 = some u1 ∧ w.cell? p2 = some u2 ∧ w.cell? p3 = some u3 ∧ w.cell? p4 = some u4 ∧ w.cell? p5 = some u5 ∧ w.cell? p6 = some u6 ∧ w.cell? p7 = some u7 ∧ w.cell? p8 = some u8 ∧ w.cell? p9 = some u9 ∧ w.cell? p10 = some u10 ∧ w.cell? p11 = some u11 ∧ w.cell? p12 = some u12) : Mod (fun _ => False) a w := h.1
theorem Own.cells4 {w : World} {B : Nat} {T : TypeId} {v : Value} {gs : List Gr} (h : Own w B T 4 encG v gs) {i : Nat} {x : Gr} (hi : gs[i]? = some x) :
    ∃ g cap, v = .slice (some ⟨g, 0, none⟩) gs.length cap ∧ w.cell? ⟨g, i * 4, none⟩ = some (.int .i64 x.peer) ∧ w.cell? ⟨g, i * 4 + 1, none⟩ = some (.int .u64 x.id) ∧ w.cell? ⟨g, i * 4 + 2, none⟩ = some (.int .i64 x.upto) ∧ w.cell? ⟨g, i * 4 + 3, none⟩ = some (.int .i64 x.prio) := by
  have hlt := (List.getElem?_eq_some_iff.1 hi).1
  obtain ⟨g, cap, rfl, -, hg, hgl⟩ := h.form1 (by omega)
  exact ⟨g, cap, rfl, h.cell encG_len hi (j := 0) (by omega), h.cell encG_len hi (j := 1) (by omega), h.cell encG_len hi (j := 2) (by omega), h.cell encG_len hi (j := 3) (by omega)⟩
theorem walk_asks (v : Value) (ms : List Ms) (k budget share : Int) (w : World) (h : Has w w.heap.size 6 encM v ms) (hl : ms.length ≤ 60) :
    Calls Try.prog 3 #[v, .int .i64 k, .int .i64 budget, .int .i64 share] w fun e w' => e = .returned (.bool true) ∧ Mod (fun _ => False) w w' := by
  have hmade := madeW v ms w h (by omega)
  obtain ⟨A, cap, rfl, hcap⟩ := h.form
  have hl0 : ¬ (60 : Int) < (ms.length : Int) := by omega
  have HMADE := Lib.hid hmade
  have HH := Lib.hid h
  clear h hmade
  generalize hn : ms.length = n at *
  have HN := Lib.hid hn
  clear hn
  go_enter Try.func3, Try.ntmps3
  go_wp2_with fail
  refine HMADE.out.mono ?_
  rintro e w1 ⟨v1, rfl, hown1, m1⟩
  have hg1 := grantsAllW v1 ms k budget share w1 hown1.has (by rw [HN.out]; omega)
  have HG1 := Lib.hid hg1
  have HO1 := Lib.hid hown1
  have HM1 := Lib.hid m1
  clear hg1 hown1 m1 HMADE
  go_wp2_with fail
  refine HG1.out.mono ?_
  rintro e w2 ⟨v2, rfl, hown2, m2⟩
  have M2 := Lib.hid (HM1.out.trans m2 (fun _ _ e => e))
  have hg2 := refGrantsAllW (.slice A n cap) ms k budget share w2 ((HH.out.later M2.out (Nat.le_refl _)).more M2.out.size) (by rw [HN.out]; omega)
  have HG2 := Lib.hid hg2
  have HO2 := Lib.hid hown2
  have HX2 := Lib.hid (HO1.out.later m2)
  clear hg2 hown2 m2 HG1 HO1 HM1
  have hgs9 := ans_len ms k budget share
  generalize errG k budget share = er at *
  generalize ansG ms k budget share = gs at *
  go_wp2_with fail
  refine HG2.out.mono ?_
  rintro e w3 ⟨v3, rfl, hown3, m3⟩
  have M3 := Lib.hid (M2.out.trans m3 (fun _ _ e => e))
  have HX3 := Lib.hid (HX2.out.later m3)
  have HA3 := Lib.hid (HO2.out.later m3)
  have HB3 := Lib.hid hown3
  have hx3 := (HX2.out.later m3)
  obtain ⟨A1, c1, rfl, hc1, -⟩ := hx3.form
  obtain ⟨A2, c2, rfl, hc2, -⟩ := HO2.out.form
  obtain ⟨A3, c3, rfl, hc3, -⟩ := hown3.form
  generalize hgl : gs.length = ng at *
  have HGL := Lib.hid hgl
  rw [HN.out] at hc1
  have e1 : Value.slice A1 ms.length c1 = Value.slice A1 n c1 := by rw [HN.out]
  rw [e1] at HX3 ⊢
  clear e1
  clear hown3 m3 hx3 HG2 HO2 HX2 M2 hgl
  go_wp2_with fail
  go_loopw [14] (fun i wr => ∃ q : Nat, i = .int .i64 q ∧ q ≤ ng ∧ Mod (fun _ => False) w3 wr) (fun i _ => ng - (intOf i).toNat)
  case atStart => exact ⟨0, rfl, by omega, Mod.refl _ _⟩
  case round =>
    obtain ⟨q, rfl, hq, hm⟩ := hrel
    by_cases hql : q < ng
    · have hqx : q < gs.length := by rw [HGL.out]; exact hql
      have hx? := List.getElem?_eq_getElem hqx
      obtain ⟨ga, ca, ea, a0, a1, a2, a3⟩ := (HA3.out.later hm).cells4 hx?
      injection ea with ea1 ea2 ea3
      subst ea1 ea3
      obtain ⟨gb, cb, eb, b0, b1, b2, b3⟩ := (HB3.out.later hm).cells4 hx?
      injection eb with eb1 eb2 eb3
      subst eb1 eb3
      generalize gs[q]'hqx = x at *
      have HM := Lib.hid hm
      clear hx? ea2 eb2 hm
      go_wp2_with fail
      go_quiet (fail)
      go_wp2_with fail
      go_roundw
      case rel => exact ⟨q + 1, by go_num, by omega, HM.out.drewN _⟩
      case measure => simp [intOf]; omega
    · have HM := Lib.hid hm
      clear hm
      obtain ⟨wE, rfl⟩ : ∃ z : World, z = wr := ⟨_, rfl⟩
      go_wp2_with fail
      go_loopw [15] (fun i wr => ∃ q : Nat, i = .int .i64 q ∧ q ≤ n ∧ Mod (fun _ => False) wE wr) (fun i _ => n - (intOf i).toNat)
      case atStart => exact ⟨0, rfl, by omega, Mod.refl _ _⟩
      case round =>
        obtain ⟨q, rfl, hq, hm2⟩ := hrel
        have hm3 := HM.out.trans hm2 (fun _ _ e => e)
        by_cases hqn : q < n
        · have hqx : q < ms.length := by rw [HN.out]; exact hqn
          have hx? := List.getElem?_eq_getElem hqx
          obtain ⟨g, off, rfl, hg, c0, c1, c2, c3, c4, c5⟩ := (HH.out.later (M3.out.trans hm3 (fun _ _ e => e)) (Nat.le_refl _)).atM hx?
          obtain ⟨gx, ox, rfl, hgx, d0, d1, d2, d3, d4, d5⟩ := ((HX3.out.later hm3).has).atM hx?
          generalize ms[q]'hqx = m at *
          have hy1 := fun w' => mayW m w'
          have hy2 := fun w' => refMayW m w'
          unfold aggM at hy1 hy2
          generalize mayB m = mb at *
          have HY1 := Lib.hid hy1
          have HY2 := Lib.hid hy2
          have HM2 := Lib.hid hm2
          have hbb : (mb == mb) = true := by simp
          clear hy1 hy2 hm3 hx?
          go_upto_region 16 with fail
          go_region_held3 (fun w' => Mod (fun _ => False) wr w' ∧ w'.cell? ⟨g, off + q * 6, none⟩ = some (.int .i64 m.peer) ∧ w'.cell? ⟨g, off + q * 6 + 1, none⟩ = some (.int .u64 m.id) ∧ w'.cell? ⟨g, off + q * 6 + 2, none⟩ = some (.int .i64 m.total) ∧ w'.cell? ⟨g, off + q * 6 + 3, none⟩ = some (.int .i64 m.hav) ∧ w'.cell? ⟨g, off + q * 6 + 4, none⟩ = some (.int .i64 m.granted) ∧ w'.cell? ⟨g, off + q * 6 + 5, none⟩ = some (.int .i64 m.born) ∧ w'.cell? ⟨gx, ox + q * 6, none⟩ = some (.int .i64 m.peer) ∧ w'.cell? ⟨gx, ox + q * 6 + 1, none⟩ = some (.int .u64 m.id) ∧ w'.cell? ⟨gx, ox + q * 6 + 2, none⟩ = some (.int .i64 m.total) ∧ w'.cell? ⟨gx, ox + q * 6 + 3, none⟩ = some (.int .i64 m.hav) ∧ w'.cell? ⟨gx, ox + q * 6 + 4, none⟩ = some (.int .i64 m.granted) ∧ w'.cell? ⟨gx, ox + q * 6 + 5, none⟩ = some (.int .i64 m.born))
            (first | assumption | exact ⟨(Mod.refl _ _).drew, by assumption, by assumption, by assumption, by assumption, by assumption, by assumption, by assumption, by assumption, by assumption, by assumption, by assumption, by assumption⟩ | exact keep13 (by assumption) (by assumption))
            (first
              | (go_at_call 11; refine (HY1.out _).mono ?_; rintro e wa ⟨rfl, ma⟩)
              | (go_at_call 12; refine (HY2.out _).mono ?_; rintro e wb ⟨rfl, mb2⟩))
          all_goals
            go_wp2_with fail
            go_roundw
            case rel => exact ⟨q + 1, by go_num, by omega, HM2.out.trans (mod13 (by assumption)) (fun _ _ e => e)⟩
            case measure => simp [intOf]; omega
        · have M4 := Lib.hid (M3.out.trans hm3 (fun _ _ e => e))
          have HX4 := Lib.hid (HX3.out.later hm3)
          clear hm2 hm3
          obtain ⟨w4, rfl⟩ : ∃ z : World, z = wr := ⟨_, rfl⟩
          have HH4 := Lib.hid ((HH.out.later M4.out (Nat.le_refl _)).more M4.out.size)
          have hc := orderW (.slice A1 n c1) ms w4 HX4.out.has (by rw [HN.out]; omega)
          have HC := Lib.hid hc
          have hol : (orderL false ms).length ≤ 1000000 := by
            have := order_len false ms
            have := openTo_len ms ms.length
            have := HN.out
            unfold openL at *
            omega
          have HOL := Lib.hid hol
          clear hc hol
          go_wp2_with fail
          refine HC.out.mono ?_
          rintro e w5 ⟨v5, rfl, hown5, m5⟩
          have hc := refOrderW (.slice A n cap) ms w5 ((HH4.out.later m5 (Nat.le_refl _)).more m5.size) (by rw [HN.out]; omega)
          have HC2 := Lib.hid hc
          have HO5 := Lib.hid hown5
          have M45 := Lib.hid m5
          clear hc hown5 m5
          go_wp2_with fail
          refine HC2.out.mono ?_
          rintro e w6 ⟨v6, rfl, hown6, m6⟩
          have hc := alikeW v5 v6 ((orderL false ms).map fun i : Nat => (i : Int)) _ _ w6 (HO5.out.later m6).has.ints hown6.has.ints (by rw [List.length_map]; exact HOL.out)
          have HC3 := Lib.hid hc
          have M46 := Lib.hid (M45.out.trans m6 (fun _ _ e => e))
          clear hc hown6 m6
          go_wp2_with fail
          refine HC3.out.mono ?_
          rintro e w7 ⟨rfl, m7⟩
          have M47 := Lib.hid (M46.out.trans m7 (fun _ _ e => e))
          obtain ⟨oz, hoz⟩ : ∃ z, oldestZ ms = z := ⟨_, rfl⟩
          obtain ⟨az, haz⟩ : ∃ z, aheadZ ms = z := ⟨_, rfl⟩
          have HOZ := Lib.hid hoz
          have HAZ := Lib.hid haz
          have hc := oldestW (.slice A1 n c1) ms w7 (HX4.out.later M47.out).has (by rw [HN.out]; omega)
          rw [hoz] at hc
          have HC4 := Lib.hid hc
          clear hc m7 hoz haz
          go_wp2_with fail
          refine HC4.out.mono ?_
          rintro e w8 ⟨rfl, m8⟩
          have M48 := Lib.hid (M47.out.trans m8 (fun _ _ e => e))
          have hc := refOldestW (.slice A n cap) ms w8 ((HH4.out.later M48.out (Nat.le_refl _)).more M48.out.size) (by rw [HN.out]; omega)
          rw [HOZ.out] at hc
          have HC5 := Lib.hid hc
          clear hc m8
          go_wp2_with fail
          refine HC5.out.mono ?_
          rintro e w9 ⟨rfl, m9⟩
          have M49 := Lib.hid (M48.out.trans m9 (fun _ _ e => e))
          have hc := aheadW (.slice A1 n c1) ms w9 (HX4.out.later M49.out).has (by rw [HN.out]; omega)
          rw [HAZ.out] at hc
          have HC6 := Lib.hid hc
          have hzz : (oz == oz) = true := by simp
          have hza : (az == az) = true := by simp
          clear hc m9
          go_wp2_with fail
          refine HC6.out.mono ?_
          rintro e w10 ⟨rfl, m10⟩
          have M50 := Lib.hid (M49.out.trans m10 (fun _ _ e => e))
          have hc := refAheadW (.slice A n cap) ms w10 ((HH4.out.later M50.out (Nat.le_refl _)).more M50.out.size) (by rw [HN.out]; omega)
          rw [HAZ.out] at hc
          have HC7 := Lib.hid hc
          clear hc m10
          go_wp2_with fail
          refine HC7.out.mono ?_
          rintro e w11 ⟨rfl, m11⟩
          have M51 := Lib.hid (M50.out.trans m11 (fun _ _ e => e))
          clear m11
          go_wp2_with fail
          refine (awakeW _).mono ?_
          rintro e w12 ⟨rfl, m12⟩
          have M52 := Lib.hid ((M4.out.trans M51.out (fun _ _ e => e)).trans m12 (fun _ _ e => e))
          clear m12
          go_wp2_with fail
          go_ret
          exact ⟨rfl, M52.out⟩
theorem walk_asksBig (A : Option Addr) (n cap : Nat) (k budget share : Int) (w : World) (hl : 60 < n) :
    Calls Try.prog 3 #[.slice A n cap, .int .i64 k, .int .i64 budget, .int .i64 share] w fun e w' => e = .returned (.bool true) ∧ Mod (fun _ => False) w w' := by
  have hl' : (60 : Int) < (n : Int) := by omega
  go_enter Try.func3, Try.ntmps3
  go_wp2_with fail
  refine (awakeW _).mono ?_
  rintro e w1 ⟨rfl, m1⟩
  go_wp2_with fail
  go_ret
  exact ⟨rfl, m1⟩
/-- Messages that came in. -/
def Mss (w : World) (v : Value) (ms : List Ms) : Prop := Has w w.heap.size 6 encM v ms ∧ ms.length ≤ 9223372036854775807
theorem open_msgs {H : Type} {enc : TypeId × Value → H} {w : World} {v : Value} {d : DataW H} {p : List MemPlace}
    (hv : Value.okWide Try.prog w .any 0 22 v) (h : DataW.Trod enc Try.prog w 0 (fun _ => true) true 22 v d p) : ∃ ms : List Ms, Mss w v ms :=
  open_ms Try.underlying22 Try.underlying41 (by kernel_rfl) (by kernel_rfl) rfl (fun j f hj => by
    rcases (by have := (Array.getElem?_eq_some_iff.1 hj).1; simp at this; omega : j = 0 ∨ j = 1 ∨ j = 2 ∨ j = 3 ∨ j = 4 ∨ j = 5) with rfl | rfl | rfl | rfl | rfl | rfl <;> (obtain rfl := Option.some.inj hj; first | exact Try.underlying3 | exact Try.underlying33)) hv h
theorem walk_srptAsks {v : Value} (w : World) (ms : List Ms) (w0 : Mss w v ms) (k : Int) (w1 : (Lit.int .i64 k).wf = true) (budget : Int) (w2 : (Lit.int .i64 budget).wf = true) (share : Int) (w3 : (Lit.int .i64 share).wf = true) :
    Calls Try.prog 3 #[v, .int .i64 k, .int .i64 budget, .int .i64 share] w fun e w' => e = .returned (.bool true) ∧ Below w.heap.size w w' := by
  have key : Calls Try.prog 3 #[v, .int .i64 k, .int .i64 budget, .int .i64 share] w fun e w' => e = .returned (.bool true) ∧ Mod (fun _ => False) w w' := by
    by_cases hl : ms.length ≤ 60
    · exact walk_asks v ms k budget share w w0.1 hl
    · obtain ⟨A, cap, rfl, _⟩ := w0.1.form
      exact walk_asksBig A _ cap k budget share w (by omega)
  exact key.mono fun e w' ⟨he, hm⟩ => ⟨he, hm.below⟩
theorem open_srptAsks_l {H : Type} {enc : TypeId × Value → H} {w : World} {v : Value} {d : DataW H} {p : List MemPlace}
    (hv : Value.okWide Try.prog w .any 0 22 v) (h : DataW.Trod enc Try.prog w 0 (fun _ => true) true 22 v d p) : ∃ ms : List Ms, Mss w v ms := open_msgs hv h
end Go.Proofs.Ytpcgfejdeanenaa
