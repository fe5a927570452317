/- The walk of TableEach. -/
import Derived.Test.YtkfembhladjhdaaTabE
import Derived.Test.YtkfembhladjhdaaOpenI
import Derived.Deep.RegionHeld3
namespace Go.Proofs.Ytkfembhladjhdaa
open Go.ChangeShapes Go.WideShapes Go.RowKit Go.Sort
set_option linter.unusedVariables false
set_option maxHeartbeats 8000000
set_option maxRecDepth 100000
attribute [local go_sem ↓] Go.wp_at_zero Go.wp_at_succ
theorem Has.atU {w : World} {B : Nat} {A : Option Addr} {n cap : Nat} {zs : List Int} (h : Has w B 1 encU (.slice A n cap) zs) {i : Nat} {x : Int} (hi : zs[i]? = some x) :
    ∃ g off, A = some ⟨g, off, none⟩ ∧ g < B ∧ w.cell? ⟨g, off + i, none⟩ = some (.int .u64 x) := by
  obtain ⟨g, off, h1, h2, h3⟩ := h.at_ encU_len hi
  refine ⟨g, off, h1, h2, ?_⟩
  have := h3 0 (by omega)
  rw [Nat.mul_one, Nat.add_zero] at this
  exact this
theorem kept {w w' : World} {p : Addr} {u : Value} (m : Mod (fun _ => False) w w') (h : w.cell? p = some u) : w'.cell? p = some u := by
  rw [m.cell (World.block_lt_of_cell? _ _ h) (fun e => e)]
  exact h
theorem keep8 {a w w' : World} {p1 p2 p3 p4 p5 p6 p7 : Addr} {u1 u2 u3 u4 u5 u6 u7 : Value} (m : Mod (fun _ => False) w w')
    (h : Mod (fun _ => False) a w ∧ w.cell? p1 = some u1 ∧ w.cell? p2 = some u2 ∧ w.cell? p3 = some u3 ∧ w.cell? p4 = some u4 ∧ w.cell? p5 = some u5 ∧ w.cell? p6 = some u6 ∧ w.cell? p7 = some u7) :
    Mod (fun _ => False) a w' ∧ w'.cell? p1 = some u1 ∧ w'.cell? p2 = some u2 ∧ w'.cell? p3 = some u3 ∧ w'.cell? p4 = some u4 ∧ w'.cell? p5 = some u5 ∧ w'.cell? p6 = some u6 ∧ w'.cell? p7 = some u7 := by
  obtain ⟨h0, h1, h2, h3, h4, h5, h6, h7⟩ := h
  exact ⟨h0.trans m (fun _ _ e => e), kept m h1, kept m h2, kept m h3, kept m h4, kept m h5, kept m h6, kept m h7⟩
theorem mod8 {a w : World} {p1 p2 p3 p4 p5 p6 p7 : Addr} {u1 u2 u3 u4 u5 u6 u7 : Value}
    (h : Mod (fun _ => False) a w ∧ w.cell? p1 = some u1 ∧ w.cell? p2 = some u2 ∧ w.cell? p3 = some u3 ∧ w.cell? p4 = some u4 ∧ w.cell? p5 = some u5 ∧ w.cell? p6 = some u6 ∧ w.cell? p7 = some u7) : Mod (fun _ => False) a w := h.1
theorem mod6 {a w : World} {p1 p2 p3 p4 p5 : Addr} {u1 u2 u3 u4 u5 : Value}
    (h : Mod (fun _ => False) a w ∧ w.cell? p1 = some u1 ∧ w.cell? p2 = some u2 ∧ w.cell? p3 = some u3 ∧ w.cell? p4 = some u4 ∧ w.cell? p5 = some u5) : Mod (fun _ => False) a w := h.1
/-- Each thing is the number of a key's place. -/
def mapE (ids prs : List Int) (q : Nat) (m : Int × Int → Option Int) : Prop := ∀ (k : Int × Int) (x : Int), m k = some x → ∃ j : Nat, x = j ∧ j < q ∧ prs[j]? = some k.1 ∧ ids[j]? = some k.2
theorem walk_each (v u : Value) (ids prs : List Int) (w : World) (hi : Has w w.heap.size 1 encU v ids) (hp : Has w w.heap.size 1 encI u prs) (l1 : ids.length ≤ 60) (l2 : prs.length ≤ 60) :
    Calls Try.prog 5 #[v, u] w fun e w' => e = .returned (.bool true) ∧ Mod (fun _ => False) w w' := by
  obtain ⟨Ai, ci, rfl, hci⟩ := hi.form
  obtain ⟨Ap, cp, rfl, hcp⟩ := hp.form
  have HI := Lib.hid hi
  have HP := Lib.hid hp
  clear hi hp
  generalize hni : ids.length = ni at *
  generalize hnp : prs.length = np at *
  have HNI := Lib.hid hni
  have HNP := Lib.hid hnp
  have h1 : ¬ (60 : Int) < (ni : Int) := by omega
  have h2 : ¬ (60 : Int) < (np : Int) := by omega
  clear hni hnp
  go_enter Try.func5, Try.ntmps5
  go_wp2_with fail
  refine (TabInt.newT 100 _ (by omega) (by omega)).mono ?_
  rintro e w1 ⟨bt, bs0, rfl, hT, hbt, hbs, m1⟩
  have HT1 := Lib.hid hT
  have HM1 := Lib.hid m1
  clear hT m1
  go_wp2_with fail
  go_loopw [7] (fun i wr => ∃ (q bs : Nat) (n : Int) (m : Int × Int → Option Int), i = .int .i64 q ∧ q ≤ ni ∧ q ≤ np ∧ TabInt.Tb wr bt bs 100 n m ∧ n ≤ q ∧ mapE ids prs q m ∧ w.heap.size ≤ bs ∧ Mod (fun _ => False) w wr) (fun i _ => ni - (intOf i).toNat)
  case atStart => exact ⟨0, bs0, 0, fun _ => none, rfl, by omega, by omega, HT1.out, by omega, fun k x h => (by cases h), hbs, HM1.out⟩
  case round =>
    obtain ⟨q, bs, n, m, rfl, hq1, hq2, hT, hnq, hme, hbs', hm⟩ := hrel
    clear HT1 HM1 hbs
    by_cases hqq : q < ni ∧ q < np
    · obtain ⟨hqi, hqp⟩ := hqq
      have hqx : q < ids.length := by rw [HNI.out]; exact hqi
      have hqy : q < prs.length := by rw [HNP.out]; exact hqp
      have hx? := List.getElem?_eq_getElem hqx
      have hy? := List.getElem?_eq_getElem hqy
      obtain ⟨gi, oi, rfl, _, ci0⟩ := (HI.out.later hm (Nat.le_refl _)).atU hx?
      obtain ⟨gp, op, rfl, _, cp0⟩ := (HP.out.later hm (Nat.le_refl _)).atI hy?
      generalize ids[q]'hqx = x at *
      generalize prs[q]'hqy = y at *
      have HXQ := Lib.hid hx?
      have HYQ := Lib.hid hy?
      have HME := Lib.hid hme
      have HM := Lib.hid hm
      have HTT := Lib.hid hT
      have hl := hT.lt
      clear hx? hy? hme hm hT
      cases hmk : m (y, x) with
      | some z =>
        have hput := fun w' (mz : Mod (fun _ => False) wr w') => TabInt.putThereT bt bs 100 n m y x (q : Int) w' (HTT.out.mod mz (fun e => e) (fun e => e)) (by rw [hmk]; rfl)
        have HPUT := Lib.hid hput
        clear hput hmk
        go_upto_region 9 with fail
        refine region_quiet_tail 11 (by kernel_rfl) (by kernel_rfl) ?_
        simp only [List.take_succ_cons, List.take_zero, List.drop_succ_cons, List.drop_zero]
        repeat (go_big_quiet_step (fail))
        refine wpQuiet_nil ?_
        intro _ hw'
        obtain ⟨nq, hw''⟩ := hw'
        subst hw''
        go_wp2_with fail
        refine (HPUT.out _ ((Mod.refl _ wr).drewN nq)).mono ?_
        rintro e w5 ⟨rfl, m5⟩
        have HM5 := Lib.hid (((Mod.refl (fun _ => False) wr).drewN nq).trans m5 (fun _ _ e => e))
        clear m5
        go_wp2_with fail
        go_roundw
        case rel => exact ⟨q + 1, bs, n, m, by go_num, by omega, by omega, HTT.out.mod HM5.out (fun e => e) (fun e => e), by omega, fun k z h => by
          obtain ⟨j, a, b, c, d⟩ := HME.out k z h
          exact ⟨j, a, by omega, c, d⟩, hbs', HM.out.trans HM5.out (fun _ _ e => e)⟩
        case measure => simp [intOf]; omega
      | none =>
        have hput := fun w' (mz : Mod (fun _ => False) wr w') => TabInt.putNewT bt bs 100 n m y x (q : Int) w' (HTT.out.mod mz (fun e => e) (fun e => e)) hmk (by omega)
        have HPUT := Lib.hid hput
        clear hput hmk
        go_upto_region 9 with fail
        refine region_quiet_tail 11 (by kernel_rfl) (by kernel_rfl) ?_
        simp only [List.take_succ_cons, List.take_zero, List.drop_succ_cons, List.drop_zero]
        repeat (go_big_quiet_step (fail))
        refine wpQuiet_nil ?_
        intro _ hw'
        obtain ⟨nq, hw''⟩ := hw'
        subst hw''
        go_wp2_with fail
        refine (HPUT.out _ ((Mod.refl _ wr).drewN nq)).mono ?_
        rintro e w5 ⟨rfl, bq, hbq, hT5, m5⟩
        have HM5 := Lib.hid ((HM.out.drewN nq).trans m5 (fun k hk e => by omega))
        have HT5 := Lib.hid hT5
        have hsz := HM.out.size
        have hbq' : w.heap.size ≤ bq := by
          rcases hbq with h | h
          · omega
          · exact Nat.le_trans hsz h
        clear m5 hT5
        go_wp2_with fail
        go_roundw
        case rel => exact ⟨q + 1, bq, n + 1, _, by go_num, by omega, by omega, HT5.out, by omega, fun k z h => by
          have h : (if k = (y, x) then some (q : Int) else m k) = some z := h
          by_cases hk : k = (y, x)
          · rw [hk, if_pos rfl] at h
            refine ⟨q, (Option.some.inj h).symm, by omega, ?_, ?_⟩
            · rw [hk]; exact HYQ.out
            · rw [hk]; exact HXQ.out
          · rw [if_neg hk] at h
            obtain ⟨j, a, b, c, d⟩ := HME.out k z h
            exact ⟨j, a, by omega, c, d⟩, hbq', HM5.out⟩
        case measure => simp [intOf]; omega
    · have hex : ¬ (q : Int) < (ni : Int) ∨ ((q : Int) < (ni : Int) ∧ ¬ (q : Int) < (np : Int)) := by omega
      have heach := eachW bt bs 100 n m wr hT (fun k x h => by
        obtain ⟨j, a, b, _⟩ := hme k x h
        omega)
      have hl := hT.lt
      have HTT := Lib.hid hT
      have HME := Lib.hid hme
      have HM := Lib.hid hm
      have HEA := Lib.hid heach
      clear hT hme hm heach hqq
      obtain ⟨wE, rfl⟩ : ∃ z : World, z = wr := ⟨_, rfl⟩
      rcases hex with g1 | ⟨g1, g2⟩
      all_goals
        go_wp2_with fail
        refine HEA.out.mono ?_
        rintro e w2 ⟨va, ka, rfl, howna, hsa, hmea, m2⟩
        have hT2 := HTT.out.mod m2 (fun e => e) (fun e => e)
        have hkc := TabInt.keysT bt bs 100 n m w2 hT2
        have HKC := Lib.hid hkc
        have HA2 := Lib.hid howna
        have HSA := Lib.hid hsa
        have HMA := Lib.hid hmea
        have M2 := Lib.hid m2
        have HT2 := Lib.hid hT2
        clear hkc howna hsa hmea m2 hT2
        go_wp2_with fail
        refine HKC.out.mono ?_
        rintro e w3 ⟨vk, ks, rfl, hownk, hsk, hmek, hlk, m3⟩
        have hkk : ka = ks := sorted_same HSA.out hsk (fun k => (HMA.out k).trans (hmek k).symm)
        subst hkk
        have hT3 := HT2.out.mod m3 (fun e => e) (fun e => e)
        have hA3 := HA2.out.later m3
        have HM3 := Lib.hid (M2.out.trans m3 (fun _ _ e => e))
        have hlc := TabInt.lenT bt bs 100 n m w3 hT3
        have HLC := Lib.hid hlc
        obtain ⟨Aa, ca, rfl, -⟩ := hA3.form
        obtain ⟨Ak, ck, rfl, -⟩ := hownk.form
        have HA3 := Lib.hid hA3
        have HK3 := Lib.hid hownk
        have HT3 := Lib.hid hT3
        rw [List.length_map]
        obtain ⟨nk, hnk⟩ : ∃ z, ka.length = z := ⟨_, rfl⟩
        have hnn : n = (nk : Int) := by rw [← hnk]; exact hlk.symm
        rw [hnk]
        have HNK := Lib.hid hnk
        rw [hnn] at HLC
        clear hlc hA3 hownk hT3 hsk hmek m3 hlk hnk
        go_wp2_with fail
        refine HLC.out.mono ?_
        rintro e w' ⟨rfl, rfl⟩
        go_wp2_with fail
        go_loopw [10] (fun i wr => ∃ q : Nat, i = .int .i64 q ∧ q ≤ nk ∧ Mod (fun _ => False) w3 wr) (fun i _ => nk - (intOf i).toNat)
        case atStart => exact ⟨0, rfl, by omega, Mod.refl _ _⟩
        case round =>
          obtain ⟨r, rfl, hr, hmr⟩ := hrel
          by_cases hrn : r < nk
          · have hrx : r < ka.length := by rw [HNK.out]; exact hrn
            have hk? := List.getElem?_eq_getElem hrx
            obtain ⟨x, hx⟩ := Option.isSome_iff_exists.1 ((HMA.out _).1 (List.getElem_mem hrx))
            obtain ⟨j, rfl, hjq, hjp, hji⟩ := HME.out _ _ hx
            have hau : (ka.map (madeU m))[r]? = some (IntKind.u64.wrap (ka[r].2 + (j : Int))) := by
              rw [List.getElem?_map, hk?]
              show some (madeU m ka[r]) = _
              unfold madeU
              rw [hx]
              rfl
            have hmr2 := HM.out.trans (HM3.out.trans hmr (fun _ _ e => e)) (fun _ _ e => e)
            obtain ⟨gi, oi, rfl, _, c0⟩ := (HI.out.later hmr2 (Nat.le_refl _)).atU hji
            obtain ⟨gp, op, rfl, _, d0⟩ := (HP.out.later hmr2 (Nat.le_refl _)).atI hjp
            obtain ⟨ga, oa, rfl, _, e0⟩ := ((HA3.out.later hmr).has).atU hau
            obtain ⟨gk, ok, rfl, _, f0, f1⟩ := ((HK3.out.later hmr).has).atKy hk?
            have hgc := TabInt.getT bt bs 100 n m ka[r].1 ka[r].2 wr (HT3.out.mod hmr (fun e => e) (fun e => e))
            have hx' : m (ka[r].1, ka[r].2) = some (j : Int) := hx
            rw [hx'] at hgc
            simp only [TabInt.val, Option.isSome_some] at hgc
            have hjn : j < ni := by
              have := (List.getElem?_eq_some_iff.1 hji).1
              rw [HNI.out] at this
              exact this
            have hjn2 : j < np := by
              have := (List.getElem?_eq_some_iff.1 hjp).1
              rw [HNP.out] at this
              exact this
            have hprev : 0 < r → ∃ k', ka[r - 1]? = some k' ∧ ltK k' ka[r] := fun h0 => by
              have hr1 : r - 1 < ka.length := by omega
              exact ⟨_, List.getElem?_eq_getElem hr1, List.pairwise_iff_getElem.1 HSA.out (r - 1) r hr1 hrx (by omega)⟩
            generalize ka[r]'hrx = k at *
            obtain ⟨p, i⟩ := k
            simp only at c0 d0 e0 f0 f1 hgc
            have z0 : decide ((j : Int) < 0) = false := by simp
            have z00 : (0 : Int) ≤ (j : Int) := by omega
            have z1 : (j : Int) < (ni : Int) := by omega
            have z2 : (j : Int) < (np : Int) := by omega
            have z3 : decide ((ni : Int) ≤ (j : Int)) = false := by simp; omega
            have z3' : decide (ni ≤ j) = false := by simp; omega
            have z4 : decide ((np : Int) ≤ (j : Int)) = false := by simp; omega
            have z4' : decide (np ≤ j) = false := by simp; omega
            have hw1 : IntKind.u64.wrap (j : Int) = (j : Int) := by
              show (j : Int) % 18446744073709551616 = _
              omega
            obtain ⟨U, hU⟩ : ∃ U, IntKind.u64.wrap (i + (j : Int)) = U := ⟨_, rfl⟩
            rw [hU] at e0
            have hU2 : (U == U) = true := by simp
            have HGC := Lib.hid hgc
            have HMR := Lib.hid hmr
            clear hgc hx hx' hau hk? hji hjp hmr2 hmr
            by_cases hr0 : r = 0
            · clear hprev
              have z6 : decide ((0 : Int) < (r : Int)) = false := by simp; omega
              have z6' : decide (0 < r) = false := by simp; omega
              have z7 : (r : Int) < (nk : Int) := by omega
              clear hr0
              go_wp2_with fail
              refine HGC.out.mono ?_
              rintro e w5 ⟨rfl, m5⟩
              have c1 := kept m5 c0
              have d1 := kept m5 d0
              have e1 := kept m5 e0
              have f2 := kept m5 f0
              have f3 := kept m5 f1
              have HM5 := Lib.hid (HMR.out.trans m5 (fun _ _ e => e))
              clear m5 c0 d0 e0 f0 f1
              have q1 := fun x : Later w5 => kept x.mod c1
              have q2 := fun x : Later w5 => kept x.mod d1
              have q3 := fun x : Later w5 => kept x.mod e1
              have q4 := fun x : Later w5 => kept x.mod f2
              have q5 := fun x : Later w5 => kept x.mod f3
              clear c1 d1 e1 f2 f3
              go_upto_region 18 with fail
              simp only [List.append]
              refine region_later (by kernel_rfl) (by kernel_rfl) ?_
              repeat (go_big_quiet_step ((go_at_call 28; exact later_call (HLS.out _))))
              refine wpQuiet_nil ?_
              intro _ hw'
              obtain ⟨y, hw''⟩ := hw'
              subst hw''
              have HM6 := Lib.hid (HM5.out.trans y.mod (fun _ _ e => e))
              clear q1 q2 q3 q4 q5
              go_wp2_with fail
              go_roundw
              case rel => exact ⟨r + 1, by go_num, by omega, HM6.out⟩
              case measure => simp [intOf]; omega
            · obtain ⟨k', hk', hlt⟩ := hprev (by omega)
              obtain ⟨p', i'⟩ := k'
              obtain ⟨gk', ok', ek, _, g0, g1'⟩ := ((HK3.out.later HMR.out).has).atKy hk'
              injection ek with ek
              injection ek with ek1 ek2
              subst ek1 ek2
              simp only at g0 g1'
              have hlc := lessW p' i' p i
              rw [show decide (ltK (p', i') (p, i)) = true by simpa using hlt] at hlc
              have HLS := Lib.hid hlc
              have z5 : (1 : Int) ≤ (r : Int) := by omega
              have z6 : decide ((0 : Int) < (r : Int)) = true := by simp; omega
              have z6' : decide (0 < r) = true := by simp; omega
              have z7 : (r : Int) < (nk : Int) := by omega
              clear hlc hlt hk'
              go_wp2_with fail
              refine HGC.out.mono ?_
              rintro e w5 ⟨rfl, m5⟩
              have c1 := kept m5 c0
              have d1 := kept m5 d0
              have e1 := kept m5 e0
              have f2 := kept m5 f0
              have f3 := kept m5 f1
              have g2 := kept m5 g0
              have g3 := kept m5 g1'
              have HM5 := Lib.hid (HMR.out.trans m5 (fun _ _ e => e))
              clear m5 c0 d0 e0 f0 f1 g0 g1'
              have q1 := fun x : Later w5 => kept x.mod c1
              have q2 := fun x : Later w5 => kept x.mod d1
              have q3 := fun x : Later w5 => kept x.mod e1
              have q4 := fun x : Later w5 => kept x.mod f2
              have q5 := fun x : Later w5 => kept x.mod f3
              have q6 := fun x : Later w5 => kept x.mod g2
              have q7 := fun x : Later w5 => kept x.mod g3
              clear c1 d1 e1 f2 f3 g2 g3
              go_upto_region 18 with fail
              simp only [List.append]
              refine region_later (by kernel_rfl) (by kernel_rfl) ?_
              repeat (go_big_quiet_step ((go_at_call 28; exact later_call (HLS.out _))))
              refine wpQuiet_nil ?_
              intro _ hw'
              obtain ⟨y, hw''⟩ := hw'
              subst hw''
              have HM6 := Lib.hid (HM5.out.trans y.mod (fun _ _ e => e))
              clear q1 q2 q3 q4 q5 q6 q7
              go_wp2_with fail
              go_roundw
              case rel => exact ⟨r + 1, by go_num, by omega, HM6.out⟩
              case measure => simp [intOf]; omega
          · have HMR := Lib.hid (HM.out.trans (HM3.out.trans hmr (fun _ _ e => e)) (fun _ _ e => e))
            clear hmr
            obtain ⟨w5, rfl⟩ : ∃ z : World, z = wr := ⟨_, rfl⟩
            go_wp2_with fail
            refine (TabInt.getNone _ _ _).mono ?_
            rintro e w6 ⟨rfl, m6⟩
            have HM6 := Lib.hid (HMR.out.trans m6 (fun _ _ e => e))
            clear m6
            go_wp2_with fail
            refine (eachNone _).mono ?_
            rintro e w' ⟨rfl, rfl⟩
            go_wp2_with fail
            refine (eachNil _ _).mono ?_
            rintro e w' ⟨rfl, rfl⟩
            go_wp2_with fail
            refine (TabInt.putNone _ _ _ _).mono ?_
            rintro e w7 ⟨rfl, m7⟩
            have HM7 := Lib.hid (HM6.out.trans m7 (fun _ _ e => e))
            clear m7
            go_wp2_with fail
            refine (TabInt.deleteNone _ _ _).mono ?_
            rintro e w8 ⟨rfl, m8⟩
            have HM8 := Lib.hid (HM7.out.trans m8 (fun _ _ e => e))
            clear m8
            go_wp2_with fail
            refine (TabInt.setNone _ _ _ _).mono ?_
            rintro e w9 ⟨rfl, m9⟩
            have HM9 := Lib.hid (HM8.out.trans m9 (fun _ _ e => e))
            clear m9
            go_wp2_with fail
            refine (TabInt.lenNone _).mono ?_
            rintro e w' ⟨rfl, rfl⟩
            go_wp2_with fail
            refine (TabInt.mostNone _).mono ?_
            rintro e w' ⟨rfl, rfl⟩
            go_wp2_with fail
            refine (TabInt.keysNone _).mono ?_
            rintro e w' ⟨rfl, rfl⟩
            go_wp2_with fail
            refine (awakeW _).mono ?_
            rintro e w10 ⟨rfl, m10⟩
            have HM10 := Lib.hid (HM9.out.trans m10 (fun _ _ e => e))
            clear m10
            go_wp2_with fail
            go_ret
            exact ⟨rfl, HM10.out⟩
end Go.Proofs.Ytkfembhladjhdaa
