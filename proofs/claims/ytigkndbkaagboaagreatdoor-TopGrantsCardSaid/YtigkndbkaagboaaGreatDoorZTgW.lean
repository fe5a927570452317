/- The walk of TopGrants. -/
import Derived.Test.YtigkndbkaagboaaGreatDoorTgA
import Derived.Test.YtigkndbkaagboaaGreatDoorTgP
import Derived.Test.YtigkndbkaagboaaGreatDoorZTopA
import Derived.WalkLawsBesides
import Derived.Deep.CutBlock
namespace Go.Proofs.YtigkndbkaagboaaGreatDoor
open Go.ChangeShapes Go.WideShapes Go.RowKit
set_option linter.unusedVariables false
set_option maxHeartbeats 8000000
set_option maxRecDepth 100000
attribute [local go_sem ↓] Go.wp_at_zero Go.wp_at_succ
theorem msg_info : (Tryz.prog.info? 28).map (fun i => (i.zero, i.size, i.bytes)) = some (some (.agg #[.int .i64 0, .int .u64 0, .int .i64 0, .int .i64 0, .int .i64 0, .int .i64 0]), 6, 48) := by kernel_rfl
theorem one_M (a b c d e f : Int) : ∀ y ∈ [Value.int .i64 a, Value.int .u64 b, Value.int .i64 c, Value.int .i64 d, Value.int .i64 e, Value.int .i64 f], y.oneCell' = true := fun y hy => by
  simp at hy
  rcases hy with rfl | rfl | rfl | rfl | rfl | rfl <;> rfl
/-- Either it is met, or it lies ahead, among the first. -/
def aheadG (ms : List Ms) (o : List Nat) (g : Gr) (k : Int) (b : Bool) (q : Nat) : Prop := b = true ∨ ∃ j i : Nat, q ≤ j ∧ j < o.length ∧ (j : Int) < k ∧ o[j]? = some i ∧ fitsG ms g i
theorem ahead_end {ms : List Ms} {o : List Nat} {g : Gr} {k : Int} {b : Bool} {q : Nat} (h : aheadG ms o g k b q) (he : ¬ (q < o.length ∧ (q : Int) < k)) : b = true := by
  rcases h with h | ⟨j, i, h1, h2, h3, _⟩
  · exact h
  · exact absurd ⟨by omega, by omega⟩ he
theorem ahead_no {ms : List Ms} {o : List Nat} {g : Gr} {k : Int} {q i : Nat} {m : Ms} (h : aheadG ms o g k false q) (hi : o[q]? = some i) (hm : ms[i]? = some m) (hno : ¬ (m.peer = g.peer ∧ m.id = g.id)) : aheadG ms o g k false (q + 1) := by
  rcases h with h | ⟨j, i', h1, h2, h3, h4, m', h5, h6, h7⟩
  · cases h
  · rcases Nat.eq_or_lt_of_le h1 with e | e
    · subst e
      rw [hi] at h4
      obtain rfl := Option.some.inj h4
      rw [hm] at h5
      obtain rfl := Option.some.inj h5
      exact absurd ⟨h6, h7⟩ hno
    · exact .inr ⟨j, i', e, h2, h3, h4, m', h5, h6, h7⟩
theorem ans_who {ms : List Ms} {k budget share : Int} {g : Gr} (h : g ∈ ansG ms k budget share) :
    (∃ i : Nat, oldestZ ms = (i : Int) ∧ fitsG ms g i) ∨ ∃ j i : Nat, j < (orderL false ms).length ∧ (j : Int) < k ∧ (orderL false ms)[j]? = some i ∧ fitsG ms g i := by
  unfold ansG at h
  split at h
  · exact granted_who h
  · cases h
theorem walk_tg (v : Value) (ms : List Ms) (k budget share : Int) (w : World) (hp : Pow w) (h : Has w w.heap.size 6 encM v ms) (hl : ms.length ≤ 40) :
    Calls Tryz.prog 3 #[v, .int .i64 k, .int .i64 budget, .int .i64 share] w fun e w' => e = .returned (.bool true) ∧ Mod (fun _ => False) w w' := by
  obtain ⟨i0, hi0, hz0, hz1, hz2⟩ := info_parts msg_info
  obtain ⟨A, cap, rfl, hcap⟩ := h.form
  have HH := Lib.hid h
  have HP := Lib.hid hp
  clear h hp
  generalize hn : ms.length = n at *
  have HN := Lib.hid hn
  have hn40 : ¬ (40 : Int) < (n : Int) := by omega
  clear hn
  go_enter Tryz.func3, Tryz.ntmps3
  go_wp2_with fail
  go_loopw [9, 10] (fun o i wr => ∃ q : Nat, i = .int .i64 q ∧ q ≤ n ∧ Own wr w.heap.size 28 6 encM o (ms.take q) ∧ Mod (fun _ => False) w wr) (fun _ i _ => n - (intOf i).toNat)
  case atStart => exact ⟨0, rfl, by omega, Own.nil, Mod.refl _ _⟩
  case round =>
    obtain ⟨q, rfl, hq, hown, hm⟩ := hrel
    have htl : (ms.take q).length = q := by rw [List.length_take, HN.out]; omega
    obtain ⟨Ao, co, rfl, hco, -⟩ := hown.form
    rw [htl] at hown hco ⊢
    by_cases hql : q < n
    · have hqx : q < ms.length := by rw [HN.out]; exact hql
      have hx? := List.getElem?_eq_getElem hqx
      obtain ⟨g, off, rfl, hg, c0, c1, c2, c3, c4, c5⟩ := (HH.out.later hm (Nat.le_refl _)).atM hx?
      have hsn : ms.take (q + 1) = ms.take q ++ [ms[q]] := List.take_succ_eq_append_getElem hqx
      generalize ms[q]'hqx = m at *
      have HSN := Lib.hid hsn
      have hrow : wr.ownsRow w.heap.size 28 6 (.slice Ao q co) q ((ms.take q).flatMap encM) := by
        have h := hown
        unfold Own at h
        rw [htl] at h
        exact h
      have hbase : ∀ z, (Value.slice Ao q co).ownBlock = some z → w.heap.size ≤ z := fun z e => hown.base e
      have HRW := Lib.hid (own_mod (((Mod.refl (fun _ => False) wr).alloc (.cells #[.int .i64 m.peer, .int .u64 m.id, .int .i64 m.total, .int .i64 m.hav, .int .i64 m.granted, .int .i64 m.born] 27)).alloc (.cells #[.int .i64 m.peer, .int .u64 m.id, .int .i64 m.total, .int .i64 m.hav, .int .i64 m.granted, .int .i64 m.born] 28)) hrow (fun _ _ e => e))
      have hlit := World.ownsRow_lit (base := 0) (size := 6) (e := 28) (wr.alloc (.cells #[.int .i64 m.peer, .int .u64 m.id, .int .i64 m.total, .int .i64 m.hav, .int .i64 m.granted, .int .i64 m.born] 27)) #[.int .i64 m.peer, .int .u64 m.id, .int .i64 m.total, .int .i64 m.hav, .int .i64 m.granted, .int .i64 m.born] 1 (Nat.zero_le _) (by decide) rfl
      have hsz1 : (wr.alloc (.cells #[.int .i64 m.peer, .int .u64 m.id, .int .i64 m.total, .int .i64 m.hav, .int .i64 m.granted, .int .i64 m.born] 27)).heap.size = wr.heap.size + 1 := by simp
      rw [hsz1] at hlit
      have HLIT := Lib.hid (Reads.of_own hlit)
      have hszr := hm.size
      have HM := Lib.hid hm
      have HBA := Lib.hid hbase
      clear hlit hrow hbase hown hm hx? hsn hsz1
      go_wp2_with (at_builtin
                   refine wpList_append_any _ rfl (.tmp 35) (.tmp 49) _ rfl w.heap.size 28 i0 _ 6 48 Tryz.underlying24 hi0 hz0 hz1 hz2 rfl (by omega) (.slice Ao q co) q ((ms.take q).flatMap encM) rfl HRW.out _ (some ⟨wr.heap.size + 1, 0, none⟩) 1 1 [.int .i64 m.peer, .int .u64 m.id, .int .i64 m.total, .int .i64 m.hav, .int .i64 m.granted, .int .i64 m.born] rfl HLIT.out (one_M _ _ _ _ _ _) (by simp only [maxLen]; omega) (by omega) (by simp; omega) ?_
                   intro v2 w9 hown2 hgr2 hat2
                   have hown3 : Own w9 w.heap.size 28 6 encM v2 (ms.take (q + 1)) := by
                     unfold Own
                     rw [HSN.out, flat_snoc, List.length_append, htl]
                     exact hown2
                   have m9 := ((HM.out.alloc (.cells #[.int .i64 m.peer, .int .u64 m.id, .int .i64 m.total, .int .i64 m.hav, .int .i64 m.granted, .int .i64 m.born] 27)).alloc (.cells #[.int .i64 m.peer, .int .u64 m.id, .int .i64 m.total, .int .i64 m.hav, .int .i64 m.granted, .int .i64 m.born] 28)).trans (Mod.ofGrown hgr2) (fun z hz e => by have := HBA.out z e; omega)
                   have M9 := Lib.hid m9
                   have HO9 := Lib.hid hown3
                   clear hown2 hgr2 hat2 hown3 m9)
      go_wp2_with fail
      go_roundw
      case rel => exact ⟨q + 1, by go_num, by omega, HO9.out, M9.out⟩
      case measure => simp [intOf]; omega
    · obtain rfl : q = n := by omega
      rw [List.take_of_length_le (by rw [HN.out]; exact Nat.le_refl _)] at hown
      have hg1 := grantsAllW _ ms k budget share wr hown.has (by rw [HN.out]; omega)
      have hwho := fun (g : Gr) => ans_who (ms := ms) (k := k) (budget := budget) (share := share) (g := g)
      have hmo := fun (i : Nat) (hi : i ∈ orderL false ms) => order_mem (born := false) hi
      have HG1 := Lib.hid hg1
      have HX1 := Lib.hid hown
      have M1 := Lib.hid hm
      have HWHO := Lib.hid hwho
      have HMO := Lib.hid hmo
      clear hg1 hown hm hwho hmo
      go_wp2_with fail
      refine HG1.out.mono ?_
      rintro e w2 ⟨v2, rfl, hown2, m2⟩
      have hm2 := M1.out.trans m2 (fun _ _ e => e)
      have hg2 := refGrantsAllW (.slice A q cap) ms k budget share w2 ((HH.out.later hm2 (Nat.le_refl _)).more hm2.size) (by rw [HN.out]; omega)
      have HG2 := Lib.hid hg2
      have HO2 := Lib.hid hown2
      have HX2 := Lib.hid (HX1.out.later m2)
      have M2 := Lib.hid hm2
      clear hg2 hown2 m2 hm2
      go_wp2_with fail
      refine HG2.out.mono ?_
      rintro e w3 ⟨v3, rfl, hown3, m3⟩
      have M3 := Lib.hid (M2.out.trans m3 (fun _ _ e => e))
      have HX3 := Lib.hid (HX2.out.later m3)
      have HA3 := Lib.hid (HO2.out.later m3)
      have HB3 := Lib.hid hown3
      obtain ⟨A2, c2, rfl, hc2, -⟩ := HO2.out.form
      obtain ⟨A3, c3, rfl, hc3, -⟩ := hown3.form
      generalize hgs : ansG ms k budget share = gs at *
      have hgl9 : gs.length ≤ 9 := hgs ▸ ans_len ms k budget share
      generalize hgl : gs.length = ng at *
      have HGL := Lib.hid hgl
      generalize hez : errG k budget share = ez at *
      have hee : (ez != ez) = false := by simp
      have hnn : ((ng : Int) != (ng : Int)) = false := by simp
      have hc := orderW _ ms w3 HX3.out.has (by rw [HN.out]; omega)
      have HC := Lib.hid hc
      have hol : (orderL false ms).length ≤ q := by
        have := order_len false ms
        have := openTo_len ms ms.length
        have := HN.out
        unfold openL at *
        omega
      have hoz := oldest_at (ms := ms)
      obtain ⟨o, horl⟩ : ∃ z, orderL false ms = z := ⟨_, rfl⟩
      obtain ⟨oz, hozz⟩ : ∃ z, oldestZ ms = z := ⟨_, rfl⟩
      rw [horl] at hc hol
      rw [hozz] at hoz
      obtain ⟨no, holl⟩ : ∃ z, o.length = z := ⟨_, rfl⟩
      rw [holl] at hol
      have HC := Lib.hid hc
      have HOZ := Lib.hid hoz
      have HOL := Lib.hid holl
      have HORL := Lib.hid horl
      have HOZZ := Lib.hid hozz
      have HGS := Lib.hid hgs
      clear hown3 m3 HG2 HO2 HX2 M2 hgl hez hc horl hoz holl hozz hgs
      go_wp2_with fail
      refine HC.out.mono ?_
      rintro e w4 ⟨v4, rfl, hown4, m4⟩
      obtain ⟨A4, c4, rfl, hc4, -⟩ := hown4.form
      rw [HOL.out] at hc4 hown4 ⊢
      have HX4 := Lib.hid (HX3.out.later m4)
      have HA4 := Lib.hid (HA3.out.later m4)
      have HB4 := Lib.hid (HB3.out.later m4)
      have HO4 := Lib.hid hown4
      have M4 := Lib.hid (M3.out.trans m4 (fun _ _ e => e))
      have hc := oldestW (.slice Ao q co) ms w4 HX4.out.has (by rw [HN.out]; omega)
      rw [HOZZ.out] at hc
      have HC2 := Lib.hid hc
      clear hc hown4 m4 HX3 HA3 HB3 M3 HC
      go_wp2_with fail
      refine HC2.out.mono ?_
      rintro e w5 ⟨rfl, m5⟩
      have HX5 := Lib.hid (HX4.out.later m5)
      have HA5 := Lib.hid (HA4.out.later m5)
      have HB5 := Lib.hid (HB4.out.later m5)
      have HO5 := Lib.hid (HO4.out.later m5)
      have M5 := Lib.hid (M4.out.trans m5 (fun _ _ e => e))
      clear m5 HX4 HA4 HB4 M4 HC2 HO4
      go_wp2_with fail
      go_loopw [18, 19, 20] (fun i _ _ wr => ∃ q2 : Nat, i = .int .i64 q2 ∧ q2 ≤ ng ∧ Mod (fun _ => False) w5 wr) (fun i _ _ _ => ng - (intOf i).toNat)
      case atStart => exact ⟨0, rfl, by omega, Mod.refl _ _⟩
      case round =>
        obtain ⟨q2, rfl, hq2, hm⟩ := hrel
        by_cases hq2n : q2 < ng
        · have hqx : q2 < gs.length := by rw [HGL.out]; exact hq2n
          have hx? := List.getElem?_eq_getElem hqx
          have hmem := List.getElem_mem hqx
          obtain ⟨ga, ca, ea, a0, a1, a2, a3⟩ := (HA5.out.later hm).cells4 hx?
          injection ea with ea1 ea2 ea3
          subst ea1 ea3
          obtain ⟨gb, cb, eb, b0, b1, b2, b3⟩ := (HB5.out.later hm).cells4 hx?
          injection eb with eb1 eb2 eb3
          subst eb1 eb3
          generalize gs[q2]'hqx = x at *
          have hw := HWHO.out x hmem
          rw [HORL.out, HOZZ.out] at hw
          have hpos : 0 < ms.length := by
            rcases hw with ⟨i, _, m, hm, _⟩ | ⟨j, i, _, _, _, m, hm, _⟩
            · have := (List.getElem?_eq_some_iff.1 hm).1; omega
            · have := (List.getElem?_eq_some_iff.1 hm).1; omega
          obtain ⟨gx, cx', ex, -, hgx, hgxl⟩ := HX5.out.form1 hpos
          injection ex with ex1 ex2 ex3
          subst ex1
          have HW := Lib.hid hw
          have hcx : ∀ (W : World), Mod (fun _ => False) w5 W → ∀ (i : Nat) (m : Ms), ms[i]? = some m → i < q ∧ W.cell? ⟨gx, i * 6, none⟩ = some (.int .i64 m.peer) ∧ W.cell? ⟨gx, i * 6 + 1, none⟩ = some (.int .u64 m.id) := fun W hM i m hi =>
            ⟨by have := (List.getElem?_eq_some_iff.1 hi).1; rw [HN.out] at this; exact this, (HX5.out.later hM).cell encM_len hi (j := 0) (by omega), (HX5.out.later hM).cell encM_len hi (j := 1) (by omega)⟩
          have HCX := Lib.hid hcx
          have HM := Lib.hid hm
          have HXQ := Lib.hid hx?
          clear hx? ea2 eb2 hm hw hmem ex2 ex3 hcx hpos
          go_wp2_with fail
          go_quiet (fail)
          go_upto_region 20 with fail
          have hwm : Mod (fun _ => False) w5 wr := HM.out
          go_cut [19] from 137 to 171 (fun m wx => ∃ b : Bool, m = .bool b ∧ aheadG ms o x k b 0 ∧ Mod (fun _ => False) w5 wx)
          case first =>
            by_cases hz : 0 ≤ oz
            · obtain ⟨i1, m1, e1, hm1⟩ := HOZ.out hz
              obtain ⟨hi1, d0, d1⟩ := HCX.out _ hwm _ _ hm1
              have hot : oz.toNat = i1 := by omega
              have z1 : decide ((0 : Int) ≤ oz) = true := by simp; omega
              have z2 : decide (oz < (q : Int)) = true := by simp; omega
              have z4 : oz < (q : Int) := by omega
              rw [← hot] at d0 d1
              by_cases hpe : m1.peer = x.peer
              · have y1 : (m1.peer == x.peer) = true := by simp [hpe]
                by_cases hid : m1.id = x.id
                · have y2 : (m1.id == x.id) = true := by simp [hid]
                  have HF := Lib.hid (show aheadG ms o x k true 0 from .inl rfl)
                  clear hpe hid e1 hot
                  go_quiet (fail)
                  go_wp2_with fail
                  go_meet
                  case rel => exact ⟨_, rfl, HF.out, (HM.out.drewN _).drewN _⟩
                · have y2 : (m1.id == x.id) = false := by simp [hid]
                  have HF := Lib.hid (show aheadG ms o x k false 0 from by
                    rcases HW.out with ⟨i, h1, m, h2, h3, h4⟩ | ⟨j, i, h1, h2, h3, h4⟩
                    · have : i = i1 := by omega
                      subst this
                      rw [hm1] at h2
                      obtain rfl := Option.some.inj h2
                      exact absurd h4 hid
                    · exact .inr ⟨j, i, Nat.zero_le _, h1, h2, h3, h4⟩)
                  clear hpe hid e1 hot
                  go_quiet (fail)
                  go_wp2_with fail
                  go_meet
                  case rel => exact ⟨_, rfl, HF.out, (HM.out.drewN _).drewN _⟩
              · have y1 : (m1.peer == x.peer) = false := by simp [hpe]
                have HF := Lib.hid (show aheadG ms o x k false 0 from by
                  rcases HW.out with ⟨i, h1, m, h2, h3, h4⟩ | ⟨j, i, h1, h2, h3, h4⟩
                  · have : i = i1 := by omega
                    subst this
                    rw [hm1] at h2
                    obtain rfl := Option.some.inj h2
                    exact absurd h3 hpe
                  · exact .inr ⟨j, i, Nat.zero_le _, h1, h2, h3, h4⟩)
                clear hpe e1 hot
                go_quiet (fail)
                go_wp2_with fail
                go_meet
                case rel => exact ⟨_, rfl, HF.out, (HM.out.drewN _).drewN _⟩
            · have z1 : decide ((0 : Int) ≤ oz) = false := by simp; omega
              have HF := Lib.hid (show aheadG ms o x k false 0 from by
                rcases HW.out with ⟨i, h1, _⟩ | ⟨j, i, h1, h2, h3, h4⟩
                · omega
                · exact .inr ⟨j, i, Nat.zero_le _, h1, h2, h3, h4⟩)
              clear hz
              go_quiet (fail)
              go_wp2_with fail
              go_meet
              case rel => exact ⟨_, rfl, HF.out, (HM.out.drewN _).drewN _⟩
          case rest =>
            obtain ⟨b, rfl, hah, hmc⟩ := hcut
            have HAH := Lib.hid hah
            have HMC := Lib.hid hmc
            clear hah hmc a0 a1 a2 a3 b0 b1 b2 b3
            go_wp2_with fail
            go_loopw [19, 20] (fun m j wr2 => ∃ (b : Bool) (p : Nat), m = .bool b ∧ j = .int .i64 p ∧ p ≤ no ∧ aheadG ms o x k b p ∧ Mod (fun _ => False) w5 wr2) (fun _ j _ => no - (intOf j).toNat)
            case atStart => exact ⟨b, 0, rfl, rfl, by omega, HAH.out, HMC.out⟩
            case round =>
              obtain ⟨b, p, rfl, rfl, hpo, hah, hm2⟩ := hrel
              have HAH := Lib.hid hah
              have HM2 := Lib.hid hm2
              clear hah
              by_cases hpn : p < no
              · by_cases hpk : (p : Int) < k
                · have hpl : p < o.length := by rw [HOL.out]; exact hpn
                  have ho? := List.getElem?_eq_getElem hpl
                  generalize o[p]'hpl = i1 at *
                  obtain ⟨m1, hm1, _⟩ := HMO.out i1 (by rw [HORL.out]; exact List.mem_of_getElem? ho?)
                  obtain ⟨hi1, d0, d1⟩ := HCX.out _ hm2 _ _ hm1
                  obtain ⟨go, co4, eo, -, hgo, hgol⟩ := HO5.out.form1 (by rw [HOL.out]; omega)
                  injection eo with eo1 eo2 eo3
                  subst eo1
                  have co0 : wr.cell? ⟨go, p, none⟩ = some (.int .i64 (i1 : Int)) := by
                    have := (HO5.out.later hm2).cell encJ_len ho? (j := 0) (by omega)
                    rw [Nat.mul_one, Nat.add_zero] at this
                    exact this
                  obtain ⟨ga', ca', ea, a0, a1, -, -⟩ := (HA5.out.later hm2).cells4 HXQ.out
                  injection ea with ea1 ea2 ea3
                  injection ea1 with ea1
                  injection ea1 with ea1
                  subst ea1
                  have z1 : (p : Int) < (no : Int) := by omega
                  have z2 : decide ((i1 : Int) < 0) = false := by simp
                  have z3 : decide ((q : Int) ≤ (i1 : Int)) = false := by simp; omega
                  have z3' : decide (q ≤ i1) = false := by simp; omega
                  have z4 : (i1 : Int) < (q : Int) := by omega
                  have HOQ := Lib.hid ho?
                  have HM1 := Lib.hid hm1
                  clear hm2 ho? hm1 ea2 ea3 eo2 eo3
                  go_upto_region 26 with fail
                  cases b with
                  | true =>
                    clear HAH
                    go_quiet (fail)
                    go_wp2_with fail
                    go_roundw
                    case rel => exact ⟨true, p + 1, rfl, by go_num, by omega, .inl rfl, HM2.out.drewN _⟩
                    case measure => simp [intOf]; omega
                  | false =>
                    by_cases hpe : m1.peer = x.peer
                    · have y1 : (m1.peer == x.peer) = true := by simp [hpe]
                      by_cases hid : m1.id = x.id
                      · have y2 : (m1.id == x.id) = true := by simp [hid]
                        clear HAH hpe hid
                        go_quiet (fail)
                        go_wp2_with fail
                        go_roundw
                        case rel => exact ⟨true, p + 1, rfl, by go_num, by omega, .inl rfl, HM2.out.drewN _⟩
                        case measure => simp [intOf]; omega
                      · have y2 : (m1.id == x.id) = false := by simp [hid]
                        have HF := Lib.hid (ahead_no HAH.out HOQ.out HM1.out (fun h => hid h.2))
                        clear HAH hpe hid
                        go_quiet (fail)
                        go_wp2_with fail
                        go_roundw
                        case rel => exact ⟨false, p + 1, rfl, by go_num, by omega, HF.out, HM2.out.drewN _⟩
                        case measure => simp [intOf]; omega
                    · have y1 : (m1.peer == x.peer) = false := by simp [hpe]
                      have HF := Lib.hid (ahead_no HAH.out HOQ.out HM1.out (fun h => hpe h.1))
                      clear HAH hpe
                      go_quiet (fail)
                      go_wp2_with fail
                      go_roundw
                      case rel => exact ⟨false, p + 1, rfl, by go_num, by omega, HF.out, HM2.out.drewN _⟩
                      case measure => simp [intOf]; omega
                · have z1 : (p : Int) < (no : Int) := by omega
                  obtain rfl := ahead_end HAH.out (by rw [HOL.out]; omega)
                  clear hm2 HAH
                  go_wp2_with fail
                  go_roundw
                  case rel => exact ⟨q2 + 1, by go_num, by omega, HM2.out⟩
                  case measure => simp [intOf]; omega
              · have z1 : ¬ (p : Int) < (no : Int) := by omega
                obtain rfl := ahead_end HAH.out (by rw [HOL.out]; omega)
                clear hm2 HAH
                go_wp2_with fail
                go_roundw
                case rel => exact ⟨q2 + 1, by go_num, by omega, HM2.out⟩
                case measure => simp [intOf]; omega
        · have z1 : ¬ (q2 : Int) < (ng : Int) := by omega
          have M6 := Lib.hid (M5.out.trans hm (fun _ _ e => e))
          have hc := awakeTop wr (HP.out.later M6.out)
          have HC3 := Lib.hid hc
          clear hm hc
          go_wp2_with fail
          refine HC3.out.mono ?_
          rintro e w6 ⟨rfl, m6⟩
          have M7 := Lib.hid (M6.out.trans m6 (fun _ _ e => e))
          clear m6
          go_wp2_with fail
          go_ret
          exact ⟨rfl, M7.out⟩
end Go.Proofs.YtigkndbkaagboaaGreatDoor
