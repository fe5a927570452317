/- The walk of SrptBudget. -/
import Derived.Test.YtpcgfejdeanenaaSrX
import Derived.Test.YtpcgfejdeanenaaSrV
namespace Go.Proofs.Ytpcgfejdeanenaa
open Go.ChangeShapes Go.WideShapes Go.RowKit
set_option linter.unusedVariables false
set_option maxHeartbeats 8000000
set_option maxRecDepth 100000
attribute [local go_sem ↓] Go.wp_at_zero Go.wp_at_succ
/-- All that stand ahead of the a-th are other ones. -/
def diffM (ms : List Ms) (q : Nat) : Prop := ∀ (a b : Nat) (x y : Ms), b < a → a < q → ms[a]? = some x → ms[b]? = some y → x.peer = y.peer → x.id = y.id → False
theorem diffM.ne {ms : List Ms} (h : diffM ms ms.length) {a b : Nat} {x y : Ms} (ha : ms[a]? = some x) (hb : ms[b]? = some y) (hab : a ≠ b) : x.peer = y.peer → x.id = y.id → False := fun e1 e2 => by
  rcases Nat.lt_or_gt_of_ne hab with hlt | hlt
  · exact h b a y x hlt (List.getElem?_eq_some_iff.1 hb).1 hb ha e1.symm e2.symm
  · exact h a b x y hlt (List.getElem?_eq_some_iff.1 ha).1 ha hb e1 e2
theorem keep11 {a w w' : World} {p1 p2 p3 p4 p5 p6 p7 p8 p9 p10 : Addr} {u1 u2 u3 u4 u5 u6 u7 u8 u9 u10 : Value} (m : Mod (fun _ => False) w w')
    (h : Mod (fun _ => False) a w ∧ w.cell? p1 = some u1 ∧ w.cell? p2 = some u2 ∧ w.cell? p3 = some u3 ∧ w.cell? p4 = some u4 ∧ w.cell? p5 = some u5 ∧ w.cell? p6 = some u6 ∧ w.cell? p7 = some u7 ∧ w.cell? p8 = some u8 ∧ w.cell? p9 = some u9 ∧ w.cell? p10 = some u10) :
    Mod (fun _ => False) a w' ∧ w'.cell? p1 = some u1 ∧ w'.cell? p2 = some u2 ∧ w'.cell? p3 = some u3 ∧ w'.cell? p4 = some u4 ∧ w'.cell? p5 = some u5 ∧ w'.cell? p6 = some u6 ∧ w'.cell? p7 = some u7 ∧ w'.cell? p8 = some u8 ∧ w'.cell? p9 = some u9 ∧ w'.cell? p10 = some u10 := by
  obtain ⟨h0, h1, h2, h3, h4, h5, h6, h7, h8, h9, h10⟩ := h
  exact ⟨h0.trans m (fun _ _ e => e), kept m h1, kept m h2, kept m h3, kept m h4, kept m h5, kept m h6, kept m h7, kept m h8, kept m h9, kept m h10⟩
theorem mod5 {a w : World} {p1 p2 p3 p4 : Addr} {u1 u2 u3 u4 : Value} (h : Mod (fun _ => False) a w ∧ w.cell? p1 = some u1 ∧ w.cell? p2 = some u2 ∧ w.cell? p3 = some u3 ∧ w.cell? p4 = some u4) : Mod (fun _ => False) a w := h.1
theorem walk_budget (v : Value) (ms : List Ms) (k budget share : Int) (w : World) (h : Has w w.heap.size 6 encM v ms) (hl : ms.length ≤ 40) (ha : askG k budget share) :
    Calls Try.prog 4 #[v, .int .i64 k, .int .i64 budget, .int .i64 share] w fun e w' => e = .returned (.bool true) ∧ Mod (fun _ => False) w w' := by
  have hmade := fun (w1 : World) (m : Mod (fun _ => False) w w1) => madeW v ms w1 ((h.later m (Nat.le_refl _)).more m.size) (by omega)
  obtain ⟨k1, k8, b0, b1, s0, s1⟩ := ha
  obtain ⟨A, cap, rfl, hcap⟩ := h.form
  have hl0 : ¬ (40 : Int) < (ms.length : Int) := by omega
  have HMADE := Lib.hid hmade
  have HH := Lib.hid h
  clear h hmade
  generalize hn : ms.length = n at *
  have HN := Lib.hid hn
  clear hn
  go_enter Try.func4, Try.ntmps4
  go_wp2_with fail
  go_loopw [9] (fun i wr => ∃ q : Nat, i = .int .i64 q ∧ q ≤ n ∧ diffM ms q ∧ Mod (fun _ => False) w wr) (fun i _ => n - (intOf i).toNat)
  case atStart => exact ⟨0, rfl, by omega, fun a b x y _ h => absurd h (by omega), Mod.refl _ _⟩
  case round =>
    obtain ⟨q, rfl, hq, hd, hm⟩ := hrel
    have HD := Lib.hid hd
    have HM := Lib.hid hm
    clear hd hm
    obtain ⟨wo, rfl⟩ : ∃ z : World, z = wr := ⟨_, rfl⟩
    by_cases hqn : q < n
    · have hqx : q < ms.length := by rw [HN.out]; exact hqn
      have hx? := List.getElem?_eq_getElem hqx
      generalize ms[q]'hqx = m at *
      have HXQ := Lib.hid hx?
      clear hx?
      go_wp2_with fail
      go_loopw [10] (fun i wr => ∃ j : Nat, i = .int .i64 j ∧ j ≤ q ∧ (∀ (b : Nat) (y : Ms), b < j → ms[b]? = some y → m.peer = y.peer → m.id = y.id → False) ∧ Mod (fun _ => False) wo wr) (fun i _ => q - (intOf i).toNat)
      case atStart => exact ⟨0, rfl, by omega, fun b y h => absurd h (by omega), Mod.refl _ _⟩
      case round =>
        obtain ⟨j, rfl, hj, hdj, hmj⟩ := hrel
        have HDJ := Lib.hid hdj
        have HMJ := Lib.hid hmj
        clear hdj hmj
        by_cases hjq : j < q
        · have hjx : j < ms.length := by rw [HN.out]; omega
          have hy? := List.getElem?_eq_getElem hjx
          generalize ms[j]'hjx = y at *
          have HYJ := Lib.hid hy?
          have hhj := HH.out.later (HM.out.trans HMJ.out (fun _ _ e => e)) (Nat.le_refl _)
          obtain ⟨g, off, rfl, hg, c0, c1, c2, c3, c4, c5⟩ := hhj.atM HXQ.out
          obtain ⟨g', off', e', hg', d0, d1, d2, d3, d4, d5⟩ := hhj.atM hy?
          injection e' with e'
          injection e' with e1 e2
          subst e1 e2
          clear hhj c2 c3 c4 c5 d2 d3 d4 d5 hy? hg'
          have j1 : (j : Int) < (n : Int) := by omega
          by_cases hpe : m.peer = y.peer
          · by_cases hid : m.id = y.id
            · go_wp2_with fail
              go_quiet (fail)
              go_wp2_with fail
              refine (awakeW _).mono ?_
              rintro e w5 ⟨rfl, m5⟩
              have M5 := Lib.hid (((HM.out.trans HMJ.out (fun _ _ e => e)).drewN _).trans m5 (fun _ _ e => e))
              clear m5
              go_wp2_with fail
              go_ret
              exact ⟨rfl, M5.out⟩
            · have hne : (m.id == y.id) = false := by simpa using hid
              go_wp2_with fail
              go_quiet (fail)
              go_wp2_with fail
              go_roundw
              case rel => exact ⟨j + 1, by go_num, by omega, fun b z hb hz e1 e2 => by
                rcases Nat.lt_succ_iff_lt_or_eq.1 hb with h | h
                · exact HDJ.out b z h hz e1 e2
                · subst h
                  rw [HYJ.out] at hz
                  obtain rfl := Option.some.inj hz
                  exact hid e2, HMJ.out.drewN _⟩
              case measure => simp [intOf]; omega
          · have hne : (m.peer == y.peer) = false := by simpa using hpe
            go_wp2_with fail
            go_quiet (fail)
            go_wp2_with fail
            go_roundw
            case rel => exact ⟨j + 1, by go_num, by omega, fun b z hb hz e1 e2 => by
              rcases Nat.lt_succ_iff_lt_or_eq.1 hb with h | h
              · exact HDJ.out b z h hz e1 e2
              · subst h
                rw [HYJ.out] at hz
                obtain rfl := Option.some.inj hz
                exact hpe e1, HMJ.out.drewN _⟩
            case measure => simp [intOf]; omega
        · have hd2 : diffM ms (q + 1) := fun a b x y hba haq hx hy e1 e2 => by
            rcases Nat.lt_succ_iff_lt_or_eq.1 haq with h | h
            · exact HD.out a b x y hba h hx hy e1 e2
            · subst h
              rw [HXQ.out] at hx
              obtain rfl := Option.some.inj hx
              exact HDJ.out b y (by omega) hy e1 e2
          have HD2 := Lib.hid hd2
          clear hd2
          go_wp2_with fail
          go_roundw
          case rel => exact ⟨q + 1, by go_num, by omega, HD2.out, HM.out.trans HMJ.out (fun _ _ e => e)⟩
          case measure => simp [intOf]; omega
    · obtain rfl : n = q := by omega
      have hmc := HMADE.out wo HM.out
      have HMC := Lib.hid hmc
      clear hmc HMADE hq hqn
      go_wp2_with fail
      refine HMC.out.mono ?_
      rintro e w1 ⟨v1, rfl, hown1, m1⟩
      have M1 := Lib.hid (HM.out.trans m1 (fun _ _ e => e))
      have hX1 := hown1.le HM.out.size
      have hcall := aheadW v1 ms w1 hown1.has (by rw [HN.out]; omega)
      have HC1 := Lib.hid hcall
      have HX1 := Lib.hid hX1
      clear hcall hown1 hX1 m1 HMC HM
      go_wp2_with fail
      refine HC1.out.mono ?_
      rintro e w2 ⟨rfl, m2⟩
      have M2 := Lib.hid (M1.out.trans m2 (fun _ _ e => e))
      have hX2 := HX1.out.later m2
      have hcall := grantsW v1 ms k budget share w2 hX2.has (by rw [HN.out]; omega) k1 k8 b0 b1 s0 s1
      have HC2 := Lib.hid hcall
      have HX2 := Lib.hid hX2
      clear hcall hX2 m2 HC1 HX1 M1
      go_wp2_with fail
      refine HC2.out.mono ?_
      rintro e w3 ⟨v3, rfl, hown3, m3⟩
      have hX3 := HX2.out.later m3
      obtain ⟨Ax, cx, rfl, hcx, hAx⟩ := hX3.form
      obtain ⟨Ag, cg, rfl, hcg, -⟩ := hown3.form
      have M3 := Lib.hid (M2.out.trans m3 (fun _ _ e => e))
      have hlen := grants_len ms k budget share
      have hokE := endG_ok ms (k := k) (share := share) b0 b1
      have hae := aheadS_end ms (k := k) (share := share) b0 b1
      have hab := ahead_bump hokE
      have hgr : grantsL ms k budget share = (endG ms k budget share).met.map (grantOf ms (endG ms k budget share) (firstK ms k)) := rfl
      have hfar : ∀ z, (Value.slice Ax ms.length cx).ownBlock = some z → z < w2.heap.size ∧ w.heap.size ≤ z := fun z e => ⟨(HX2.out.lt z e).2, hX3.base e⟩
      have hxg : ∀ z, (Value.slice Ag (grantsL ms k budget share).length cg).ownBlock = some z → w2.heap.size ≤ z := fun z e => hown3.base e
      rw [hgr] at hown3 hlen hcg hxg ⊢
      have hX4 : Own w3 w.heap.size 39 6 encM (.slice Ax ms.length cx) (bumpM ms (endG ms k budget share).upto ((endG ms k budget share).met.take 0)) := by
        rw [List.take_zero, bump_nil]
        exact hX3
      generalize endG ms k budget share = st at *
      generalize aheadZ ms = az at *
      generalize hgs : st.met.map (grantOf ms st (firstK ms k)) = gs at *
      have hgl : gs.length = st.met.length := by rw [← hgs, List.length_map]
      rw [hgl] at hlen hcg hxg hown3 ⊢
      generalize hng : st.met.length = ng at *
      rw [HN.out] at hcx hX4 hfar ⊢
      have hkk : (ng : Int) ≤ k + 1 := by omega
      have HX4 := Lib.hid hX4
      have HG3 := Lib.hid hown3
      have HOKE := Lib.hid hokE
      have HAE := Lib.hid hae
      have HAB := Lib.hid hab
      have HGS := Lib.hid hgs
      have HGL := Lib.hid hgl
      have HNG := Lib.hid hng
      have HFAR := Lib.hid hfar
      have HXG := Lib.hid hxg
      clear hX3 hX4 hown3 hokE hae hab hgs hgr hgl hng hfar hxg HX2 HC2 M2 m3 hAx
      go_wp2_with fail
      go_loopw [15] (fun i wr => ∃ q : Nat, i = .int .i64 q ∧ q ≤ ng ∧ Own wr w.heap.size 39 6 encM (.slice Ax n cx) (bumpM ms st.upto (st.met.take q)) ∧ Mod (fun z => (Value.slice Ax n cx).ownBlock = some z) w3 wr) (fun i _ => ng - (intOf i).toNat)
      case atStart => exact ⟨0, rfl, by omega, HX4.out, Mod.refl _ _⟩
      case round =>
        obtain ⟨q, rfl, hq, hx, hm⟩ := hrel
        obtain ⟨wo, rfl⟩ : ∃ z : World, z = wr := ⟨_, rfl⟩
        by_cases hqn : q < ng
        · have hqx : q < st.met.length := by rw [HNG.out]; exact hqn
          have ht? := List.getElem?_eq_getElem hqx
          have htm := List.getElem_mem hqx
          obtain ⟨m, hm?, hp, ho⟩ := HOKE.out.mem _ htm
          obtain ⟨u, hu, u1, u2, u3⟩ := HOKE.out.at_ hm?
          have hlt : m.granted < u := u3.1 htm
          have hle : u ≤ m.total := u2 hp
          have hgq : gs[q]? = some ⟨m.peer, m.id, u, prioG (firstK ms k) st.met[q]⟩ := by
            rw [← HGS.out, List.getElem?_map, ht?]
            simp only [Option.map_some, grantOf]
            rw [List.getD_eq_getElem?_getD, List.getD_eq_getElem?_getD, hm?, hu]
            rfl
          have hpr : 0 ≤ prioG (firstK ms k) st.met[q] ∧ prioG (firstK ms k) st.met[q] ≤ 6 := by
            unfold prioG
            split <;> omega
          have hnt := notin_take HOKE.out.nodup ht?
          have hsn : st.met.take (q + 1) = st.met.take q ++ [st.met[q]] := List.take_succ_eq_append_getElem hqx
          generalize st.met[q]'hqx = t at *
          generalize prioG (firstK ms k) t = pr at *
          have hset := bump_set (l := st.met.take q) hm? hu
          rw [← hsn] at hset
          have hx0 : (bumpM ms st.upto (st.met.take q))[t]? = some m := by rw [bump_get hm?, if_neg hnt]
          have hpid : ∀ (l : List Nat) (j : Nat), j < n → j ≠ t → ∃ y, (bumpM ms st.upto l)[j]? = some y ∧ (y.peer = m.peer → y.id = m.id → False) := fun l j hj hjt => by
            have hjx : j < ms.length := by rw [HN.out]; exact hj
            have hy := List.getElem?_eq_getElem hjx
            refine ⟨_, bump_get hy, ?_⟩
            have hd := HD.out
            rw [← HN.out] at hd
            have hne := hd.ne hy hm? hjt
            split <;> exact hne
          have hln : ∀ l, (bumpM ms st.upto l).length = n := fun l => by rw [bump_len]; exact HN.out
          have htn : t < n := by
            have := (List.getElem?_eq_some_iff.1 hm?).1
            rw [HN.out] at this
            exact this
          have hmb := mayB_of hp
          have hy1 := fun w' => mayW m w'
          unfold aggM at hy1
          rw [hmb] at hy1
          have HY1 := Lib.hid hy1
          obtain ⟨gx, cx', ex, -, hgx, hgxl⟩ := hx.form1 (by rw [hln]; omega)
          injection ex with ex1 ex2 ex3
          subst ex1
          have hgs' := HG3.out.mod hm (fun z e1 e2 => by
            have h1 := HXG.out z e1
            have h2 := (HFAR.out z e2).1
            omega)
          obtain ⟨gg, cg', eg, b0', b1', b2', b3'⟩ := hgs'.cells4 hgq
          injection eg with eg1 eg2 eg3
          subst eg1 eg3
          have hggx : gg ≠ gx := fun e => by
            have h1 := HXG.out gg rfl
            have h2 := (HFAR.out gx rfl).1
            omega
          have hgmod : ∀ wz : World, Mod (fun z => (Value.slice (some ⟨gx, 0, none⟩) n cx).ownBlock = some z) wo wz → wz.cell? ⟨gg, q * 4, none⟩ = some (.int .i64 m.peer) ∧ wz.cell? ⟨gg, q * 4 + 1, none⟩ = some (.int .u64 m.id) ∧ wz.cell? ⟨gg, q * 4 + 2, none⟩ = some (.int .i64 u) ∧ wz.cell? ⟨gg, q * 4 + 3, none⟩ = some (.int .i64 pr) := fun wz mz => by
            have far : ∀ (p : Addr) (y : Value), p.block = gg → wo.cell? p = some y → wz.cell? p = some y := fun p y hb hc => by
              rw [mz.cell (World.block_lt_of_cell? _ _ hc) (fun e => hggx (hb ▸ (Option.some.inj e).symm))]
              exact hc
            exact ⟨far _ _ rfl b0', far _ _ rfl b1', far _ _ rfl b2', far _ _ rfl b3'⟩
          have HGM := Lib.hid hgmod
          have HX0 := Lib.hid hx0
          have HP0 := Lib.hid (hpid (st.met.take q))
          have HP1 := Lib.hid (hpid (st.met.take (q + 1)))
          have HSET := Lib.hid hset
          have HMO := Lib.hid hm
          have HXO := Lib.hid hx
          generalize bumpM ms st.upto (st.met.take q) = X0 at *
          obtain ⟨X1, hX1⟩ : ∃ z, bumpM ms st.upto (st.met.take (q + 1)) = z := ⟨_, rfl⟩
          rw [hX1] at HP1 HSET
          have HX1 := Lib.hid hX1
          have e1 : decide (u ≤ m.granted) = false := by simp; omega
          have e2 : decide (m.total < u) = false := by simp; omega
          have e3 : decide (pr < 0) = false := by simp; omega
          have e4 : decide (6 < pr) = false := by simp; omega
          clear hgmod hx0 hpid hset hm hx hX1 hy1 hmb hgs' hln hsn hnt hgq hu hm? ht? htm u2 u3 b0' b1' b2' b3' ex3 ex2 eg2
          go_wp2_with fail
          go_loopw [16, 17] (fun mt i wr => ∃ (j : Nat) (β : Bool) (xs : List Ms), i = .int .i64 j ∧ mt = .bool β ∧ j ≤ n ∧ ((j ≤ t ∧ β = false ∧ xs = X0) ∨ (t < j ∧ β = true ∧ xs = X1)) ∧ Own wr w.heap.size 39 6 encM (.slice (some ⟨gx, 0, none⟩) n cx) xs ∧ Mod (fun z => (Value.slice (some ⟨gx, 0, none⟩) n cx).ownBlock = some z) wo wr) (fun _ i _ => n - (intOf i).toNat)
          case atStart => exact ⟨0, false, X0, rfl, rfl, by omega, .inl ⟨by omega, rfl, rfl⟩, HXO.out, Mod.refl _ _⟩
          case round =>
            obtain ⟨j, β, xs, rfl, rfl, hj, hcase, hxj, hmj⟩ := hrel
            obtain ⟨q0, q1, q2, q3⟩ := HGM.out wr hmj
            by_cases hjn : j < n
            · have hj1 : (j : Int) < (n : Int) := by omega
              by_cases hjt : j = t
              · obtain ⟨_, rfl, rfl⟩ : j ≤ t ∧ β = false ∧ xs = X0 := hcase.resolve_right (fun e => by omega)
                subst hjt
                have c0 : wr.cell? ⟨gx, j * 6, none⟩ = some (.int .i64 m.peer) := hxj.cell encM_len HX0.out (j := 0) (by omega)
                have c1 : wr.cell? ⟨gx, j * 6 + 1, none⟩ = some (.int .u64 m.id) := hxj.cell encM_len HX0.out (j := 1) (by omega)
                have c2 : wr.cell? ⟨gx, j * 6 + 2, none⟩ = some (.int .i64 m.total) := hxj.cell encM_len HX0.out (j := 2) (by omega)
                have c3 : wr.cell? ⟨gx, j * 6 + 3, none⟩ = some (.int .i64 m.hav) := hxj.cell encM_len HX0.out (j := 3) (by omega)
                have c4 : wr.cell? ⟨gx, j * 6 + 4, none⟩ = some (.int .i64 m.granted) := hxj.cell encM_len HX0.out (j := 4) (by omega)
                have c5 : wr.cell? ⟨gx, j * 6 + 5, none⟩ = some (.int .i64 m.born) := hxj.cell encM_len HX0.out (j := 5) (by omega)
                have HXJ := Lib.hid hxj
                have HMJ := Lib.hid hmj
                clear hxj hmj hcase
                go_upto_region 23 with fail
                go_region_held3 (fun w' => Mod (fun _ => False) wr w' ∧ w'.cell? ⟨gx, j * 6, none⟩ = some (.int .i64 m.peer) ∧ w'.cell? ⟨gx, j * 6 + 1, none⟩ = some (.int .u64 m.id) ∧ w'.cell? ⟨gx, j * 6 + 2, none⟩ = some (.int .i64 m.total) ∧ w'.cell? ⟨gx, j * 6 + 3, none⟩ = some (.int .i64 m.hav) ∧ w'.cell? ⟨gx, j * 6 + 4, none⟩ = some (.int .i64 m.granted) ∧ w'.cell? ⟨gx, j * 6 + 5, none⟩ = some (.int .i64 m.born) ∧ w'.cell? ⟨gg, q * 4, none⟩ = some (.int .i64 m.peer) ∧ w'.cell? ⟨gg, q * 4 + 1, none⟩ = some (.int .u64 m.id) ∧ w'.cell? ⟨gg, q * 4 + 2, none⟩ = some (.int .i64 u) ∧ w'.cell? ⟨gg, q * 4 + 3, none⟩ = some (.int .i64 pr))
                  (first | assumption | exact ⟨(Mod.refl _ _).drew, by assumption, by assumption, by assumption, by assumption, by assumption, by assumption, by assumption, by assumption, by assumption, by assumption⟩ | exact keep11 (by assumption) (by assumption))
                  ((go_at_call 11; refine (HY1.out _).mono ?_; rintro e wa ⟨rfl, ma⟩))
                all_goals
                  have mwa : Mod (fun _ => False) wr wa := (Mod.refl _ wr).drew.trans ma (fun _ _ e => e)
                  have hxa := HXJ.out.later mwa
                  have hfr : wa.frozen? ⟨gx, j * 6 + 4, none⟩ = false := hxa.free _
                  have HXS := Lib.hid fun nq : Nat => (hxa.later ((Mod.refl (fun _ => False) wa).drewN nq)).set encM_len HX0.out (j := 4) (by omega) (.int .i64 u) { m with granted := u } rfl
                  have HMS := Lib.hid fun nq : Nat => ((HMJ.out.trans mwa (fun _ _ e => e.elim)).drewN nq).setCell (p := ⟨gx, j * 6 + 4, none⟩) (fun _ => rfl) (.int .i64 u)
                  clear mwa hxa ma
                  go_wp2_with fail
                  go_quiet (fail)
                  go_wp2_with fail
                  go_roundw
                  case rel => exact ⟨j + 1, true, X1, by go_num, rfl, by omega, .inr ⟨by omega, rfl, rfl⟩, by rw [← HSET.out]; exact HXS.out _, HMS.out _⟩
                  case measure => simp [intOf]; omega
              · have hget : ∃ y, xs[j]? = some y ∧ (y.peer = m.peer → y.id = m.id → False) := by
                  rcases hcase with ⟨_, _, rfl⟩ | ⟨_, _, rfl⟩
                  · exact HP0.out j hjn hjt
                  · exact HP1.out j hjn hjt
                obtain ⟨y, hy?, hyd⟩ := hget
                have c0 : wr.cell? ⟨gx, j * 6, none⟩ = some (.int .i64 y.peer) := hxj.cell encM_len hy? (j := 0) (by omega)
                have c1 : wr.cell? ⟨gx, j * 6 + 1, none⟩ = some (.int .u64 y.id) := hxj.cell encM_len hy? (j := 1) (by omega)
                have hcase' : (j + 1 ≤ t ∧ β = false ∧ xs = X0) ∨ (t < j + 1 ∧ β = true ∧ xs = X1) := by
                  rcases hcase with ⟨h1, h2, h3⟩ | ⟨h1, h2, h3⟩
                  · exact .inl ⟨by omega, h2, h3⟩
                  · exact .inr ⟨by omega, h2, h3⟩
                have HXJ := Lib.hid hxj
                have HMJ := Lib.hid hmj
                have HCA := Lib.hid hcase'
                clear hxj hmj hcase hcase' hy?
                by_cases hpe : y.peer = m.peer
                · have hne0 : ¬ y.id = m.id := hyd hpe
                  have hne : (y.id == m.id) = false := by simpa using hne0
                  have hne2 : (y.id != m.id) = true := by simpa using hne0
                  have hne3 : decide (y.id = m.id) = false := by simpa using hne0
                  rw [hpe] at c0
                  clear hpe hyd
                  go_upto_region 23 with fail
                  go_quiet (fail)
                  go_wp2_with fail
                  go_roundw
                  case rel => exact ⟨j + 1, β, xs, by go_num, rfl, by omega, HCA.out, HXJ.out.later ((Mod.refl _ _).drewN _), HMJ.out.drewN _⟩
                  case measure => simp [intOf]; omega
                · have hne : (y.peer == m.peer) = false := by simpa using hpe
                  have hne2 : (y.peer != m.peer) = true := by simpa using hpe
                  have hne3 : decide (y.peer = m.peer) = false := by simpa using hpe
                  clear hyd
                  go_upto_region 23 with fail
                  go_quiet (fail)
                  go_wp2_with fail
                  go_roundw
                  case rel => exact ⟨j + 1, β, xs, by go_num, rfl, by omega, HCA.out, HXJ.out.later ((Mod.refl _ _).drewN _), HMJ.out.drewN _⟩
                  case measure => simp [intOf]; omega
            · obtain ⟨_, rfl, rfl⟩ : t < j ∧ β = true ∧ xs = X1 := hcase.resolve_left (fun e => by omega)
              have HXJ := Lib.hid hxj
              have HMJ := Lib.hid hmj
              clear hxj hmj hcase
              go_wp2_with fail
              go_roundw
              case rel => exact ⟨q + 1, by go_num, by omega, by rw [HX1.out]; exact HXJ.out, HMO.out.trans HMJ.out (fun _ _ e => e)⟩
              case measure => simp [intOf]; omega
        · obtain rfl : ng = q := by omega
          have htk : st.met.take ng = st.met := List.take_of_length_le (by rw [HNG.out]; exact Nat.le_refl _)
          rw [htk] at hx
          have hax := aheadW (.slice Ax n cx) (bumpM ms st.upto st.met) wo hx.has (by rw [bump_len, HN.out]; omega)
          rw [HAB.out] at hax
          obtain ⟨h1, h2⟩ := HAE.out
          clear HAE HAB
          generalize aheadS ms st = sA at *
          have HAX := Lib.hid hax
          have HMO := Lib.hid (M3.out.trans hm (fun z hz e => by
            have := (HFAR.out z e).2
            omega))
          have e1 : decide (az ≤ sA) = true := by simp; omega
          have e2 : decide (sA ≤ max az budget) = true := by simp; omega
          clear hax hm hx htk
          go_wp2_with fail
          refine HAX.out.mono ?_
          rintro e w7 ⟨rfl, m7⟩
          have M7 := Lib.hid (HMO.out.trans m7 (fun _ _ e => e))
          clear m7
          go_wp2_with fail
          refine (awakeW _).mono ?_
          rintro e w8 ⟨rfl, m8⟩
          have M8 := Lib.hid (M7.out.trans m8 (fun _ _ e => e))
          clear m8
          go_wp2_with fail
          go_ret
          exact ⟨rfl, M8.out⟩
end Go.Proofs.Ytpcgfejdeanenaa
