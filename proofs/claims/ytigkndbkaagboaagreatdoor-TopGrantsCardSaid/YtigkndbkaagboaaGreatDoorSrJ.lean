/- Whom to grant: the reference's Grants. -/
import Derived.Test.YtigkndbkaagboaaGreatDoorSrI
import Derived.Test.YtigkndbkaagboaaGreatDoorSrK
import Derived.Deep.LoopGhost
import Derived.Deep.CutBlock
namespace Go.Proofs.YtigkndbkaagboaaGreatDoor
open Go.RowKit Go.Sort
set_option linter.unusedVariables false
set_option linter.unusedSimpArgs false
set_option maxHeartbeats 4000000
set_option maxRecDepth 100000
attribute [local go_sem ↓] Go.wp_at_zero Go.wp_at_succ
theorem Own.atI {w : World} {B : Nat} {T : TypeId} {g n cap : Nat} {zs : List Int} (h : Own w B T 1 encI (.slice (some ⟨g, 0, none⟩) n cap) zs) {i : Nat} {x : Int} (hi : zs[i]? = some x) :
    w.cell? ⟨g, i, none⟩ = some (.int .i64 x) := by
  have := h.cell encI_len hi (j := 0) (by omega)
  rw [Nat.mul_one, Nat.add_zero] at this
  exact this
theorem Own.setI {w : World} {B : Nat} {T : TypeId} {g n cap : Nat} {zs : List Int} (h : Own w B T 1 encI (.slice (some ⟨g, 0, none⟩) n cap) zs) {i : Nat} (hi : i < zs.length) (x : Int) :
    Own (w.setCell ⟨g, i, none⟩ (.int .i64 x)) B T 1 encI (.slice (some ⟨g, 0, none⟩) n cap) (zs.set i x) := by
  have := h.set encI_len (List.getElem?_eq_getElem hi) (j := 0) (by omega) (.int .i64 x) x rfl
  rw [Nat.mul_one, Nat.add_zero] at this
  exact this
/-- The two made lists: how far each may go, and on which line. -/
structure Rt (w : World) (B gu gp n : Nat) (up pr : List Int) : Prop where
  u : Own w B 3 1 encI (.slice (some ⟨gu, 0, none⟩) n n) up
  p : Own w B 3 1 encI (.slice (some ⟨gp, 0, none⟩) n n) pr
  ne : gu ≠ gp
  lu : up.length = n
  lp : pr.length = n
theorem Rt.later {w w' : World} {B gu gp n : Nat} {up pr : List Int} (h : Rt w B gu gp n up pr) (m : Mod (fun _ => False) w w') : Rt w' B gu gp n up pr :=
  ⟨h.u.later m, h.p.later m, h.ne, h.lu, h.lp⟩
theorem Rt.mod {w w' : World} {B gu gp n : Nat} {up pr : List Int} {S : Nat → Prop} (h : Rt w B gu gp n up pr) (m : Mod S w w') (hu : ¬ S gu) (hp : ¬ S gp) : Rt w' B gu gp n up pr :=
  ⟨h.u.mod m (fun k e => Option.some.inj e ▸ hu), h.p.mod m (fun k e => Option.some.inj e ▸ hp), h.ne, h.lu, h.lp⟩
theorem Rt.setU {w : World} {B gu gp n : Nat} {up pr : List Int} (h : Rt w B gu gp n up pr) {i : Nat} (hi : i < n) (x : Int) : Rt (w.setCell ⟨gu, i, none⟩ (.int .i64 x)) B gu gp n (up.set i x) pr :=
  ⟨h.u.setI (by rw [h.lu]; exact hi) x, h.p.mod ((Mod.refl (fun k => k = gu) w).setCell (p := ⟨gu, i, none⟩) (fun _ => rfl) (.int .i64 x)) (fun k e => Option.some.inj e ▸ fun e2 => h.ne e2.symm), h.ne, by rw [List.length_set]; exact h.lu, h.lp⟩
theorem Rt.setP {w : World} {B gu gp n : Nat} {up pr : List Int} (h : Rt w B gu gp n up pr) {i : Nat} (hi : i < n) (x : Int) : Rt (w.setCell ⟨gp, i, none⟩ (.int .i64 x)) B gu gp n up (pr.set i x) :=
  ⟨h.u.mod ((Mod.refl (fun k => k = gp) w).setCell (p := ⟨gp, i, none⟩) (fun _ => rfl) (.int .i64 x)) (fun k e => Option.some.inj e ▸ h.ne), h.p.setI (by rw [h.lp]; exact hi) x, h.ne, h.lu, by rw [List.length_set]; exact h.lp⟩
theorem Rt.fu {w : World} {B gu gp n : Nat} {up pr : List Int} (h : Rt w B gu gp n up pr) (i : Nat) : w.frozen? ⟨gu, i, none⟩ = false := h.u.free i
theorem Rt.fp {w : World} {B gu gp n : Nat} {up pr : List Int} (h : Rt w B gu gp n up pr) (i : Nat) : w.frozen? ⟨gp, i, none⟩ = false := h.p.free i
theorem made_own {w w1 : World} {g B n : Nat} (h : w1.ownsRow B 3 1 (.slice (some ⟨g, 0, none⟩) n n) n (List.replicate n (Value.int .i64 0))) : Own w1 B 3 1 encI (.slice (some ⟨g, 0, none⟩) n n) (List.replicate n 0) := by
  unfold Own
  rw [List.length_replicate, flat_I, List.map_replicate]
  exact h
theorem notin_take {l : List Nat} (h : l.Nodup) {q i : Nat} (hi : l[q]? = some i) : i ∉ l.take q := fun hm => by
  rw [← List.take_append_drop q l] at h
  have hd : i ∈ l.drop q := List.mem_of_getElem? (i := 0) (by rw [List.getElem?_drop]; exact hi)
  exact (List.nodup_append.1 h).2.2 i hm i hd rfl
/-- The reference's grants under way. -/
structure Sj (w5 wr : World) (B gu gp n : Nat) (v : Value) (st : Gs) (pr : List Int) : Prop where
  r : Rt wr B gu gp n st.upto pr
  o : Own wr w5.heap.size 3 1 encJ v st.met
  m : Mod (fun q => q = gu ∨ q = gp) w5 wr
theorem rgrant_info : (Tryz.prog.info? 41).map (fun i => (i.zero, i.size, i.bytes)) = some (some (.agg #[.int .i64 0, .int .u64 0, .int .i64 0, .int .i64 0]), 4, 32) := by kernel_rfl
theorem refGrantsW (v : Value) (ms : List Ms) (k budget share : Int) (w : World) (h : Has w w.heap.size 6 encM v ms) (hl : ms.length ≤ 10000) (k1 : 1 ≤ k) (k8 : k ≤ 8) (b0 : 0 ≤ budget) (b1 : budget ≤ 1099511627776) (s0 : 0 ≤ share) (s1 : share ≤ budget) :
    Calls Tryz.prog 9 #[v, .int .i64 k, .int .i64 budget, .int .i64 share] w fun e w' => ∃ v', e = .returned (.tuple #[v', .int .i64 0]) ∧ Own w' w.heap.size 41 4 encG v' (grantsL ms k budget share) ∧ Mod (fun _ => False) w w' := by
  obtain ⟨i0, hi0, hz0, hz1, hz2⟩ := info_parts int_info
  obtain ⟨A, cap, rfl, hcap⟩ := h.form
  have hah := refAheadW _ ms w h (by omega)
  have hahb : 0 ≤ aheadZ ms ∧ aheadZ ms ≤ 107374182400000 := by
    have hb := ahead_bd (ms := ms) (l := openL ms) fun i hi => by
      obtain ⟨m, a, b, c, _⟩ := open_mem hi
      exact ⟨m, a, b, c⟩
    have := openTo_len ms ms.length
    unfold aheadZ openL at *
    omega
  have hsub : max (budget - aheadZ ms) 0 = (startG ms budget).room := rfl
  have HH := Lib.hid h
  have HAH := Lib.hid hah
  have HSUB := Lib.hid hsub
  clear h hah hsub
  generalize hn : ms.length = n at *
  have HN := Lib.hid hn
  clear hn
  go_enter Tryz.func9, Tryz.ntmps9
  go_wp2_with fail
  refine HAH.out.mono ?_
  rintro e w1 ⟨rfl, m1⟩
  have M1 := Lib.hid m1
  have hsz1 := m1.size
  clear m1
  go_wp2_with (at_make; (first
    | (refine wpList_make_full _ rfl (.tmp 53) (.tmp 53) _ rfl w1.heap.size 3 i0 _ 1 Tryz.underlying36 hi0 hz0 hz1 .i64 .i64 (n : Int) (n : Int) n rfl rfl rfl rfl (by rw [hz2]; omega) (by simp only [maxLen]; omega) (Nat.le_refl _) ?_; intro w2 hown2 hgr2)
    | (refine wpList_make_full _ rfl (.tmp 56) (.tmp 56) _ rfl w2.heap.size 3 i0 _ 1 Tryz.underlying36 hi0 hz0 hz1 .i64 .i64 (n : Int) (n : Int) n rfl rfl rfl rfl (by rw [hz2]; omega) (by simp only [maxLen]; omega) (Nat.le_refl _) ?_; intro w3 hown3 hgr3)))
  rw [show (Value.int .i64 0).cells = #[Value.int .i64 0] from rfl, toList_madeCells_one, Nat.mul_one] at hown2
  have m2 : Mod (fun _ => False) w1 w2 := (Mod.ofGrown hgr2).mono (fun _ _ h => by cases h)
  have hu2 := made_own (w := w1) hown2
  have hlt2 := (hu2.lt w1.heap.size rfl).2
  have HU2 := Lib.hid hu2
  have M2 := Lib.hid (M1.out.trans m2 (fun _ _ e => e))
  clear hown2 hgr2 hu2 m2
  rw [show (Value.int .i64 0).cells = #[Value.int .i64 0] from rfl, toList_madeCells_one, Nat.mul_one] at hown3
  have m3 : Mod (fun _ => False) w2 w3 := (Mod.ofGrown hgr3).mono (fun _ _ h => by cases h)
  obtain ⟨gu, hgu⟩ : ∃ g, g = w1.heap.size := ⟨_, rfl⟩
  obtain ⟨gp, hgp⟩ : ∃ g, g = w2.heap.size := ⟨_, rfl⟩
  have rt3 : Rt w3 w.heap.size gu gp n (((ms.take 0).map fun m => m.granted) ++ List.replicate (n - 0) 0) (List.replicate n 0) :=
    ⟨by simpa [hgu] using (HU2.out.later m3).le hsz1, by rw [hgp]; exact (made_own (w := w2) hown3).le M2.out.size, by omega, by simp, by simp⟩
  have RT3 := Lib.hid rt3
  have M3 := Lib.hid (M2.out.trans m3 (fun _ _ e => e))
  have hgub : w.heap.size ≤ gu := by omega
  have hgpb : w.heap.size ≤ gp := by have := M2.out.size; omega
  have hne := rt3.ne
  rw [← hgu, ← hgp]
  clear hown3 hgr3 m3 rt3 HU2 M2 M1 hlt2 hsz1 hgu hgp
  go_wp2_with fail
  go_loopg [14] n (fun gk i wr => ∃ j : Nat, gk + j = n ∧ i = .int .i64 j ∧ Rt wr w.heap.size gu gp n (((ms.take j).map fun m => m.granted) ++ List.replicate (n - j) 0) (List.replicate n 0) ∧ Mod (fun _ => False) w wr)
  case atStart => exact ⟨0, by omega, rfl, RT3.out, M3.out⟩
  case round =>
    clear RT3 M3
    obtain ⟨j, hgj, rfl, rt, hm⟩ := hrel
    obtain ⟨gout, rfl⟩ : ∃ n : Nat, n = gk := ⟨_, rfl⟩
    by_cases hjn : j < n
    · have hjx : j < ms.length := by rw [HN.out]; exact hjn
      have hx? := List.getElem?_eq_getElem hjx
      have hsp := set_part ms hx?
      rw [HN.out] at hsp
      have hput := rt.setU hjn (ms[j]'hjx).granted
      rw [hsp] at hput
      have HPUT := Lib.hid hput
      have HMP := Lib.hid (hm.setCell (p := ⟨gu, j, none⟩) (fun e => (by exact absurd e (Nat.not_lt.2 hgub))) (.int .i64 (ms[j]'hjx).granted))
      obtain ⟨g, off, rfl, hg, c0, c1, c2, c3, c4, c5⟩ := (HH.out.later hm (Nat.le_refl _)).atM hx?
      have hul : j < ((ms.take j).map (fun m => m.granted) ++ List.replicate (n - j) (0 : Int)).length := by rw [rt.lu]; exact hjn
      have hcu := rt.u.atI (List.getElem?_eq_getElem hul)
      have hfu := rt.fu j
      generalize (List.map (fun m : Ms => m.granted) (List.take j ms) ++ List.replicate (n - j) (0 : Int))[j]'hul = old at *
      generalize ms[j]'hjx = m at *
      clear rt hsp hput hm c0 c1 c2 c3 c5 hx?
      go_wp2_with fail
      go_roundg (gout - 1)
      case measure => omega
      case rel => exact ⟨j + 1, by omega, by go_num, HPUT.out, HMP.out⟩
    · have hjn2 : j = n := by omega
      have hups : (ms.take j).map (fun m => m.granted) ++ List.replicate (n - j) 0 = (startG ms budget).upto := by
        rw [hjn2, Nat.sub_self, List.replicate_zero, List.append_nil, ← HN.out, List.take_length]
        rfl
      rw [hups] at rt
      have RT := Lib.hid rt
      have HM := Lib.hid hm
      clear rt hm hups hjn2
      have hordc := refOrderW (.slice A n cap) ms wr ((HH.out.later HM.out (Nat.le_refl _)).more HM.out.size) (by rw [HN.out]; omega)
      have HORD := Lib.hid hordc
      clear hordc
      go_wp2_with fail
      refine HORD.out.mono ?_
      rintro e w4 ⟨v4, rfl, hown4, m4⟩
      obtain ⟨A4, cap4, rfl, hcap4, -⟩ := hown4.form
      have HM4 := Lib.hid (HM.out.trans m4 (fun _ _ e => e))
      have holdc := refOldestW (.slice A n cap) ms w4 ((HH.out.later HM4.out (Nat.le_refl _)).more HM4.out.size) (by rw [HN.out]; omega)
      have HOLD := Lib.hid holdc
      have HO4 := Lib.hid hown4
      have HM44 := Lib.hid m4
      clear hown4 m4 holdc
      go_wp2_with fail
      refine HOLD.out.mono ?_
      rintro e w5 ⟨rfl, m5⟩
      have hguw := (RT.out.u.lt gu rfl).2
      have hgpw := (RT.out.p.lt gp rfl).2
      have hob : ∀ q, (Value.slice A4 (orderL false ms).length cap4).ownBlock = some q → ¬ (q = gu ∨ q = gp) := fun q e => by
        have := HO4.out.base e
        omega
      have HOB := Lib.hid hob
      have HF5 := Lib.hid (HO4.out.later m5).has
      have M5 := Lib.hid (HM4.out.trans m5 (fun _ _ e => e))
      have RT5 := Lib.hid (RT.out.later (HM44.out.trans m5 (fun _ _ e => e)))
      have hgu5 : gu < w5.heap.size := Nat.lt_of_lt_of_le hguw (Nat.le_trans HM44.out.size m5.size)
      have hgp5 : gp < w5.heap.size := Nat.lt_of_lt_of_le hgpw (Nat.le_trans HM44.out.size m5.size)
      have hlo : (orderL false ms).length ≤ n := by
        rw [order_len, ← HN.out]
        exact openTo_len ms ms.length
      have HOK0 := Lib.hid (startG_ok ms b0 b1)
      clear hob m5 RT HM HM4 HM44 HO4 hguw hgpw HORD HOLD
      generalize hL : (orderL false ms).length = nl at *
      have HL := Lib.hid hL
      clear hL
      obtain ⟨β, hβ⟩ : ∃ β, decide (0 < share ∧ 0 ≤ oldestZ ms) = β := ⟨_, rfl⟩
      have HBT := Lib.hid hβ
      clear hβ
      rw [HSUB.out]
      generalize hst0 : startG ms budget = st at *
      have HST := Lib.hid hst0
      clear hst0
      go_upto_region 13 with fail
      go_cut [81] from 76 to 80 (fun x wx => x = .bool β ∧ wx = w5)
      case first =>
        by_cases c1 : 0 ≤ oldestZ ms
        · by_cases c2 : 0 < share
          · have HB3 : Hid (true = β) := Lib.hid (by rw [← HBT.out]; simp [c1, c2])
            go_wp2_with fail
            go_meet
            case rel => exact ⟨congrArg Value.bool HB3.out, rfl⟩
          · have HB3 : Hid (false = β) := Lib.hid (by rw [← HBT.out]; simp [c2])
            go_wp2_with fail
            go_meet
            case rel => exact ⟨congrArg Value.bool HB3.out, rfl⟩
        · have HB3 : Hid (false = β) := Lib.hid (by rw [← HBT.out]; simp [c1])
          go_wp2_with fail
          go_meet
          case rel => exact ⟨congrArg Value.bool HB3.out, rfl⟩
      case rest =>
        obtain ⟨rfl, hwc⟩ := hcut
        rw [hwc]
        clear hwc
        go_upto_if 81 with fail
        go_cut [10, 13, 17] from 82 to 127 (fun x y _ wx => x = .int .i64 (shareG ms budget share).room ∧ Sj w5 wx w.heap.size gu gp n y (shareG ms budget share) (List.replicate n 0))
        case first =>
          cases β with
          | true =>
            obtain ⟨c2, c1⟩ : 0 < share ∧ 0 ≤ oldestZ ms := by simpa using HBT.out
            obtain ⟨m, hm, hp, ho⟩ := oldest_mem c1
            obtain ⟨i, hi⟩ : ∃ i : Nat, oldestZ ms = i := ⟨_, oldest_eq c1⟩
            have hsh : shareG ms budget share = stepG ms st i share := by
              unfold shareG
              rw [if_pos ⟨c2, c1⟩, hi, Int.toNat_natCast, HST.out]
            rw [hi, Int.toNat_natCast] at hm
            obtain ⟨u, hu, u1, u2, u3⟩ := HOK0.out.at_ hm
            have he := refU_eq (ahead := share) HOK0.out hm hu
            have hut := u2 hp
            have r0 := HOK0.out.room0
            have r1 := HOK0.out.room1
            obtain ⟨g, off, rfl, hg, d0, d1, d2, d3, d4, d5⟩ := (HH.out.later M5.out (Nat.le_refl _)).atM hm
            have hcu := RT5.out.u.atI hu
            have hfu := RT5.out.fu i
            have hin : i < n := by
              have := (List.getElem?_eq_some_iff.1 hm).1
              rw [HN.out] at this
              exact this
            have ii1 : (i : Int) < (n : Int) := by omega
            obtain ⟨p1, p2, p3, p4, p5, p6, p7, p8, p9⟩ := hp
            have HSH := Lib.hid hsh
            have HE := Lib.hid he
            have HU := Lib.hid hu
            have HMI := Lib.hid hm
            rw [hi]
            clear hsh he hm hu u2 u3 d0 d1 d4 d5
            go_upto_region 14 with fail
            go_cut [17] from 82 to 105 (fun x wx => x = .int .i64 (u + moreG ms st i share) ∧ Rt wx w.heap.size gu gp n st.upto (List.replicate n 0) ∧ Mod (fun _ => False) w5 wx)
            case first =>
              go_quiet (fail)
              go_wp2_with fail
              all_goals
                go_meet
                case rel => exact ⟨congrArg (Value.int .i64) (by have := HE.out; omega), RT5.out.later ((Mod.refl _ _).drewN _), (Mod.refl _ _).drewN _⟩
            case rest =>
              obtain ⟨rfl, rt6, m6⟩ := hcut
              obtain ⟨w6, rfl⟩ : ∃ z : World, z = wc := ⟨_, rfl⟩
              have hmn := more_nn ms st i share
              have hmb : moreG ms st i share ≤ st.room := by
                rw [moreG_eq HMI.out HU.out]
                omega
              have hug : u = m.granted := by
                have h := HU.out
                rw [← HST.out] at h
                simp only [startG, List.getElem?_map, HMI.out, Option.map_some] at h
                exact (Option.some.inj h).symm
              have hcu6 := rt6.u.atI HU.out
              have hfu6 := rt6.fu i
              by_cases h0 : moreG ms st i share = 0
              · have hz := step_zero HU.out h0
                have HZ := Lib.hid hz
                have H6 := Lib.hid rt6
                have HM6 := Lib.hid m6
                clear hz rt6 m6 hcu hfu HE hug
                generalize moreG ms st i share = mo at *
                subst h0
                go_wp2_with fail
                rw [← hi]
                go_meet
                case rel => exact ⟨by rw [HSH.out, HZ.out], by rw [HSH.out, HZ.out]; exact ⟨H6.out, by rw [← HST.out]; exact Own.nil, HM6.out.mono (fun _ _ e => e.elim)⟩⟩
              · have hz := step_new HOK0.out HMI.out HU.out h0 hug
                have hmet : st.met = [] := by rw [← HST.out]; rfl
                rw [hmet, List.nil_append] at hz
                have HZ := Lib.hid hz
                have hpos : 0 < moreG ms st i share := by omega
                generalize moreG ms st i share = mo at *
                obtain ⟨wS, hwS⟩ : ∃ z : World, z = w6.setCell ⟨gu, i, none⟩ (.int .i64 (u + mo)) := ⟨_, rfl⟩
                have rtS := rt6.setU hin (u + mo)
                have mS : Mod (fun q => q = gu ∨ q = gp) w5 wS := by
                  rw [hwS]
                  exact (m6.mono (fun _ _ e => e.elim)).setCell (p := ⟨gu, i, none⟩) (fun _ => .inl rfl) _
                rw [← hwS] at rtS
                have HWS := Lib.hid hwS
                have HLIT := Lib.hid (Reads.of_own (World.ownsRow_lit (base := 0) (size := 1) (e := 3) wS #[.int .i64 (i : Int)] 1 (Nat.zero_le _) (by decide) rfl))
                have HOWN := Lib.hid (Own.nil (w := wS.alloc (.cells #[.int .i64 (i : Int)] 3)) (B := w5.heap.size) (T := 3) (sz := 1) (enc := encJ))
                have H1C := Lib.hid (one_I (i : Int))
                have hszS := mS.size
                have HRS := Lib.hid rtS
                have HMS := Lib.hid mS
                clear hz hmet rt6 m6 hcu hfu HE hwS rtS mS hug
                go_upto_region 18 with fail
                rw [← HWS.out]
                go_wp2_with (at_builtin
                             refine wpList_append_any _ rfl (.tmp 124) (.tmp 126) _ rfl w5.heap.size 3 i0 _ 1 8 Tryz.underlying36 hi0 hz0 hz1 hz2 rfl (by omega) (.slice none 0 0) 0 (([] : List Nat).flatMap encJ) rfl HOWN.out _ (some ⟨wS.heap.size, 0, none⟩) 1 1 [.int .i64 (i : Int)] rfl HLIT.out H1C.out (by simp only [maxLen]; omega) (by omega) (Nat.le_trans hszS ((Mod.refl (fun _ => False) wS).alloc _).size) ?_
                             intro v2 w8 hown2 hgr2 hat2
                             have hown3 : Own w8 w5.heap.size 3 1 encJ v2 [i] := hown2
                             have rt8 := (HRS.out.later ((Mod.refl _ _).alloc (.cells #[.int .i64 (i : Int)] 3))).mod (Mod.ofGrown hgr2) (fun e => by simp [Value.ownBlock] at e) (fun e => by simp [Value.ownBlock] at e)
                             have m8 := (HMS.out.alloc (.cells #[.int .i64 (i : Int)] 3)).trans (Mod.ofGrown hgr2) (fun q hq e => by simp [Value.ownBlock] at e)
                             have HO3 := Lib.hid hown3
                             have RT8 := Lib.hid rt8
                             have M8 := Lib.hid m8
                             clear hown2 hgr2 hat2 hown3 rt8 m8)
                go_wp2_with fail
                rw [← hi]
                go_meet
                case rel => exact ⟨by rw [HSH.out, HZ.out]; exact congrArg (Value.int .i64) (by show _ = st.room - mo; omega), by rw [HSH.out, HZ.out]; exact ⟨RT8.out, HO3.out, M8.out⟩⟩
          | false =>
            have hsh : shareG ms budget share = st := (if_neg (by simpa using HBT.out)).trans HST.out
            have HSH := Lib.hid hsh
            have hmet : st.met = [] := by rw [← HST.out]; rfl
            have HME := Lib.hid hmet
            clear hsh hmet
            go_wp2_with fail
            go_meet
            case rel => exact ⟨by rw [HSH.out], by rw [HSH.out]; exact ⟨RT5.out, by rw [HME.out]; exact Own.nil, Mod.refl _ _⟩⟩
        case rest =>
          obtain ⟨rfl, sj6⟩ := hcut
          obtain ⟨w6, rfl⟩ : ∃ z : World, z = wc := ⟨_, rfl⟩
          have hok6 := shareG_ok ms (share := share) b0 b1
          obtain ⟨K, hK⟩ : ∃ K : Nat, K = min nl k.toNat := ⟨_, rfl⟩
          have hKl : K ≤ nl := by omega
          have hfK : ∀ q, q < K → ∀ i, (orderL false ms)[q]? = some i → (firstK ms k)[q]? = some i := fun q hq i h => by
            unfold firstK
            rw [List.getElem?_take, if_pos (by omega)]
            exact h
          have hqb : 0 ≤ budget / k ∧ budget / k ≤ 1099511627776 := by
            have h1 := Int.ediv_le_self k b0
            have h2 := Int.ediv_nonneg b0 (show 0 ≤ k by omega)
            omega
          have hkl : (firstK ms k).length = K := by
            unfold firstK
            rw [List.length_take, HL.out, hK]
            exact Nat.min_comm _ _
          have hmle : ∀ l : List Nat, (∀ i ∈ l, ∃ m, ms[i]? = some m ∧ mayP m ∧ m.hav < m.total) → GsOk ms (stepsG ms (budget / k) l (shareG ms budget share)) := fun l hl => stepsG_ok _ _ _ hok6 hl
          rw [prio_start n] at sj6
          have SJ6 := Lib.hid sj6
          have HK := Lib.hid hK
          have HFK := Lib.hid hfK
          have HKL := Lib.hid hkl
          have HML := Lib.hid hmle
          have hKk : (K : Int) ≤ k := by omega
          have hKx : ∀ q : Nat, ¬ q < K → ¬ (q < nl ∧ (q : Int) < k) := fun q hq => by omega
          have HKX := Lib.hid hKx
          clear sj6 hok6 hK hfK hkl hmle hKx RT5 HBT HSUB HOK0 HST
          go_wp2_with fail
          go_loopg [10, 13, 18, 19, 20] K (fun gk x y i _ _ wr => ∃ q : Nat, gk + q = K ∧ i = .int .i64 q ∧ x = .int .i64 (stepsG ms (budget / k) ((firstK ms k).take q) (shareG ms budget share)).room ∧ Sj w5 wr w.heap.size gu gp n y (stepsG ms (budget / k) ((firstK ms k).take q) (shareG ms budget share)) ((List.range n).map (prioG ((firstK ms k).take q))))
          case atStart => exact ⟨0, by omega, rfl, rfl, SJ6.out⟩
          case round =>
            clear SJ6
            obtain ⟨q, hgq, rfl, rfl, sj⟩ := hrel
            obtain ⟨gr, rfl⟩ : ∃ n : Nat, n = gk := ⟨_, rfl⟩
            by_cases hqK : q < K
            · have hqk : (q : Int) < k := by omega
              have hqx : q < (orderL false ms).length := by rw [HL.out]; omega
              have hi? := List.getElem?_eq_getElem hqx
              have hfi := HFK.out q hqK _ hi?
              obtain ⟨g1, off1, rfl, _, hci⟩ := (HF5.out.mod sj.m (Nat.le_refl _) (fun q hq e => HOB.out q (by cases A4 <;> exact hq) e)).atJ hi?
              obtain ⟨m, hm, hp, ho⟩ := firstK_mem _ (List.mem_of_getElem? hfi)
              have htq : (firstK ms k).take (q + 1) = (firstK ms k).take q ++ [(orderL false ms)[q]] := by rw [List.take_add_one, hfi]; rfl
              have hlq : ((firstK ms k).take q).length = q := by rw [List.length_take, HKL.out]; omega
              have hps := prio_step (n := n) (notin_take (firstK_nodup ms k) hfi)
              rw [← htq, hlq] at hps
              have hsn := stepsG_snoc ms (budget / k) ((firstK ms k).take q) ((orderL false ms)[q]) (shareG ms budget share)
              rw [← htq] at hsn
              have hok := HML.out ((firstK ms k).take q) (fun i hi => firstK_mem i (List.mem_of_mem_take hi))
              obtain ⟨pr2, hpr2⟩ : ∃ z, z = (List.range n).map (prioG ((firstK ms k).take (q + 1))) := ⟨_, rfl⟩
              obtain ⟨st2, hst2⟩ : ∃ z, z = stepsG ms (budget / k) ((firstK ms k).take (q + 1)) (shareG ms budget share) := ⟨_, rfl⟩
              rw [← hpr2] at hps
              rw [← hst2] at hsn
              generalize (orderL false ms)[q]'hqx = i at *
              generalize (List.range n).map (prioG ((firstK ms k).take q)) = pr at *
              have hmetl : (stepsG ms (budget / k) ((firstK ms k).take q) (shareG ms budget share)).met.length ≤ 100000 := by
                have h1 := stepsG_len ms (budget / k) ((firstK ms k).take q) (shareG ms budget share)
                have h2 := shareG_len ms budget share
                omega
              generalize stepsG ms (budget / k) ((firstK ms k).take q) (shareG ms budget share) = sq at *
              obtain ⟨Aw, cw, rfl, hcw, -⟩ := sj.o.form
              obtain ⟨u, hu, u1, u2, u3⟩ := hok.at_ hm
              have he := refU_eq (ahead := budget / k) hok hm hu
              have hut := u2 hp
              have r0 := hok.room0
              have r1 := hok.room1
              have hin : i < n := by
                have := (List.getElem?_eq_some_iff.1 hm).1
                rw [HN.out] at this
                exact this
              have ii1 : (i : Int) < (n : Int) := by omega
              have hcp := sj.r.p.atI (List.getElem?_eq_getElem (show i < pr.length by rw [sj.r.lp]; exact hin))
              have hfp := sj.r.fp i
              have rt7 := sj.r.setP hin (max (6 - (q : Int)) 0)
              rw [hps] at rt7
              have m7 : Mod (fun q => q = gu ∨ q = gp) w5 (wr.setCell ⟨gp, i, none⟩ (.int .i64 (max (6 - (q : Int)) 0))) := sj.m.setCell (p := ⟨gp, i, none⟩) (fun _ => .inr rfl) _
              have o7 : Own (wr.setCell ⟨gp, i, none⟩ (.int .i64 (max (6 - (q : Int)) 0))) w5.heap.size 3 1 encJ (.slice Aw sq.met.length cw) sq.met := sj.o.mod ((Mod.refl (fun q => q = gp) wr).setCell (p := ⟨gp, i, none⟩) (fun _ => rfl) _) (fun z hz e => by
                have := sj.o.base hz
                omega)
              have mw7 : Mod (fun _ => False) w (wr.setCell ⟨gp, i, none⟩ (.int .i64 (max (6 - (q : Int)) 0))) := M5.out.trans m7 (fun z hz e => by omega)
              generalize pr[i]'(by rw [sj.r.lp]; exact hin) = oldp at *
              obtain ⟨p1, p2, p3, p4, p5, p6, p7, p8, p9⟩ := hp
              obtain ⟨g, off, rfl, hg, d0, d1, d2, d3, d4, d5⟩ := (HH.out.later mw7 (Nat.le_refl _)).atM hm
              have hcu := rt7.u.atI hu
              have hfu := rt7.fu i
              have HPS := Lib.hid hps
              have HSN := Lib.hid hsn
              have HE := Lib.hid he
              have HU := Lib.hid hu
              have HMI := Lib.hid hm
              have HOK := Lib.hid hok
              have HPR2 := Lib.hid hpr2
              have HST2 := Lib.hid hst2
              have RT7 := Lib.hid rt7
              have M7 := Lib.hid m7
              have O7 := Lib.hid o7
              clear hps hsn he hu hm hok hpr2 hst2 rt7 m7 o7 sj htq hlq hfi hi? u2 u3 d0 d1 d5 mw7
              go_upto_region 24 with fail
              generalize max (6 - (q : Int)) 0 = pv at *
              go_cut [20] from 149 to 174 (fun x wx => x = .int .i64 (u + moreG ms sq i (budget / k)) ∧ Rt wx w.heap.size gu gp n sq.upto pr2 ∧ Own wx w5.heap.size 3 1 encJ (.slice Aw sq.met.length cw) sq.met ∧ Mod (fun q => q = gu ∨ q = gp) w5 wx)
              case first =>
                go_quiet (fail)
                go_wp2_with fail
                all_goals
                  go_meet
                  case rel => exact ⟨congrArg (Value.int .i64) (by have := HE.out; omega), RT7.out.later ((Mod.refl _ _).drewN _), O7.out.later ((Mod.refl _ _).drewN _), M7.out.drewN _⟩
              case rest =>
                obtain ⟨rfl, rt8, o8, m8⟩ := hcut
                obtain ⟨w8, rfl⟩ : ∃ z : World, z = wc := ⟨_, rfl⟩
                have hmn := more_nn ms sq i (budget / k)
                have hmb : moreG ms sq i (budget / k) ≤ sq.room := by
                  rw [moreG_eq HMI.out HU.out]
                  omega
                have hcu8 := rt8.u.atI HU.out
                have hfu8 := rt8.fu i
                by_cases h0 : moreG ms sq i (budget / k) = 0
                · have hz := step_zero HU.out h0
                  rw [← HSN.out] at hz
                  have HZ := Lib.hid hz
                  have H8 := Lib.hid rt8
                  have HO8 := Lib.hid o8
                  have HM8 := Lib.hid m8
                  clear hz rt8 o8 m8 hcu hfu HE
                  generalize moreG ms sq i (budget / k) = mo at *
                  subst h0
                  go_wp2_with fail
                  go_roundg (gr - 1)
                  case measure => omega
                  case rel => exact ⟨q + 1, by omega, by go_num, by rw [← HST2.out, HZ.out], by rw [← HST2.out, ← HPR2.out, HZ.out]; exact ⟨H8.out, HO8.out, HM8.out⟩⟩
                · have mw8 : Mod (fun _ => False) w w8 := M5.out.trans m8 (fun z hz e => by omega)
                  obtain ⟨g8, off8, e8, -, -, -, -, -, b4, -⟩ := (HH.out.later mw8 (Nat.le_refl _)).atM HMI.out
                  injection e8 with e81
                  injection e81 with e83 e84
                  subst e83 e84
                  have hpos : 0 < moreG ms sq i (budget / k) := by omega
                  by_cases hug : u = m.granted
                  · subst hug
                    have hz := step_new (ahead := budget / k) HOK.out HMI.out HU.out h0 rfl
                    rw [← HSN.out] at hz
                    have HZ := Lib.hid hz
                    generalize moreG ms sq i (budget / k) = mo at *
                    have hbase : ∀ z, (Value.slice Aw sq.met.length cw).ownBlock = some z → w5.heap.size ≤ z := fun z e => o8.base e
                    have HBA := Lib.hid hbase
                    have HLIT := Lib.hid fun nq : Nat => Reads.of_own (World.ownsRow_lit (base := 0) (size := 1) (e := 3) (w8.drewN nq) #[.int .i64 (i : Int)] 1 (Nat.zero_le _) (by decide) rfl)
                    have HOWN := Lib.hid fun nq : Nat => (o8.later ((Mod.refl (fun _ => False) w8).drewN nq)).later ((Mod.refl (fun _ => False) (w8.drewN nq)).alloc (.cells #[.int .i64 (i : Int)] 3))
                    have H1C := Lib.hid (one_I (i : Int))
                    have hsz8 := m8.size
                    have H8 := Lib.hid rt8
                    have HM8 := Lib.hid m8
                    clear hz rt8 o8 m8 mw8 hcu hfu HE hbase
                    go_wp2_with fail
                    go_quiet (fail)
                    go_upto_region 27 with fail
                    go_wp2_with (at_builtin
                                 refine wpList_append_any _ rfl (.tmp 191) (.tmp 193) _ rfl w5.heap.size 3 i0 _ 1 8 Tryz.underlying36 hi0 hz0 hz1 hz2 rfl (by omega) (.slice Aw sq.met.length cw) sq.met.length (sq.met.flatMap encJ) rfl (HOWN.out _) _ (some ⟨w8.heap.size, 0, none⟩) 1 1 [.int .i64 (i : Int)] rfl (HLIT.out _) H1C.out (by simp only [maxLen]; omega) (by omega) (Nat.le_trans hsz8 ((Mod.refl (fun _ => False) w8).alloc _).size) ?_
                                 intro v2 w9 hown2 hgr2 hat2
                                 have hown3 : Own w9 w5.heap.size 3 1 encJ v2 (sq.met ++ [i]) := by
                                   unfold Own
                                   rw [flat_snoc, List.length_append]
                                   exact hown2
                                 have rt9 := ((H8.out.later ((Mod.refl _ _).drewN _)).later ((Mod.refl _ _).alloc (.cells #[.int .i64 (i : Int)] 3))).mod (Mod.ofGrown hgr2) (fun e => by have := HBA.out _ e; omega) (fun e => by have := HBA.out _ e; omega)
                                 have m9 := ((HM8.out.drewN _).alloc (.cells #[.int .i64 (i : Int)] 3)).trans (Mod.ofGrown hgr2) (fun q hq e => by have := HBA.out q e; omega)
                                 have hcu9 := rt9.u.atI HU.out
                                 have hfu9 := rt9.fu i
                                 have RT9 := Lib.hid (rt9.setU hin (m.granted + mo))
                                 have M9 := Lib.hid (m9.setCell (p := ⟨gu, i, none⟩) (fun _ => .inl rfl) (.int .i64 (m.granted + mo)))
                                 have HO9 := Lib.hid (hown3.mod ((Mod.refl (fun q => q = gu) w9).setCell (p := ⟨gu, i, none⟩) (fun _ => rfl) (.int .i64 (m.granted + mo))) (fun z hz e => by
                                   have := hown3.base hz
                                   omega))
                                 clear hown2 hgr2 hat2 hown3 rt9 m9)
                    go_wp2_with fail
                    go_roundg (gr - 1)
                    case measure => omega
                    case rel => exact ⟨q + 1, by omega, by go_num, by rw [← HST2.out, HZ.out]; exact congrArg (Value.int .i64) (by show _ = sq.room - mo; omega), by rw [← HST2.out, ← HPR2.out, HZ.out]; exact ⟨RT9.out, HO9.out, M9.out⟩⟩
                  · have hz := step_old (ahead := budget / k) HOK.out HMI.out HU.out hug
                    rw [← HSN.out] at hz
                    have HZ := Lib.hid hz
                    generalize moreG ms sq i (budget / k) = mo at *
                    have H8 := Lib.hid (rt8.setU hin (u + mo))
                    have HO8 := Lib.hid (o8.mod ((Mod.refl (fun q => q = gu) w8).setCell (p := ⟨gu, i, none⟩) (fun _ => rfl) (.int .i64 (u + mo))) (fun z hz e => by
                      have := o8.base hz
                      omega))
                    have HM8 := Lib.hid (m8.setCell (p := ⟨gu, i, none⟩) (fun _ => .inl rfl) (.int .i64 (u + mo)))
                    clear hz rt8 o8 m8 mw8 hcu hfu HE
                    go_wp2_with fail
                    go_quiet (fail)
                    go_wp2_with fail
                    go_roundg (gr - 1)
                    case measure => omega
                    case rel => exact ⟨q + 1, by omega, by go_num, by rw [← HST2.out, HZ.out]; exact congrArg (Value.int .i64) (by show _ = sq.room - mo; omega), by rw [← HST2.out, ← HPR2.out, HZ.out]; exact ⟨H8.out.later ((Mod.refl _ _).drewN _), HO8.out.later ((Mod.refl _ _).drewN _), HM8.out.drewN _⟩⟩
            · have hqe : q = K := by omega
              have hend : stepsG ms (budget / k) ((firstK ms k).take q) (shareG ms budget share) = endG ms k budget share := by
                rw [hqe, List.take_of_length_le (by rw [HKL.out]; exact Nat.le_refl _)]
                rfl
              have htk : (firstK ms k).take q = firstK ms k := by rw [hqe]; exact List.take_of_length_le (by rw [HKL.out]; exact Nat.le_refl _)
              rw [hend, htk] at sj
              rw [hend]
              have hokE := endG_ok ms (k := k) (share := share) b0 b1
              obtain ⟨iG, hiG, hzG0, hzG1, hzG2⟩ := info_parts rgrant_info
              have hgr : grantsL ms k budget share = (endG ms k budget share).met.map (grantOf ms (endG ms k budget share) (firstK ms k)) := rfl
              have hmlen : (endG ms k budget share).met.length ≤ 100000 := by
                have h1 := stepsG_len ms (budget / k) (firstK ms k) (shareG ms budget share)
                have h2 := shareG_len ms budget share
                have h3 := HKL.out
                unfold endG
                omega
              have hcase : ¬ (q : Int) < (nl : Int) ∨ ((q : Int) < (nl : Int) ∧ ¬ (q : Int) < k) := by
                have := HKX.out q hqK
                omega
              generalize endG ms k budget share = st at *
              obtain ⟨rtE, oE, mE⟩ := sj
              obtain ⟨Am, cm, rfl, hcm, -⟩ := oE.form
              have hul := hokE.len
              rw [HN.out] at hul
              have hmw : Mod (fun _ => False) w wr := M5.out.trans mE (fun z hz e => by omega)
              have hsm := hmw.size
              have HRT := Lib.hid rtE
              have HTM := Lib.hid oE.has
              have HOKE := Lib.hid hokE
              have HMW := Lib.hid hmw
              have HGR := Lib.hid hgr
              have hguE : gu < wr.heap.size := (rtE.u.lt gu rfl).2
              have hgpE : gp < wr.heap.size := (rtE.p.lt gp rfl).2
              clear hend htk hgr rtE oE mE hokE hmw hqe
              obtain ⟨wE, rfl⟩ : ∃ z : World, z = wr := ⟨_, rfl⟩
              generalize hnm : st.met.length = nm at *
              have HNM := Lib.hid hnm
              have HUL := Lib.hid hul
              clear hnm hul
              rcases hcase with hq1 | ⟨hq1, hq2⟩
              all_goals
                go_wp2_with fail
                go_loopg [21, 22, 23] nm (fun gk o i _ wi => ∃ q : Nat, gk + q = nm ∧ i = .int .i64 q ∧ Own wi wE.heap.size 41 4 encG o ((st.met.take q).map (grantOf ms st (firstK ms k))) ∧ Mod (fun _ => False) wE wi)
                case atStart => exact ⟨0, by omega, rfl, Own.nil, Mod.refl _ _⟩
                case round =>
                  obtain ⟨q, hgq, rfl, hout, hmi⟩ := hrel
                  obtain ⟨g0, rfl⟩ : ∃ n : Nat, n = gk := ⟨_, rfl⟩
                  have hxl : q ≤ nm → ((st.met.take q).map (grantOf ms st (firstK ms k))).length = q := fun h => by
                    rw [List.length_map, List.length_take, HNM.out]
                    omega
                  obtain ⟨Ao, co, rfl, hco, -⟩ := hout.form
                  rw [hxl (by omega)] at hout hco ⊢
                  have rti := HRT.out.later hmi
                  by_cases hqn : q < nm
                  · have hqx : q < st.met.length := by rw [HNM.out]; exact hqn
                    have hi? := List.getElem?_eq_getElem hqx
                    obtain ⟨gm, offm, rfl, _, hci⟩ := (HTM.out.later hmi (Nat.le_refl _)).atJ hi?
                    obtain ⟨m, hm, hp, ho⟩ := HOKE.out.mem _ (List.getElem_mem hqx)
                    obtain ⟨u, hu, u1, _, u3⟩ := HOKE.out.at_ hm
                    have hsn : (st.met.take (q + 1)).map (grantOf ms st (firstK ms k)) = (st.met.take q).map (grantOf ms st (firstK ms k)) ++ [⟨m.peer, m.id, u, prioG (firstK ms k) st.met[q]⟩] := by
                      rw [List.take_succ_eq_append_getElem hqx, List.map_append]
                      unfold grantOf
                      simp only [List.map_cons, List.map_nil]
                      rw [List.getD_eq_getElem?_getD, List.getD_eq_getElem?_getD, hm, hu]
                      rfl
                    generalize st.met[q]'hqx = i at *
                    obtain ⟨g, off, rfl, hg, c0, c1, c2, c3, c4, c5⟩ := (HH.out.later (HMW.out.trans hmi (fun _ _ e => e)) (Nat.le_refl _)).atM hm
                    have hil : i < n := by
                      have := (List.getElem?_eq_some_iff.1 hm).1
                      rw [HN.out] at this
                      exact this
                    have hcu' := rti.u.atI hu
                    have hcp' := rti.p.atI (prio_at hil)
                    generalize prioG (firstK ms k) i = pr at *
                    have ii0 : (0 : Int) ≤ (i : Int) := by omega
                    have ii1 : (i : Int) < (n : Int) := by omega
                    have HSN := Lib.hid hsn
                    have HMI := Lib.hid hmi
                    have HOUT := Lib.hid hout
                    clear hsn hm hp hu u3 hmi hout rti hi?
                    have hgE : g < wE.heap.size := Nat.lt_of_lt_of_le hg hsm
                    have hEr := HMI.out.size
                    have hrow : wr.ownsRow wE.heap.size 41 4 (.slice Ao q co) q (((st.met.take q).map (grantOf ms st (firstK ms k))).flatMap encG) := by
                      have h := HOUT.out
                      unfold Own at h
                      rw [hxl (by omega)] at h
                      exact h
                    have hbase : ∀ k, (Value.slice Ao q co).ownBlock = some k → wE.heap.size ≤ k := fun q e => HOUT.out.base e
                    have HRW := Lib.hid (own_mod ((Mod.refl (fun _ => False) wr).alloc (.cells #[.int .i64 m.peer, .int .u64 m.id, .int .i64 u, .int .i64 pr] 41)) hrow (fun _ _ e => e))
                    have HLIT := Lib.hid (Reads.of_own (World.ownsRow_lit (base := 0) (size := 4) (e := 41) wr #[.int .i64 m.peer, .int .u64 m.id, .int .i64 u, .int .i64 pr] 1 (Nat.zero_le _) (by decide) rfl))
                    have hkeep : ∀ (o : Obj) (w9 : World), Mod (fun k => (Value.slice Ao q co).ownBlock = some k) (wr.alloc o) w9 → w9.cell? ⟨g, off + i * 6, none⟩ = some (.int .i64 m.peer) ∧ w9.cell? ⟨g, off + i * 6 + 1, none⟩ = some (.int .u64 m.id) ∧ w9.cell? ⟨gu, i, none⟩ = some (.int .i64 u) ∧ w9.cell? ⟨gp, i, none⟩ = some (.int .i64 pr) := fun o w9 m9 => by
                      have hsz : (wr.alloc o).heap.size = wr.heap.size + 1 := by simp
                      have far : ∀ p : Addr, p.block < wE.heap.size → w9.cell? p = wr.cell? p := fun p hp => by
                        rw [m9.cell (p := p) (by omega) (fun e => by have := hbase _ e; omega), World.cell?_alloc_lt wr o p (by omega)]
                      exact ⟨(far _ hgE).trans c0, (far _ hgE).trans c1, (far _ hguE).trans hcu', (far _ hgpE).trans hcp'⟩
                    have HBASE := Lib.hid hbase
                    have KEEP := Lib.hid hkeep
                    have nb1 := World.new_ne wr ⟨gp, i, none⟩ hcp'
                    have nb2 := World.new_ne wr ⟨gu, i, none⟩ hcu'
                    have nb3 := World.new_ne wr ⟨g, off + i * 6, none⟩ c0
                    clear hrow hbase hkeep c2 c3 c4 c5
                    go_upto_region 35 with fail
                    go_region_held3 (fun w' => w'.cell? ⟨g, off + i * 6, none⟩ = some (.int .i64 m.peer) ∧ w'.cell? ⟨g, off + i * 6 + 1, none⟩ = some (.int .u64 m.id) ∧ w'.cell? ⟨gu, i, none⟩ = some (.int .i64 u) ∧ w'.cell? ⟨gp, i, none⟩ = some (.int .i64 pr)) (go_keep)
                      ((refine step_append_any _ (by rfl) (.tmp 217) (.tmp 237) 33 (by rfl) wE.heap.size 41 iG _ 4 32 Tryz.underlying33 hiG hzG0 hzG1 hzG2 (by rfl) (by omega) (.slice Ao q co) q (((st.met.take q).map (grantOf ms st (firstK ms k))).flatMap encG) (by rfl) HRW.out _ (some ⟨wr.heap.size, 0, none⟩) 1 1 [.int .i64 m.peer, .int .u64 m.id, .int .i64 u, .int .i64 pr] (by rfl) HLIT.out (one_G _ _ _ _) (by simp only [maxLen]; omega) (by omega) (by simp; omega) ?_; intro v9 w9 hown9 hgr9 hat9; obtain ⟨kk0, kk1, kk2, kk3⟩ := KEEP.out _ w9 ⟨(Mod.ofGrown hgr9).os, (Mod.ofGrown hgr9).tape, (Mod.ofGrown hgr9).output, (Mod.ofGrown hgr9).size, (Mod.ofGrown hgr9).block⟩))
                    all_goals
                      have hown10 : Own w9 wE.heap.size 41 4 encG v9 ((st.met.take (q + 1)).map (grantOf ms st (firstK ms k))) := by
                        unfold Own
                        rw [HSN.out, flat_snoc, List.length_append, hxl (by omega)]
                        exact hown9
                      have m10 : Mod (fun _ => False) wE w9 := ((HMI.out.alloc _).drew).trans (Mod.ofGrown hgr9) (fun k hk e => by
                        have := HBASE.out k e
                        omega)
                      have HO10 := Lib.hid hown10
                      have HM10 := Lib.hid m10
                      clear hown10 m10 hown9 hgr9 hat9
                      go_wp2_with fail
                      go_roundg (g0 - 1)
                      case measure => omega
                      case rel => exact ⟨q + 1, by omega, by go_num, HO10.out, HM10.out⟩
                  · have htk : st.met.take q = st.met := List.take_of_length_le (by rw [HNM.out]; omega)
                    rw [htk, ← HGR.out] at hout
                    have HO := Lib.hid (hout.le hsm)
                    have HMF := Lib.hid (HMW.out.trans hmi (fun _ _ e => e))
                    clear hout htk hmi
                    go_wp2_with fail
                    go_ret2
                    exact ⟨_, rfl, HO.out, HMF.out⟩
end Go.Proofs.YtigkndbkaagboaaGreatDoor
