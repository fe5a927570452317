/- The walk of SrptShortest. -/
import Derived.Test.YtpcgfejdeanenaaSrX
import Derived.Test.YtpcgfejdeanenaaSrZ
namespace Go.Proofs.Ytpcgfejdeanenaa
open Go.ChangeShapes Go.WideShapes Go.RowKit
set_option linter.unusedVariables false
set_option maxHeartbeats 8000000
set_option maxRecDepth 100000
attribute [local go_sem ↓] Go.wp_at_zero Go.wp_at_succ
theorem keep8 {a w w' : World} {p1 p2 p3 p4 p5 p6 p7 : Addr} {u1 u2 u3 u4 u5 u6 u7 : Value} (m : Mod (fun _ => False) w w')
    (h : Mod (fun _ => False) a w ∧ w.cell? p1 = some u1 ∧ w.cell? p2 = some u2 ∧ w.cell? p3 = some u3 ∧ w.cell? p4 = some u4 ∧ w.cell? p5 = some u5 ∧ w.cell? p6 = some u6 ∧ w.cell? p7 = some u7) :
    Mod (fun _ => False) a w' ∧ w'.cell? p1 = some u1 ∧ w'.cell? p2 = some u2 ∧ w'.cell? p3 = some u3 ∧ w'.cell? p4 = some u4 ∧ w'.cell? p5 = some u5 ∧ w'.cell? p6 = some u6 ∧ w'.cell? p7 = some u7 := by
  obtain ⟨h0, h1, h2, h3, h4, h5, h6, h7⟩ := h
  exact ⟨h0.trans m (fun _ _ e => e), kept m h1, kept m h2, kept m h3, kept m h4, kept m h5, kept m h6, kept m h7⟩
theorem mod8 {a w : World} {p1 p2 p3 p4 p5 p6 p7 : Addr} {u1 u2 u3 u4 u5 u6 u7 : Value}
    (h : Mod (fun _ => False) a w ∧ w.cell? p1 = some u1 ∧ w.cell? p2 = some u2 ∧ w.cell? p3 = some u3 ∧ w.cell? p4 = some u4 ∧ w.cell? p5 = some u5 ∧ w.cell? p6 = some u6 ∧ w.cell? p7 = some u7) : Mod (fun _ => False) a w := h.1
theorem mod5' {a w : World} {p1 p2 p3 p4 : Addr} {u1 u2 u3 u4 : Value} (h : Mod (fun _ => False) a w ∧ w.cell? p1 = some u1 ∧ w.cell? p2 = some u2 ∧ w.cell? p3 = some u3 ∧ w.cell? p4 = some u4) : Mod (fun _ => False) a w := h.1
/-- Does the new one go ahead? -/
def goesFirst (t ta : Int) (q a : Nat) : Prop := t < ta ∨ (t = ta ∧ ((q : Int) % 8 < (a : Int) % 8 ∨ ((q : Int) % 8 = (a : Int) % 8 ∧ (q : Int) / 8 + 1 < (a : Int) / 8 + 1)))
theorem least_next {l : List Int} {q a : Nat} {t ta : Int} (ht : l[q]? = some t) (hta : (l.take (q + 1))[a]? = some ta) (h : (q = 0 ∧ a = 0) ∨ leastAt (l.take q) a) :
    (goesFirst t ta q a → leastAt (l.take (q + 1)) q) ∧ (¬ goesFirst t ta q a → leastAt (l.take (q + 1)) a) := by
  obtain ⟨hql, hqe⟩ := List.getElem?_eq_some_iff.1 ht
  have hsn : l.take (q + 1) = l.take q ++ [t] := by rw [List.take_succ_eq_append_getElem hql, hqe]
  have hlq : (l.take q).length = q := by rw [List.length_take]; omega
  rcases h with ⟨rfl, rfl⟩ | h
  · have e1 : l.take (0 + 1) = [t] := by rw [hsn]; rfl
    rw [e1] at hta ⊢
    exact ⟨fun _ => least_first t, fun _ => least_first t⟩
  · have hta' : (l.take q)[a]? = some ta := by
      obtain ⟨t', ht', _⟩ := h
      have := (List.getElem?_eq_some_iff.1 ht').1
      rw [hsn, List.getElem?_append_left this] at hta
      exact hta
    rw [hsn]
    refine ⟨fun hg => ?_, fun hg => ?_⟩
    · have := least_take h hta' (x := t) (by rw [hlq]; exact hg)
      rwa [hlq] at this
    · exact least_keep h hta' (x := t) (by rw [hlq]; exact hg)
theorem walk_shortest (v : Value) (l : List Int) (k budget : Int) (w : World) (h : Has w w.heap.size 1 encI v l) (l0 : 0 < l.length) (l40 : l.length ≤ 40) (k1 : 1 ≤ k) (k8 : k ≤ 8) (b0 : k ≤ budget) (b1 : budget ≤ 1073741824) :
    Calls Try.prog 5 #[v, .int .i64 k, .int .i64 budget] w fun e w' => e = .returned (.bool true) ∧ Mod (fun _ => False) w w' := by
  obtain ⟨i0, hi0, hz0, hz1, hz2⟩ := info_parts msg_info
  obtain ⟨A, cap, rfl, hcap⟩ := h.form
  have HH := Lib.hid h
  clear h
  generalize hn : l.length = n at *
  have HN := Lib.hid hn
  have hn0 : ((n : Int) == 0) = false := by simp; omega
  have hn40 : ¬ (40 : Int) < (n : Int) := by omega
  clear hn
  go_enter Try.func5, Try.ntmps5
  go_wp2_with fail
  go_loopw [7, 8, 9] (fun x at_ i wr => ∃ q a : Nat, i = .int .i64 q ∧ at_ = .int .i64 a ∧ q ≤ n ∧ ((q = 0 ∧ a = 0) ∨ leastAt (l.take q) a) ∧ okLens (l.take q) ∧ Own wr w.heap.size 39 6 encM x (shortMs (l.take q)) ∧ Mod (fun _ => False) w wr) (fun _ _ i _ => n - (intOf i).toNat)
  case atStart => exact ⟨0, 0, rfl, rfl, by omega, .inl ⟨rfl, rfl⟩, fun t h => (by cases h), Own.nil, Mod.refl _ _⟩
  case round =>
    obtain ⟨q, a, rfl, rfl, hq, hat, hok, hx, hm⟩ := hrel
    obtain ⟨Ax, cx, rfl, hcx, -⟩ := hx.form
    have hln : (shortMs (l.take q)).length = q := by rw [short_len, List.length_take, HN.out]; omega
    rw [hln] at hx hcx ⊢
    have HAT := Lib.hid hat
    have HOK := Lib.hid hok
    clear hat hok
    by_cases hqn : q < n
    · have hqx : q < l.length := by rw [HN.out]; exact hqn
      have hx? := List.getElem?_eq_getElem hqx
      obtain ⟨g, off, rfl, hg, c0⟩ := (HH.out.later hm (Nat.le_refl _)).atI hx?
      generalize l[q]'hqx = t at *
      have HT := Lib.hid hx?
      by_cases t1 : t < 1
      · clear hx hx?
        go_wp2_with fail
        refine (awakeW _).mono ?_
        rintro e w5 ⟨rfl, m5⟩
        have M5 := Lib.hid (hm.trans m5 (fun _ _ e => e))
        clear m5
        go_wp2_with fail
        go_ret
        exact ⟨rfl, M5.out⟩
      by_cases t2 : 1073741824 < t
      · clear hx hx?
        go_wp2_with fail
        refine (awakeW _).mono ?_
        rintro e w5 ⟨rfl, m5⟩
        have M5 := Lib.hid (hm.trans m5 (fun _ _ e => e))
        clear m5
        go_wp2_with fail
        go_ret
        exact ⟨rfl, M5.out⟩
      have hsl : l.take (q + 1) = l.take q ++ [t] := by
        obtain ⟨hql, hqe⟩ := List.getElem?_eq_some_iff.1 hx?
        rw [List.take_succ_eq_append_getElem hql, hqe]
      have hlq : (l.take q).length = q := by rw [List.length_take, HN.out]; omega
      have hss : shortMs (l.take (q + 1)) = shortMs (l.take q) ++ [⟨(q : Int) % 8, (q : Int) / 8 + 1, t, 0, 0, (q : Int)⟩] := by rw [hsl, short_snoc, hlq]
      have hok2 : okLens (l.take (q + 1)) := fun u hu => by
        rw [hsl] at hu
        rcases List.mem_append.1 hu with e | e
        · exact HOK.out u e
        · obtain rfl := List.mem_singleton.1 e
          omega
      have hrow : wr.ownsRow w.heap.size 39 6 (.slice Ax q cx) q ((shortMs (l.take q)).flatMap encM) := by
        have h := hx
        unfold Own at h
        rw [hln] at h
        exact h
      have hbase : ∀ z, (Value.slice Ax q cx).ownBlock = some z → w.heap.size ≤ z := fun z e => hx.base e
      have HRW := Lib.hid (own_mod ((Mod.refl (fun _ => False) wr).alloc (.cells #[.int .i64 ((q : Int) % 8), .int .u64 ((q : Int) / 8 + 1), .int .i64 t, .int .i64 0, .int .i64 0, .int .i64 (q : Int)] 39)) hrow (fun _ _ e => e))
      have HLIT := Lib.hid (Reads.of_own (World.ownsRow_lit (base := 0) (size := 6) (e := 39) wr #[.int .i64 ((q : Int) % 8), .int .u64 ((q : Int) / 8 + 1), .int .i64 t, .int .i64 0, .int .i64 0, .int .i64 (q : Int)] 1 (Nat.zero_le _) (by decide) rfl))
      have hszr := hm.size
      have HM := Lib.hid hm
      have HBA := Lib.hid hbase
      have HSS := Lib.hid hss
      have HLN := Lib.hid hln
      have HOK2 := Lib.hid hok2
      have HSL := Lib.hid hsl
      have hta : ∃ ta, (l.take (q + 1))[a]? = some ta := by
        rcases HAT.out with ⟨h1, h2⟩ | ⟨ta, h, _⟩
        · subst h1 h2
          exact ⟨t, by rw [hsl]; rfl⟩
        · exact ⟨ta, by rw [hsl, List.getElem?_append_left (List.getElem?_eq_some_iff.1 h).1]; exact h⟩
      obtain ⟨ta, hta⟩ := hta
      have hnext := least_next hx? hta HAT.out
      have HTA := Lib.hid hta
      have HNX := Lib.hid hnext
      have haq : a < q + 1 := by
        have := (List.getElem?_eq_some_iff.1 hta).1
        rw [List.length_take] at this
        omega
      clear hrow hbase hx hm hss hln hok2 hsl hlq hx? hta hnext
      go_upto_region 10 with fail
      go_wp2_with (at_builtin
                   refine wpList_append_any _ rfl (.tmp 60) (.tmp 73) _ rfl w.heap.size 39 i0 _ 6 48 Try.underlying24 hi0 hz0 hz1 hz2 rfl (by omega) (.slice Ax q cx) q ((shortMs (l.take q)).flatMap encM) rfl HRW.out _ (some ⟨wr.heap.size, 0, none⟩) 1 1 [.int .i64 ((q : Int) % 8), .int .u64 ((q : Int) / 8 + 1), .int .i64 t, .int .i64 0, .int .i64 0, .int .i64 (q : Int)] rfl HLIT.out (one_M _ _ _ _ _ _) (by simp only [maxLen]; omega) (by omega) (by simp; omega) ?_
                   intro v2 w9 hown2 hgr2 hat2
                   have hown3 : Own w9 w.heap.size 39 6 encM v2 (shortMs (l.take (q + 1))) := by
                     unfold Own
                     rw [HSS.out, flat_snoc, List.length_append, HLN.out]
                     exact hown2
                   have m9 := (HM.out.alloc (.cells #[.int .i64 ((q : Int) % 8), .int .u64 ((q : Int) / 8 + 1), .int .i64 t, .int .i64 0, .int .i64 0, .int .i64 (q : Int)] 39)).trans (Mod.ofGrown hgr2) (fun q hq e => by have := HBA.out q e; omega)
                   have hl9 : (shortMs (l.take (q + 1))).length = q + 1 := by rw [HSS.out, List.length_append, HLN.out]; rfl
                   obtain ⟨gx, cx9, rfl, -, hgx, hgxl⟩ := hown3.form1 (by rw [hl9]; omega)
                   rw [hl9] at hown3 ⊢
                   have a0 : w9.cell? ⟨gx, a * 6, none⟩ = some (.int .i64 ((a : Int) % 8)) := hown3.cell encM_len (short_get HTA.out) (j := 0) (by omega)
                   have a1 : w9.cell? ⟨gx, a * 6 + 1, none⟩ = some (.int .u64 ((a : Int) / 8 + 1)) := hown3.cell encM_len (short_get HTA.out) (j := 1) (by omega)
                   have a2 : w9.cell? ⟨gx, a * 6 + 2, none⟩ = some (.int .i64 ta) := hown3.cell encM_len (short_get HTA.out) (j := 2) (by omega)
                   have a3 : w9.cell? ⟨gx, a * 6 + 3, none⟩ = some (.int .i64 0) := hown3.cell encM_len (short_get HTA.out) (j := 3) (by omega)
                   have a4 : w9.cell? ⟨gx, a * 6 + 4, none⟩ = some (.int .i64 0) := hown3.cell encM_len (short_get HTA.out) (j := 4) (by omega)
                   have a5 : w9.cell? ⟨gx, a * 6 + 5, none⟩ = some (.int .i64 (a : Int)) := hown3.cell encM_len (short_get HTA.out) (j := 5) (by omega)
                   have hlast : (shortMs (l.take (q + 1)))[q]? = some ⟨(q : Int) % 8, (q : Int) / 8 + 1, t, 0, 0, (q : Int)⟩ := by
                     rw [HSS.out, List.getElem?_append_right (by rw [HLN.out]; exact Nat.le_refl _), HLN.out, Nat.sub_self]
                     rfl
                   have d0 : w9.cell? ⟨gx, q * 6, none⟩ = some (.int .i64 ((q : Int) % 8)) := hown3.cell encM_len hlast (j := 0) (by omega)
                   have d1 : w9.cell? ⟨gx, q * 6 + 1, none⟩ = some (.int .u64 ((q : Int) / 8 + 1)) := hown3.cell encM_len hlast (j := 1) (by omega)
                   obtain ⟨g', off', e', _, c9⟩ := (HH.out.later m9 (Nat.le_refl _)).atI HT.out
                   injection e' with e'
                   injection e' with e1 e2
                   subst e1 e2
                   have hg9 : g < w9.heap.size := Nat.lt_of_lt_of_le hg m9.size
                   have M9 := Lib.hid m9
                   have HO9 := Lib.hid hown3
                   have HL9 := Lib.hid hl9
                   clear hown2 hgr2 hat2 hown3 m9 hl9 hlast)
      have ha1 : (a : Int) < (q : Int) + 1 := by omega
      go_upto_region 12 with fail
      have HB9 := Lib.hid (Blk.new w9 39 #[.int .i64 ((a : Int) % 8), .int .u64 ((a : Int) / 8 + 1), .int .i64 ta, .int .i64 0, .int .i64 0, .int .i64 (a : Int)])
      have HTRUE := Lib.hid (fun (h : goesFirst t ta q a) => (HNX.out.1 h))
      have HFALSE := Lib.hid (fun (h : ¬ goesFirst t ta q a) => (HNX.out.2 h))
      unfold goesFirst at HTRUE HFALSE
      have hq0 : 0 ≤ (q : Int) := by omega
      generalize (q : Int) % 8 = qp at *
      generalize (q : Int) / 8 + 1 = qi at *
      generalize (a : Int) % 8 = ap at *
      generalize (a : Int) / 8 + 1 = ai at *
      rcases (by omega : t < ta ∨ ta < t ∨ t = ta) with g1 | g1 | g1
      · have e1 : decide (t < ta) = true := by simp; omega
        have HL := Lib.hid (HTRUE.out (.inl g1))
        clear HTRUE HFALSE HNX
        go_quiet (fail)
        go_wp2_with fail
        go_roundw
        case rel => exact ⟨q + 1, q, by go_num, rfl, by omega, .inr HL.out, HOK2.out, HO9.out.later (((Mod.refl _ _).alloc _).drewN _), (M9.out.alloc _).drewN _⟩
        case measure => simp [intOf]; omega
      · have e1 : decide (t < ta) = false := by simp; omega
        have e2 : (t == ta) = false := by simp; omega
        have HL := Lib.hid (HFALSE.out (by omega))
        clear HTRUE HFALSE HNX
        go_quiet (fail)
        go_wp2_with fail
        go_roundw
        case rel => exact ⟨q + 1, a, by go_num, rfl, by omega, .inr HL.out, HOK2.out, HO9.out.later (((Mod.refl _ _).alloc _).drewN _), (M9.out.alloc _).drewN _⟩
        case measure => simp [intOf]; omega
      · subst g1
        have e0 : decide (t < t) = false := by simp
        have e00 : (t == t) = true := by simp
        rcases (by omega : qp < ap ∨ ap < qp ∨ qp = ap) with g2 | g2 | g2
        · have e1 : decide (qp < ap) = true := by simp; omega
          have HL := Lib.hid (HTRUE.out (.inr ⟨rfl, .inl g2⟩))
          clear HTRUE HFALSE HNX
          go_quiet (fail)
          go_wp2_with fail
          go_roundw
          case rel => exact ⟨q + 1, q, by go_num, rfl, by omega, .inr HL.out, HOK2.out, HO9.out.later (((Mod.refl _ _).alloc _).drewN _), (M9.out.alloc _).drewN _⟩
          case measure => simp [intOf]; omega
        · have e1 : decide (qp < ap) = false := by simp; omega
          have e2 : (qp == ap) = false := by simp; omega
          have HL := Lib.hid (HFALSE.out (by omega))
          clear HTRUE HFALSE HNX
          go_quiet (fail)
          go_wp2_with fail
          go_roundw
          case rel => exact ⟨q + 1, a, by go_num, rfl, by omega, .inr HL.out, HOK2.out, HO9.out.later (((Mod.refl _ _).alloc _).drewN _), (M9.out.alloc _).drewN _⟩
          case measure => simp [intOf]; omega
        · subst g2
          have e1 : decide (qp < qp) = false := by simp
          have e2 : (qp == qp) = true := by simp
          by_cases g3 : qi < ai
          · have e3 : decide (qi < ai) = true := by simp; omega
            have HL := Lib.hid (HTRUE.out (.inr ⟨rfl, .inr ⟨rfl, g3⟩⟩))
            clear HTRUE HFALSE HNX
            go_quiet (fail)
            go_wp2_with fail
            go_roundw
            case rel => exact ⟨q + 1, q, by go_num, rfl, by omega, .inr HL.out, HOK2.out, HO9.out.later (((Mod.refl _ _).alloc _).drewN _), (M9.out.alloc _).drewN _⟩
            case measure => simp [intOf]; omega
          · have e3 : decide (qi < ai) = false := by simp; omega
            have HL := Lib.hid (HFALSE.out (by omega))
            clear HTRUE HFALSE HNX
            go_quiet (fail)
            go_wp2_with fail
            go_roundw
            case rel => exact ⟨q + 1, a, by go_num, rfl, by omega, .inr HL.out, HOK2.out, HO9.out.later (((Mod.refl _ _).alloc _).drewN _), (M9.out.alloc _).drewN _⟩
            case measure => simp [intOf]; omega
    · obtain rfl : n = q := by omega
      have hll : l.length ≤ 40 := by rw [HN.out]; exact l40
      have htk : l.take n = l := List.take_of_length_le (by rw [HN.out]; exact Nat.le_refl _)
      have hat := HAT.out
      have hok := HOK.out
      rw [htk] at hat hok hx
      have hla : leastAt l a := hat.resolve_left (fun e => by omega)
      obtain ⟨ta, hta, _⟩ := id hla
      obtain ⟨r, hr⟩ := short_order hll hok hla
      obtain ⟨g0, gs, hgl, p1, p2, p3, p4, p5⟩ := short_law hll hok hla hta k1 b0 b1
      have hol := short_olen hll hok
      have hold := short_oldest hll hok (by rw [HN.out]; exact l0)
      have hsl : (shortMs l).length = n := by rw [short_len, HN.out]
      have hord := orderW (.slice Ax n cx) (shortMs l) wr hx.has (by rw [hsl]; omega)
      rw [HN.out] at hol p5
      rw [hgl] at p5
      have hsrt := fun (i : Nat) (a b : Nat) (t u : Int) => short_sorted (l := l) (i := i) (a := a) (b := b) (t := t) (u := u)
      have hmem : ∀ (i x : Nat), (orderL false (shortMs l))[i]? = some x → ∃ t, l[x]? = some t ∧ x < n := fun i x h => by
        obtain ⟨m, hm, _, _, hlt⟩ := order_mem (List.mem_of_getElem? h)
        obtain ⟨t, ht, _⟩ := short_of hm
        exact ⟨t, ht, by rw [hsl] at hlt; exact hlt⟩
      have hho := (HH.out.later hm (Nat.le_refl _)).atI hta
      obtain ⟨g, off, rfl, hg, cl⟩ := hho
      obtain ⟨gx, cx', ex, -, hgx, hgxl⟩ := hx.form1 (by rw [hsl]; exact l0)
      injection ex with ex1 ex2 ex3
      subst ex1
      have hcx2 : ∀ (x : Nat) (t : Int), l[x]? = some t → wr.cell? ⟨gx, x * 6, none⟩ = some (.int .i64 ((x : Int) % 8)) ∧ wr.cell? ⟨gx, x * 6 + 1, none⟩ = some (.int .u64 ((x : Int) / 8 + 1)) ∧ wr.cell? ⟨gx, x * 6 + 2, none⟩ = some (.int .i64 t) := fun x t ht =>
        ⟨hx.cell encM_len (short_get ht) (j := 0) (by omega), hx.cell encM_len (short_get ht) (j := 1) (by omega), hx.cell encM_len (short_get ht) (j := 2) (by omega)⟩
      have HORD := Lib.hid hord
      have HX := Lib.hid hx
      have HM := Lib.hid hm
      have HGL := Lib.hid hgl
      have HOL := Lib.hid hol
      have HR := Lib.hid hr
      have HSR := Lib.hid hsrt
      have HMM := Lib.hid hmem
      have HCX := Lib.hid hcx2
      have HTA := Lib.hid hta
      have HOLD := Lib.hid hold
      have HSL := Lib.hid hsl
      have HP3 := Lib.hid p3
      clear hord hx hm hgl hol hr hsrt hmem hcx2 hta hold hsl p3 hat hok hla htk HAT HOK ex2 ex3 hln
      go_wp2_with fail
      refine HORD.out.mono ?_
      rintro e w2 ⟨v2, rfl, hown2, m2⟩
      generalize hoo : orderL false (shortMs l) = o at *
      have ho0 : o[0]? = some a := by rw [HR.out]; rfl
      obtain ⟨go, co, rfl, -, hgo, hgol⟩ := hown2.form1 (by rw [HOL.out]; exact l0)
      have hc := grantsW (.slice (some ⟨gx, 0, none⟩) n cx) (shortMs l) k budget 0 w2 (HX.out.later m2).has (by rw [HSL.out]; omega) k1 k8 (by omega) (by omega) (by omega) (by omega)
      rw [HGL.out] at hc
      have HC := Lib.hid hc
      have HO2 := Lib.hid hown2
      have M2 := Lib.hid m2
      rw [HOL.out] at hown2 ⊢
      clear hc hown2 m2 hoo
      go_wp2_with fail
      refine HC.out.mono ?_
      rintro e w3 ⟨v3, rfl, hown3, m3⟩
      obtain ⟨gg, cg, rfl, b0', b1', b2', b3'⟩ := hown3.cells4 (i := 0) (x := g0) rfl
      rw [Nat.zero_mul] at b0' b1' b2' b3'
      rw [p1] at b0'
      rw [p2] at b1'
      rw [HP3.out] at b2'
      rw [p4] at b3'
      have M3 := Lib.hid (M2.out.trans m3 (fun _ _ e => e))
      have HO3 := Lib.hid (HO2.out.later m3)
      have hnl : 1 ≤ (g0 :: gs).length := by simp
      generalize (g0 :: gs).length = nl at *
      have hz1 : ((nl : Int) == 0) = false := by simp; omega
      have hz2 : decide (min k (n : Int) < (nl : Int)) = false := by simp; omega
      have hz3 : ((a : Int) == (a : Int)) = true := by simp
      have co0 : w3.cell? ⟨go, 0, none⟩ = some (.int .i64 (a : Int)) := by
        have := HO3.out.cell encJ_len ho0 (j := 0) (by omega)
        exact this
      have hn0' : 0 < (n : Int) := by omega
      clear hown3 m3 HC p1 p2 p4 p5
      go_wp2_with fail
      go_loopw [14] (fun i wr => ∃ p : Nat, i = .int .i64 p ∧ 1 ≤ p ∧ p ≤ n ∧ Mod (fun _ => False) w3 wr) (fun i _ => n - (intOf i).toNat)
      case atStart => exact ⟨1, rfl, by omega, by omega, Mod.refl _ _⟩
      case round =>
        obtain ⟨p, rfl, hp1, hp, hmp⟩ := hrel
        have hmw := M3.out.trans hmp (fun _ _ e => e)
        by_cases hpn : p < n
        · have hpl : p < o.length := by rw [HOL.out]; exact hpn
          have hpl0 : p - 1 < o.length := by omega
          have hy1 := List.getElem?_eq_getElem hpl
          have hy0 := List.getElem?_eq_getElem hpl0
          generalize o[p]'hpl = x1 at *
          generalize o[p - 1]'hpl0 = x0 at *
          obtain ⟨t1, ht1, hx1⟩ := HMM.out _ _ hy1
          obtain ⟨t0, ht0, hx0⟩ := HMM.out _ _ hy0
          have hle := HSR.out (p - 1) x0 x1 t0 t1 hy0 (by rw [show p - 1 + 1 = p by omega]; exact hy1) ht0 ht1
          have hop := HO3.out.later hmp
          have d1 : wr.cell? ⟨go, p, none⟩ = some (.int .i64 (x1 : Int)) := by
            have := hop.cell encJ_len hy1 (j := 0) (by omega)
            rw [Nat.mul_one, Nat.add_zero] at this
            exact this
          have d0 : wr.cell? ⟨go, p - 1, none⟩ = some (.int .i64 (x0 : Int)) := by
            have := hop.cell encJ_len hy0 (j := 0) (by omega)
            rw [Nat.mul_one, Nat.add_zero] at this
            exact this
          have c1 := kept hmw (HCX.out x1 t1 ht1).2.2
          have c0 := kept hmw (HCX.out x0 t0 ht0).2.2
          have z0 : (1 : Int) ≤ (p : Int) := by omega
          have z1 : decide ((x1 : Int) < 0) = false := by simp
          have z2 : decide ((n : Int) ≤ (x1 : Int)) = false := by simp; omega
          have z2' : decide (n ≤ x1) = false := by simp; omega
          have z3 : decide (t1 < t0) = false := by simp; omega
          have z4 : (x1 : Int) < (n : Int) := by omega
          have z5 : (x0 : Int) < (n : Int) := by omega
          have z6 : (p : Int) < (n : Int) := by omega
          have HMP := Lib.hid hmp
          clear hop hmp hmw hy1 hy0 ht1 ht0 hle
          go_wp2_with fail
          go_quiet (fail)
          go_wp2_with fail
          go_roundw
          case rel => exact ⟨p + 1, by go_num, by omega, by omega, HMP.out.drewN _⟩
          case measure => simp [intOf]; omega
        · have e0 := kept hmw (HCX.out a ta HTA.out).1
          have e1 := kept hmw (HCX.out a ta HTA.out).2.1
          have e2 := kept hmw cl
          have f0 := kept hmp b0'
          have f1 := kept hmp b1'
          have f2 := kept hmp b2'
          have f3 := kept hmp b3'
          have han : (a : Int) < (n : Int) := by
            have := (List.getElem?_eq_some_iff.1 HTA.out).1
            rw [HN.out] at this
            omega
          have hoc : ∀ w' : World, Mod (fun _ => False) wr w' → Calls Try.prog 16 #[.slice (some ⟨gx, 0, none⟩) n cx] w' fun e w2 => e = .returned (.int .i64 0) ∧ Mod (fun _ => False) w' w2 := fun w' m => by
            have := oldestW (.slice (some ⟨gx, 0, none⟩) n cx) (shortMs l) w' (HX.out.later (hmw.trans m (fun _ _ e => e))).has (by rw [HSL.out]; omega)
            rw [HOLD.out] at this
            exact this
          have HOC := Lib.hid hoc
          have HMW := Lib.hid (HM.out.trans hmw (fun _ _ e => e))
          have hq1 : ((a : Int) % 8 == (a : Int) % 8) = true := by simp
          have hq2 : ((a : Int) / 8 + 1 == (a : Int) / 8 + 1) = true := by simp
          clear hoc hmp hmw b0' b1' b2' b3' co0 cl
          generalize (a : Int) % 8 = ap at *
          generalize (a : Int) / 8 + 1 = ai at *
          have hnl1 : (1 : Int) ≤ (nl : Int) := by omega
          have hnl2 : 0 < nl := by omega
          have hnl0 : (0 : Int) < (nl : Int) := by omega
          have hdv : budget.tdiv k = budget / k := Int.tdiv_eq_ediv_of_nonneg (by omega)
          have hdb : 0 ≤ budget / k ∧ budget / k ≤ budget := ⟨Int.ediv_nonneg (by omega) (by omega), Int.ediv_le_self k (by omega)⟩
          have hwq : IntKind.i64.wrap (budget / k) = budget / k := by simp [IntKind.wrap, IntKind.bits, IntKind.signed]; omega
          have hwq2 : IntKind.i64.wrap (budget.tdiv k) = budget / k := by rw [hdv]; exact hwq
          have hk0 : (k == 0) = false := by simp; omega
          have hk1 : ¬ k = 0 := by omega
          obtain ⟨wE, rfl⟩ : ∃ z : World, z = wr := ⟨_, rfl⟩
          go_upto_region 23 with fail
          go_region_held3 (fun w' => Mod (fun _ => False) wE w' ∧ w'.cell? ⟨gx, a * 6, none⟩ = some (.int .i64 ap) ∧ w'.cell? ⟨gx, a * 6 + 1, none⟩ = some (.int .u64 ai) ∧ w'.cell? ⟨g, off + a, none⟩ = some (.int .i64 ta) ∧ w'.cell? ⟨gg, 0, none⟩ = some (.int .i64 ap) ∧ w'.cell? ⟨gg, 0 + 1, none⟩ = some (.int .u64 ai) ∧ w'.cell? ⟨gg, 0 + 2, none⟩ = some (.int .i64 (min ta (budget / k))) ∧ w'.cell? ⟨gg, 0 + 3, none⟩ = some (.int .i64 6))
            (first | assumption | exact ⟨(Mod.refl _ _).drew, by assumption, by assumption, by assumption, by assumption, by assumption, by assumption, by assumption⟩ | exact keep8 (by assumption) (by assumption))
            (first
              | (go_at_call 16; refine (HOC.out _ (mod8 (by assumption))).mono ?_; rintro e wa ⟨rfl, ma⟩)
              | (go_at_call 7; refine (awakeW _).mono ?_; rintro e wb ⟨rfl, mb⟩))
          all_goals
            go_wp2_with fail
            go_ret
            exact ⟨rfl, HMW.out.trans (mod8 (by assumption)) (fun _ _ e => e)⟩
end Go.Proofs.Ytpcgfejdeanenaa
