/- mizzenlaw20.PeerOnce's walk. -/
import Derived.Test.YtddnlbkocmpffaaZPeeQ
import Derived.Test.YtddnlbkocmpffaaZPeeI
import Derived.Test.YtddnlbkocmpffaaZPeeG
import Derived.Test.YtddnlbkocmpffaaZRegC
import Derived.Deep.QuietTactic
import Derived.BigQuiet
namespace Go.Proofs.Ytddnlbkocmpffaa
open Go.RowKit
set_option linter.unusedVariables false
set_option maxHeartbeats 4000000
set_option maxRecDepth 100000
/-- How long texts are, one more for each. -/
def sumT : List (List Int) → Int
  | [] => 0
  | t :: T => sumT T + t.length + 1
theorem sumT_nonneg : ∀ T : List (List Int), 0 ≤ sumT T
  | [] => Int.le_refl _
  | t :: T => by have := sumT_nonneg T; simp only [sumT]; omega
theorem sumT_snoc (T : List (List Int)) (t : List Int) : sumT (T ++ [t]) = sumT T + t.length + 1 := by
  induction T with
  | nil => simp [sumT]
  | cons x xs ih => simp only [List.cons_append, sumT, ih]; omega
theorem sumT_mem : ∀ {T : List (List Int)} {t : List Int}, t ∈ T → (t.length : Int) ≤ sumT T
  | x :: xs, t, h => by
    have h0 := sumT_nonneg xs
    rcases List.mem_cons.1 h with rfl | h
    · simp only [sumT]; omega
    · have := sumT_mem h
      simp only [sumT]; omega
def gotV (dn : Nat → Bool) (k : Nat) : Value := .int .i64 (if dn k then 1 else 0)
def gotCells (m : Nat) (dn : Nat → Bool) : Array Value := ((List.range m).map (gotV dn)).toArray
theorem gotCells_get {m : Nat} {dn : Nat → Bool} {k : Nat} (h : k < m) : (gotCells m dn)[k]? = some (gotV dn k) := by
  unfold gotCells; simp [h]
theorem gotCells_set {m : Nat} {dn : Nat → Bool} {k : Nat} (h : k < m) : (gotCells m dn).setIfInBounds k (.int .i64 1) = gotCells m (setAt dn k true) := by
  unfold gotCells
  apply Array.ext_getElem?
  intro j
  rw [Array.getElem?_setIfInBounds]
  by_cases e : k = j
  · subst e
    simp [h, gotV, setAt]
  · rw [if_neg e]
    by_cases hj : j < m
    · simp [hj, gotV, setAt, Ne.symm e]
    · simp [hj]
theorem make_ints (n : Nat) (hn : n ≤ 1000000) (w : World) : (Instr.makeSlice 72 (.int .i64 (n : Int)) (.int .i64 (n : Int))).run Try.prog w = .ok (.slice (some ⟨w.heap.size, 0, none⟩) n n) (w.alloc (.cells (gotCells n (fun _ => false)) 3)) := by
  obtain ⟨i, hi, hz, hs, hb⟩ := info_parts (show (Try.prog.info? 3).map (fun i => (i.zero, i.size, i.bytes)) = some (some (.int .i64 0), 1, 8) by kernel_rfl)
  have := run_make_rowN (P := Try.prog) 72 3 i _ Try.underlying72 hi hz .i64 .i64 n n (Nat.le_refl _) (by rw [hb]; omega) (by omega) w
  rw [hs] at this
  rw [this]
  congr 3
  apply Array.ext_getElem?
  intro k
  rcases Nat.lt_or_ge k n with hk | hk
  · rw [made_get _ _ _ (by omega), gotCells_get hk]
    simp [Value.cells, gotV, Nat.mod_one]
  · rw [Array.getElem?_eq_none (by rw [made_size]; omega)]
    unfold gotCells
    simp [hk]
/-- A piece of a slice that ends where its room ends: nothing. -/
theorem Has.piece0 {w : World} {B l cr off en : Nat} {A : Option Addr} {xs : List Int} (h : Has w B 1 encB (.slice A l cr) xs) (h1 : off ≤ en) (h2 : en ≤ l) (hcr : cr = off) :
    Has w B 1 encB (.slice A (en - off) 0) ((xs.drop off).take (en - off)) := by
  obtain ⟨A', c', e, k1, k2, k3, k4⟩ := h
  injection e with e1 e2 e3
  subst e1 e2 e3
  have he : en - off = 0 := by omega
  rw [he, List.take_zero]
  exact ⟨A, 0, rfl, Nat.le_refl _, fun _ => rfl, ⟨rfl, fun hn => absurd hn (Nat.lt_irrefl _)⟩, fun _ _ hn => absurd hn (Nat.lt_irrefl _)⟩
theorem Has.pieceN {w : World} {B l cr off en : Nat} {A : Option Addr} {xs : List Int} (h : Has w B 1 encB (.slice A l cr) xs) (h1 : off ≤ en) (h2 : en ≤ l) (hcr : ¬ cr = off) :
    Has w B 1 encB (.slice (Option.map (fun x => x.add off) A) (en - off) (cr - off)) ((xs.drop off).take (en - off)) := by
  have h3 := h.cut (k := off) encB_len (by omega)
  rw [if_neg hcr, Nat.mul_one] at h3
  exact h3.firsts encB_len (by omega)
theorem walk_peerOnceK (w : World) {tv : Value} (T : List (List Int)) (ht : HasT w w.heap.size tv T ∧ (∀ t ∈ T, Byt t) ∧ (∀ t ∈ T, t.length ≤ 9223372036854775807) ∧ T.length ≤ 9223372036854775807) (hpos : 0 < T.length) (size : Int) (hs : (Lit.int .i64 size).wf = true) {ov : Value} (os : List Int) (ho : Has w w.heap.size 1 (encN .i64) ov os ∧ (∀ z ∈ os, (Lit.int .i64 z).wf = true) ∧ os.length ≤ 9223372036854775807) (below : Int) (hb : (Lit.int .u64 below).wf = true) :
    Calls Try.prog 5 #[tv, .int .i64 size, ov, .int .u64 below] w fun e w' => e = .returned (.bool true) ∧ Below w.heap.size w w' := by
  have hb0 := (bounds_u64 hb).1
  obtain ⟨hT, hTb, hTl, hTm⟩ := ht
  obtain ⟨hO, hOw, hOm⟩ := ho
  obtain ⟨At, ct, rfl, hct⟩ := hT.form
  obtain ⟨Ao, co, rfl, hco⟩ := hO.form
  obtain ⟨m, hm⟩ : ∃ m, T.length = m := ⟨_, rfl⟩
  obtain ⟨N, hN⟩ : ∃ N, os.length = N := ⟨_, rfl⟩
  rw [hm] at hT hct hTm hpos ⊢
  rw [hN] at hO hco hOm ⊢
  have HT := Lib.hid hT
  have HO := Lib.hid hO
  have HTB := Lib.hid hTb
  have HTL := Lib.hid hTl
  have HOW := Lib.hid hOw
  have HM := Lib.hid hm
  have HN := Lib.hid hN
  clear hT hO hTb hTl hOw hm hN hs hb
  go_enter Try.func5, Try.ntmps5
  go_wp2_with fail
  go_loopw [9, 10] (fun q i wr => ∃ (n : Int) (k : Nat), q = .int .i64 n ∧ i = .int .i64 k ∧ k ≤ m ∧ 0 ≤ n ∧ n ≤ 1099511627776 ∧ Hid ((n = sumT (T.take k) ∨ n = 1099511627776) ∧ Mod NoB w wr)) (fun _ i _ => m - (intOf i).toNat)
  case atStart => exact ⟨0, 0, rfl, rfl, Nat.zero_le _, Int.le_refl _, by omega, Lib.hid ⟨.inl rfl, Mod.refl _ _⟩⟩
  case round =>
    obtain ⟨n, k, rfl, rfl, hk, hn0, hn1, hrel⟩ := hrel
    by_cases hkm : k < m
    · have hkz : (k : Int) < (m : Int) := by omega
      have hkz0 : (0 : Int) ≤ (k : Int) := by omega
      have hkd : decide ((k : Int) < (m : Int)) = true := by simpa using hkz
      have hkx : k < T.length := by rw [HM.out]; exact hkm
      have hx? := List.getElem?_eq_getElem hkx
      obtain ⟨g, off, Ar, cr, rfl, hg, hc, -⟩ := (HT.out.later hrel.out.2 (Nat.le_refl _)).at_ hx?
      have hsn := sumT_snoc (T.take k) (T[k]'hkx)
      rw [← List.take_succ_eq_append_getElem hkx] at hsn
      have hlb := HTL.out _ (List.getElem_mem hkx)
      generalize T[k]'hkx = t at *
      obtain ⟨l, hl⟩ : ∃ l, t.length = l := ⟨_, rfl⟩
      rw [hl] at hc hsn hlb
      have ha := hrel.out.2.alloc (.cells #[.int .i64 l, .int .i64 1] 3)
      have HS := Lib.hid (sumG n l wr.heap.size (wr.alloc (.cells #[.int .i64 l, .int .i64 1] 3)) ((Blk.new wr 3 #[.int .i64 l, .int .i64 1]).cell 0) ((Blk.new wr 3 #[.int .i64 l, .int .i64 1]).cell 1) hn0 hn1 (by omega) (by omega))
      have HA := Lib.hid ha
      have HSN := Lib.hid hsn
      clear ha hsn hl hx? hkx
      go_wp2_with fail
      refine HS.out.mono ?_
      rintro e w3 ⟨⟨r, rfl, hr⟩, rfl⟩
      have hr0 : 0 ≤ r ∧ r ≤ 1099511627776 := by omega
      have HR := Lib.hid hr
      clear hr
      go_wp2_with fail
      go_roundw
      case rel => exact ⟨r, k + 1, rfl, by go_num, by omega, hr0.1, hr0.2, Lib.hid ⟨by
        rw [HSN.out]
        rcases HR.out with ⟨h1, h2⟩ | h1
        · rcases hrel.out.1 with h3 | h3
          · exact .inl (by omega)
          · exact .inr (by omega)
        · exact .inr h1, HA.out⟩⟩
      case measure => simp [intOf]; omega
    · obtain rfl : k = m := by omega
      have hkz : ¬ (k : Int) < (k : Int) := by omega
      have hkd : decide ((k : Int) < (k : Int)) = false := by simp
      have htk : T.take k = T := by rw [← HM.out]; exact List.take_length
      rw [htk] at hrel
      clear htk
      by_cases hout : 500 < n ∨ 8 < k ∨ size < 1 ∨ 500 < size ∨ 100 < N
      · have hsp : 500 < n ∨ (¬ 500 < n ∧ 8 < (k : Int)) ∨ (¬ 500 < n ∧ ¬ 8 < (k : Int) ∧ size < 1) ∨ (¬ 500 < n ∧ ¬ 8 < (k : Int) ∧ ¬ size < 1 ∧ 500 < size) ∨ (¬ 500 < n ∧ ¬ 8 < (k : Int) ∧ ¬ size < 1 ∧ ¬ 500 < size ∧ 100 < (N : Int)) := by omega
        clear hout
        have HW := Lib.hid hrel.out.2
        clear hrel
        rcases hsp with h1 | ⟨h1, h2⟩ | ⟨h1, h2, h3⟩ | ⟨h1, h2, h3, h4⟩ | ⟨h1, h2, h3, h4, h5⟩
        all_goals
          go_wp2_with fail
          refine (awakeW _).mono ?_
          rintro e w3 ⟨rfl, m3⟩
          have HM3 := Lib.hid (HW.out.trans m3 (fun _ _ e => e))
          clear m3
          go_wp2_with fail
          go_ret
          exact ⟨rfl, HM3.out.below⟩
      · obtain ⟨S, rfl⟩ : ∃ S : Nat, size = S := ⟨size.toNat, by omega⟩
        have b1 : ¬ 500 < n := by omega
        have b2 : ¬ 8 < (k : Int) := by omega
        have b3 : ¬ (S : Int) < 1 := by omega
        have b4 : ¬ 500 < (S : Int) := by omega
        have b5 : ¬ 100 < (N : Int) := by omega
        have b6 : k ≤ 8 := by omega
        have b7 : 1 ≤ S := by omega
        have b8 : S ≤ 500 := by omega
        have b9 : N ≤ 100 := by omega
        have b10 : ((S : Int) == 0) = false := by rw [beq_eq_false_iff_ne]; omega
        have b11 : ((S : Int) == -1) = false := by rw [beq_eq_false_iff_ne]; omega
        have b12 : ¬ (S : Int) = 0 := by omega
        have b13 : ¬ S = 0 := by omega
        have hsum : n = sumT T := hrel.out.1.resolve_right (by omega)
        have HL5 := Lib.hid (show ∀ t ∈ T, t.length ≤ 500 from fun t ht => by have := sumT_mem ht; omega)
        have HW := Lib.hid hrel.out.2
        clear hout hrel hsum
        go_wp2_with fail
        refine (newRecW 20 1000 wr (by omega)).mono ?_
        rintro e w2 ⟨rb, rfl, hr2, m2⟩
        have HR2 := Lib.hid (LawR.new rb (newRec 20 1000) wr HW.out hr2 m2)
        have HM2 := Lib.hid (HW.out.trans m2 (fun _ _ e => e))
        have hmk := make_ints k (by omega)
        clear hr2 m2
        go_wp2_with fail
        have hgb := Blk.new w2 3 (gotCells k (fun _ => false))
        have HI := Lib.hid (show OnceI T (newRec 20 1000) (fun _ => false) ∧ (newRec 20 1000).out = [] ∧ SweptI T S N 0 (newRec 20 1000) ∧ LawG w2.heap.size rb (newRec 20 1000) w (w2.alloc (.cells (gotCells k (fun _ => false)) 3)) ∧ Blk (w2.alloc (.cells (gotCells k (fun _ => false)) 3)) w2.heap.size 3 (gotCells k (fun _ => false)) from
          ⟨⟨newRec_ok (by omega), rfl, rfl, fun x hx => (by cases hx), fun r hr => (by cases hr), fun j u hj => .none ((newRec_ok (by omega)).winNo (i := 2) rfl (by omega)) rfl⟩, rfl, SweptI.early _ (Nat.zero_le _), LawG.ofR HR2.out ((Mod.refl NoB w2).alloc _) (Nat.le_refl _) hgb.lt, hgb⟩)
        have HGB := Lib.hid (show w.heap.size ≤ w2.heap.size from HM2.out.size)
        obtain ⟨gb, hgbe⟩ : ∃ gb, w2.heap.size = gb := ⟨_, rfl⟩
        rw [hgbe] at HI HGB ⊢
        clear hgb hgbe HR2 HM2 hmk
        go_loopw [14] (fun q wr => ∃ (i : Nat) (R : RecA) (dn : Nat → Bool), q = .int .i64 i ∧ i ≤ N + 600 ∧ Hid (OnceI T R dn ∧ R.out = [] ∧ SweptI T S N i R ∧ LawG gb rb R w wr ∧ Blk wr gb 3 (gotCells k dn))) (fun q _ => N + 600 - (intOf q).toNat)
        case atStart => exact ⟨0, _, _, rfl, by omega, HI⟩
        case round =>
          clear HI HW
          obtain ⟨i, R, dn, rfl, hi, hrel⟩ := hrel
          by_cases hgo : i < N + 600 ∧ 0 < k
          · obtain ⟨hi1, hk0⟩ := hgo
            have hiz : (i : Int) < (N : Int) + 600 := by omega
            have hid : decide ((i : Int) < (N : Int) + 600) = true := decide_eq_true hiz
            have hkz0 : 0 < (k : Int) := by omega
            have HTR := Lib.hid (HT.out.later hrel.out.2.2.2.1.mod (Nat.le_refl _))
            by_cases hiN : i < N
            · have hiNz : (i : Int) < (N : Int) := by omega
              have hiNd : decide ((i : Int) < (N : Int)) = true := decide_eq_true hiNz
              have hix : i < os.length := by rw [HN.out]; exact hiN
              have hz? := List.getElem?_eq_getElem hix
              obtain ⟨go, oo, rfl, hgo, co⟩ := (HO.out.later hrel.out.2.2.2.1.mod (Nat.le_refl _)).at_ (encN_len .i64) hz?
              have hzb := HOW.out _ (List.getElem_mem hix)
              have co := co 0 (by omega)
              generalize os[i]'hix = z at *
              have c1 : wr.cell? ⟨go, oo + i, none⟩ = some (.int .i64 z) := by
                have h1 := co
                rw [Nat.mul_one, Nat.add_zero] at h1
                exact h1
              have hzb := bounds_i64 hzb
              obtain ⟨kk, hkk⟩ : ∃ kk : Nat, z % (k : Int) = kk := ⟨(z % (k : Int)).toNat, by have := Int.emod_nonneg z (show (k : Int) ≠ 0 by omega); omega⟩
              have hkkb : kk < k := by have := Int.emod_lt_of_pos z hkz0; omega
              have hkx : kk < T.length := by rw [HM.out]; exact hkkb
              have ht? := List.getElem?_eq_getElem hkx
              have HRO := Lib.hid (roundG z k hzb.1 hzb.2 (by omega) (by omega) wr)
              rw [hkk] at HRO
              obtain ⟨g, off0, Ar, cr, rfl, hg, hc, hrow⟩ := HTR.out.at_ ht?
              have htl5 := HL5.out _ (List.getElem_mem hkx)
              have HC0 := Lib.hid (fun (W : World) (hW : Mod NoB w W) => ((hW.cell (p := ⟨g, off0 + kk, none⟩) hg (fun e => e)).trans (hrel.out.2.2.2.1.mod.cell (p := ⟨g, off0 + kk, none⟩) hg (fun e => e)).symm).trans hc)
              have HR0 := Lib.hid (fun (W : World) (hW : Mod NoB w W) => hrow.keep (w' := W) (fun p hp => (hW.cell hp (fun e => e)).trans (hrel.out.2.2.2.1.mod.cell hp (fun e => e)).symm))
              have HTK := Lib.hid ht?
              have HTBK := Lib.hid (HTB.out _ (List.getElem_mem hkx))
              generalize T[kk]'hkx = t at *
              obtain ⟨l, hl⟩ : ∃ l, t.length = l := ⟨_, rfl⟩
              rw [hl] at hc hrow htl5 HC0 HR0
              have HLT := Lib.hid hl
              obtain ⟨P, hP⟩ : ∃ P, l / S = P := ⟨_, rfl⟩
              have hPl : S * P ≤ l := by rw [← hP]; exact Nat.mul_div_le l S
              have hPb : P ≤ 500 := by have := Nat.div_le_self l S; omega
              have hq1 : (l : Int) / (S : Int) = (P : Int) := by rw [← hP]; exact (Int.natCast_ediv l S).symm
              have hw1 : IntKind.i64.wrap (P : Int) = (P : Int) := by rw [IntKind.wrap_i64]; omega
              have hw2 : IntKind.i64.wrap ((P : Int) + 1) = (P : Int) + 1 := by rw [IntKind.wrap_i64]; omega
              obtain ⟨zq, hzq⟩ : ∃ zq, z.tdiv 8 = zq := ⟨_, rfl⟩
              have hzqb : -9223372036854775808 ≤ zq ∧ zq ≤ 9223372036854775807 := by
                have h3 := Int.tmod_add_mul_tdiv z 8
                have h4 := tmodS_bd (p := z) (s := 8) (by omega)
                rw [hzq] at h3
                omega
              have hw4 : IntKind.i64.wrap zq = zq := by rw [IntKind.wrap_i64]; omega
              obtain ⟨q, hq⟩ : ∃ q : Nat, zq % ((P : Int) + 1) = q := ⟨(zq % ((P : Int) + 1)).toNat, by have := Int.emod_nonneg zq (show (P : Int) + 1 ≠ 0 by omega); omega⟩
              have hqb : q ≤ P := by have := Int.emod_lt_of_pos zq (show (0 : Int) < (P : Int) + 1 by omega); omega
              have HRQ := Lib.hid (fun W => roundG zq ((P : Int) + 1) hzqb.1 hzqb.2 (by omega) (by omega) W)
              rw [hq] at HRQ
              obtain ⟨off, hoff⟩ : ∃ off, S * q = off := ⟨_, rfl⟩
              have hofl : off ≤ l := by
                have : S * q ≤ S * P := Nat.mul_le_mul_left _ hqb
                omega
              have hw5 : (S : Int) * (q : Int) = (off : Int) := by rw [← hoff]; exact (Int.natCast_mul S q).symm
              have hw6 : IntKind.i64.wrap (off : Int) = (off : Int) := by rw [IntKind.wrap_i64]; omega
              have HNEW := Lib.hid (show N ≤ i → kk = (i - N) % k ∧ off = S * ((i - N) / k) from fun e => absurd e (by omega))
              clear co hz? hix hkk hq hoff hP hPl hqb hl ht? hkx
              go_wp2_with fail
              refine HRO.out.mono ?_
              rintro e w3 ⟨rfl, rfl⟩
              go_wp2_with fail
              go_quiet ((go_at_call 30; exact quiet_eq (HRQ.out _)))
              go_upto_region 21 with fail
              have HW0 := Lib.hid ((Mod.refl NoB wr).drewN nq)
              generalize wr.drewN nq = W0 at *
              have hgw : g < wr.heap.size := Nat.lt_of_lt_of_le hg hrel.out.2.2.2.1.mod.size
              have hcW : W0.cell? ⟨g, off0 + kk, none⟩ = some (.slice Ar l cr) := (HW0.out.cell (p := ⟨g, off0 + kk, none⟩) hgw (fun e => e)).trans hc
              have HROW := Lib.hid (hrow.later HW0.out hrel.out.2.2.2.1.mod.size)
              have hlc := hrow.form
              have hkz1 : (0 : Int) ≤ (kk : Int) := by omega
              have hkz2 : (kk : Int) < (k : Int) := by omega
              have hofz : ¬ (l : Int) < (off : Int) := by omega
              have hw7 : IntKind.u64.wrap (kk : Int) = (kk : Int) := by rw [IntKind.wrap_u64]; omega
              have hw8 : IntKind.u64.wrap ((kk : Int) + 1) = (kk : Int) + 1 := by rw [IntKind.wrap_u64]; omega
              have hlcr : l ≤ cr := by
                obtain ⟨A', c', e', h'⟩ := hlc
                injection e' with e1 e2 e3
                omega
              clear hc hrow hlc
              obtain ⟨en, hen⟩ : ∃ en, min (off + S) l = en := ⟨_, rfl⟩
              have hmin : min ((off : Int) + (S : Int)) (l : Int) = (en : Int) := by omega
              have he1 : off ≤ en := by omega
              have he2 : en ≤ l := by omega
              have he3 : (off : Int) ≤ (en : Int) := by omega
              have he4 : (en : Int) ≤ (cr : Int) := by omega
              have he5 : (0 : Int) ≤ (off : Int) := by omega
              obtain ⟨R', fr, db, dn', hdat, hrok, hres, hbg, hhv, hbm, hhm⟩ := hrel.out.1.step (by rw [HM.out]; exact b6) (k := kk) (t := t) HTK.out HTBK.out (by rw [HLT.out]; exact htl5) (off := off) (c := en - off) (by rw [HLT.out]; omega)
              have hG := hrel.out.2.2.2.1.later HW0.out
              have hgot := hrel.out.2.2.2.2.mod HW0.out (fun e => e)
              have hout0 := hrel.out.2.1
              have HCALL := Lib.hid (fun (nk : Nat) (V : Value) (hV : Has (W0.drewN nk) w.heap.size 1 encB V ((t.drop off).take (en - off))) => (show Calls Try.prog 9 #[.pointer (some ⟨rb, 0, none⟩), .int .i64 2, .int .u64 ((kk : Int) + 1), .int .i64 l, .int .i64 off, V] (W0.drewN nk) fun e w' => e = .returned (.tuple #[.int .i64 fr, .bool db, .int .i64 0]) ∧ LawG gb rb R' w w' ∧ Mod (fun z => z ≠ gb) W0 w' from by
                have hsz : w.heap.size ≤ (W0.drewN nk).heap.size := hG.mod.size
                have h1 := lawDataG (hG.later ((Mod.refl NoB W0).drewN nk)) hrel.out.1.ok 2 (by omega) ((kk + 1 : Nat) : Int) (by omega) (by omega) t.length off ((t.drop off).take (en - off)) V (hV.more hsz) (by simp; rw [HLT.out]; omega) (by rw [HLT.out]; omega) (fun h0 z hz e => by
                  have := hV.block h0 hz
                  omega) ((HTBK.out.drop _).take _) (by rw [hout0]; simp)
                rw [hdat, HLT.out] at h1
                refine h1.mono ?_
                rintro e w' ⟨rfl, h2, h3⟩
                exact ⟨rfl, h2, ((Mod.refl (fun z => z ≠ gb) W0).drewN nk).trans h3 (fun _ _ e => e)⟩))
              have HRES := Lib.hid hres
              have HBG := Lib.hid hbg
              have HHV := Lib.hid hhv
              have HBM := Lib.hid hbm
              have HHM := Lib.hid hhm
              have HGOT := Lib.hid hgot
              have HOUT0 := Lib.hid hout0
              have HSW := Lib.hid hrel.out.2.2.1
              have HEN := Lib.hid hen
              have HSN := Lib.hid (show SweptI T S N (i + 1) R' from hrel.out.2.2.1.next hbm hhm (fun k' t' hk' hNi hkk' hle => by
                rw [HM.out] at hkk' hle ⊢
                obtain ⟨e1, e2⟩ := HNEW.out hNi
                have ek : k' = kk := by omega
                subst ek
                have et : t' = t := by have := HTK.out; rw [this] at hk'; exact (Option.some.inj hk').symm
                subst et
                refine ⟨hbg, fun x h1 h2 h3 => hhv x (by omega) ?_⟩
                rw [HLT.out] at h3
                omega))
              have HSZ0 := Lib.hid (show w.heap.size ≤ W0.heap.size from hG.mod.size)
              clear hdat hrok hres hbg hhv hbm hhm hG hgot hout0 hen hrel
              by_cases hcr : cr = off
              all_goals as_aux_lemma =>
                have HCR := Lib.hid hcr
                go_wp2_with fail
                refine region_mid 25 (by kernel_rfl) (by kernel_rfl) ?_
                simp only [List.take_succ_cons, List.take_zero, List.drop_succ_cons, List.drop_zero]
                repeat (go_big_quiet_step (fail))
                refine wpQuiet_nil ?_
                intro _ hw'
                obtain ⟨nk, hw''⟩ := hw'
                subst hw''
                go_wp2_with fail
                refine (HCALL.out nk _ (by first | exact (HROW.out.piece0 he1 he2 HCR.out).later ((Mod.refl NoB W0).drewN nk) HSZ0.out | exact (HROW.out.pieceN he1 he2 HCR.out).later ((Mod.refl NoB W0).drewN nk) HSZ0.out)).mono ?_
                rintro e w4 ⟨rfl, hL4, hM4⟩
                go_wp2_with fail
                refine only_of ?_
                repeat (go_big_quiet_step (fail))
                refine wpQuiet_nil ?_
                clear hcr
                have HG4 := Lib.hid (HGOT.out.mod hM4 (fun e => e rfl))
                rcases HRES.out with ⟨ho, rfl, hon⟩ | ⟨ho, hdf, rfl, hon⟩
                · have HOUT1 := Lib.hid (ho.trans HOUT0.out)
                  have HPN := Lib.hid (lawPollNoG hL4 HOUT1.out)
                  have HON := Lib.hid hon
                  clear hL4 hM4 ho hon HCALL
                  go_wp2_with fail
                  refine HPN.out.mono ?_
                  rintro e w5 ⟨rfl, hL5, hM5⟩
                  have HL5' := Lib.hid hL5
                  have HM5 := Lib.hid hM5
                  have hsz5 := Lib.hid (show gb < w5.heap.size from hL5.lt)
                  clear hL5 hM5 HPN
                  go_wp2_with fail
                  go_roundw
                  case rel =>
                    exact ⟨i + 1, _, _, rfl, by omega, Lib.hid ⟨HON.out, HOUT1.out, HSN.out, HL5'.out.later ((Mod.refl NoB w5).alloc _), (HG4.out.mod HM5.out (fun e => e rfl)).old _⟩⟩
                  case measure => simp [intOf]; omega
                · have HP := Lib.hid (lawPollG hL4 2 ((kk + 1 : Nat) : Int) t [] (by rw [ho, HOUT0.out]; rfl) (by rw [ho, HOUT0.out]; simp))
                  have HDF := Lib.hid hdf
                  have HON := Lib.hid hon
                  clear hL4 hM4 ho hon hdf HCALL
                  rw [HLT.out] at HP
                  go_wp2_with fail
                  refine HP.out.mono ?_
                  rintro e w5 ⟨A5, c5, rfl, ho5, hL5, hM5⟩
                  have HL5' := Lib.hid hL5
                  have HG5 := Lib.hid ((HG4.out.mod hM5 (fun e => e rfl)))
                  have HO5 := Lib.hid ho5
                  clear hL5 hM5 HP ho5
                  go_wp2_with fail
                  have mw5 : Mod NoB w5 (w5.alloc (.cells #[.int .i64 2, .int .u64 ((kk : Int) + 1), .slice A5 l c5] 33)) := (Mod.refl NoB w5).alloc _
                  have hB5 := Blk.new w5 33 #[.int .i64 2, .int .u64 ((kk : Int) + 1), .slice A5 l c5]
                  generalize w5.alloc (.cells #[.int .i64 2, .int .u64 ((kk : Int) + 1), .slice A5 l c5] 33) = W5 at *
                  have HLW := Lib.hid (HL5'.out.later mw5)
                  have HGW := Lib.hid (HG5.out.mod mw5 (fun e => e))
                  have hd0 : W5.cell? ⟨w5.heap.size, 0, none⟩ = some (.int .i64 2) := by rw [hB5.cell]; rfl
                  have hd1 : W5.cell? ⟨w5.heap.size, 1, none⟩ = some (.int .u64 ((kk : Int) + 1)) := by rw [hB5.cell]; rfl
                  have hd2 : W5.cell? ⟨w5.heap.size, 2, none⟩ = some (.slice A5 l c5) := by rw [hB5.cell]; rfl
                  have hcT : W5.cell? ⟨g, off0 + kk, none⟩ = some (.slice Ar l cr) := HC0.out W5 HLW.out.mod
                  have hcv1 : ∀ n : Nat, (convert 30 9 (.slice A5 l c5)).run Try.prog (W5.drewN n) = .ok (.string (strOfNums t)) (W5.drewN n) := fun n =>
                    run_string_has Try.underlying30 Try.underlying5 Try.underlying9 (HO5.out.mod (mw5.drewN n) (fun _ _ e => e)).has
                  have hcv2 : ∀ n : Nat, (convert 30 9 (.slice Ar l cr)).run Try.prog (W5.drewN n) = .ok (.string (strOfNums t)) (W5.drewN n) := fun n =>
                    run_string_has Try.underlying30 Try.underlying5 Try.underlying9 (HR0.out (W5.drewN n) (HLW.out.mod.drewN n))
                  generalize strOfNums t = sT at *
                  have hss : (sT.toList == sT.toList) = true := beq_self_eq_true _
                  have hl1 : ¬ ((kk : Int) + 1 < 1) := by omega
                  have hl1' : decide ((kk : Int) + 1 < 1) = false := decide_eq_false hl1
                  have hl2 : ¬ ((k : Int) < (kk : Int) + 1) := by omega
                  have hl2' : decide ((k : Int) < (kk : Int) + 1) = false := decide_eq_false hl2
                  have hw9 : IntKind.u64.wrap ((kk : Int) + 1 - 1) = (kk : Int) := by rw [IntKind.wrap_u64]; omega
                  have hw10 : IntKind.u64.wrap (k : Int) = (k : Int) := by rw [IntKind.wrap_u64]; omega
                  clear hB5
                  go_quiet (fail)
                  have HM6 := Lib.hid ((Mod.refl NoB W5).drewN nq)
                  clear hcv1 hcv2
                  have hd1' : (W5.drewN nq).cell? ⟨w5.heap.size, 1, none⟩ = some (.int .u64 ((kk : Int) + 1)) := hd1
                  clear hd0 hd1 hd2 hcT
                  generalize W5.drewN nq = W6 at *
                  have hG6 := HGW.out.mod HM6.out (fun e => e)
                  have hg1 : W6.cell? ⟨gb, kk, none⟩ = some (.int .i64 0) := by rw [hG6.cell, gotCells_get (by omega), gotV, HDF.out]; rfl
                  have hg2 := hG6.free kk
                  have HG6 := Lib.hid hG6
                  have HLW6 := Lib.hid (HLW.out.later HM6.out)
                  clear hG6
                  go_wp2_with fail
                  go_roundw
                  case rel =>
                    exact ⟨i + 1, _, _, rfl, by omega, Lib.hid ⟨HON.out, rfl, HSN.out, HLW6.out.keep ((Mod.refl (· = gb) W6).set1 kk _) (fun _ e => e) HGB.out, by
                      have h := HG6.out.set kk (.int .i64 1)
                      rw [gotCells_set (by omega)] at h
                      exact h⟩⟩
                  case measure => simp [intOf]; omega
            · have hiNz : ¬ (i : Int) < (N : Int) := by omega
              have hiNd : decide ((i : Int) < (N : Int)) = false := decide_eq_false hiNz
              obtain ⟨j, hj⟩ : ∃ j, i - N = j := ⟨_, rfl⟩
              have hij : (i : Int) - (N : Int) = (j : Int) := by omega
              have hwj : IntKind.i64.wrap (j : Int) = (j : Int) := by rw [IntKind.wrap_i64]; omega
              have hwj' : IntKind.i64.wrap ((i : Int) - (N : Int)) = (j : Int) := by rw [hij]; exact hwj
              obtain ⟨kk, hkk⟩ : ∃ kk, j % k = kk := ⟨_, rfl⟩
              obtain ⟨q, hq⟩ : ∃ q, j / k = q := ⟨_, rfl⟩
              have hkkb : kk < k := by rw [← hkk]; exact Nat.mod_lt _ hk0
              have hq6 : q ≤ 600 := by have := Nat.div_le_self j k; omega
              obtain ⟨off, hoff⟩ : ∃ off, S * q = off := ⟨_, rfl⟩
              have hoffb : off ≤ 300000 := by rw [← hoff]; exact Nat.le_trans (Nat.mul_le_mul b8 hq6) (by decide)
              have hm1 : (j : Int) % (k : Int) = (kk : Int) := by rw [← hkk]; exact (Int.natCast_emod j k).symm
              have hm2 : (j : Int).tmod (k : Int) = (kk : Int) := by rw [Int.tmod_eq_emod_of_nonneg (by omega)]; exact hm1
              have hd1 : (j : Int) / (k : Int) = (q : Int) := by rw [← hq]; exact (Int.natCast_ediv j k).symm
              have hd2 : (j : Int).tdiv (k : Int) = (q : Int) := by rw [Int.tdiv_eq_ediv_of_nonneg (by omega)]; exact hd1
              have hwk : IntKind.i64.wrap (kk : Int) = (kk : Int) := by rw [IntKind.wrap_i64]; omega
              have hwq : IntKind.i64.wrap (q : Int) = (q : Int) := by rw [IntKind.wrap_i64]; omega
              have hw5 : (S : Int) * (q : Int) = (off : Int) := by rw [← hoff]; exact (Int.natCast_mul S q).symm
              have hw6 : IntKind.i64.wrap (off : Int) = (off : Int) := by rw [IntKind.wrap_i64]; omega
              have bk10 : ((k : Int) == 0) = false := by rw [beq_eq_false_iff_ne]; omega
              have bk11 : ((k : Int) == -1) = false := by rw [beq_eq_false_iff_ne]; omega
              have bk12 : ¬ (k : Int) = 0 := by omega
              have bk13 : ¬ k = 0 := by omega
              have HNEW := Lib.hid (show N ≤ i → kk = (i - N) % k ∧ off = S * ((i - N) / k) from fun _ => ⟨by rw [hj, hkk], by rw [hj, hq, hoff]⟩)
              have hkx : kk < T.length := by rw [HM.out]; exact hkkb
              have ht? := List.getElem?_eq_getElem hkx
              obtain ⟨g, off0, Ar, cr, rfl, hg, hc, hrow⟩ := HTR.out.at_ ht?
              have htl5 := HL5.out _ (List.getElem_mem hkx)
              have HC0 := Lib.hid (fun (W : World) (hW : Mod NoB w W) => ((hW.cell (p := ⟨g, off0 + kk, none⟩) hg (fun e => e)).trans (hrel.out.2.2.2.1.mod.cell (p := ⟨g, off0 + kk, none⟩) hg (fun e => e)).symm).trans hc)
              have HR0 := Lib.hid (fun (W : World) (hW : Mod NoB w W) => hrow.keep (w' := W) (fun p hp => (hW.cell hp (fun e => e)).trans (hrel.out.2.2.2.1.mod.cell hp (fun e => e)).symm))
              have HTK := Lib.hid ht?
              have HTBK := Lib.hid (HTB.out _ (List.getElem_mem hkx))
              generalize T[kk]'hkx = t at *
              obtain ⟨l, hl⟩ : ∃ l, t.length = l := ⟨_, rfl⟩
              rw [hl] at hc hrow htl5 HC0 HR0
              have HLT := Lib.hid hl
              have hkz1 : (0 : Int) ≤ (kk : Int) := by omega
              have hkz2 : (kk : Int) < (k : Int) := by omega
              clear hkk hq hoff hl ht? hkx hj
              go_upto_region 21 with fail
              clear hij hwj hwj' hm1 hm2 hd1 hd2 hwk hwq hw5
              by_cases hofl : off ≤ l
              · generalize hW0 : wr = W0
                have HW0 := Lib.hid (show Mod NoB wr W0 by rw [← hW0]; exact Mod.refl _ _)
                clear hW0 hkz1 hkz2
                have hgw : g < wr.heap.size := Nat.lt_of_lt_of_le hg hrel.out.2.2.2.1.mod.size
                have hcW : W0.cell? ⟨g, off0 + kk, none⟩ = some (.slice Ar l cr) := (HW0.out.cell (p := ⟨g, off0 + kk, none⟩) hgw (fun e => e)).trans hc
                have HROW := Lib.hid (hrow.later HW0.out hrel.out.2.2.2.1.mod.size)
                have hlc := hrow.form
                have hkz1 : (0 : Int) ≤ (kk : Int) := by omega
                have hkz2 : (kk : Int) < (k : Int) := by omega
                have hofz : ¬ (l : Int) < (off : Int) := by omega
                have hw7 : IntKind.u64.wrap (kk : Int) = (kk : Int) := by rw [IntKind.wrap_u64]; omega
                have hw8 : IntKind.u64.wrap ((kk : Int) + 1) = (kk : Int) + 1 := by rw [IntKind.wrap_u64]; omega
                have hlcr : l ≤ cr := by
                  obtain ⟨A', c', e', h'⟩ := hlc
                  injection e' with e1 e2 e3
                  omega
                clear hc hrow hlc
                obtain ⟨en, hen⟩ : ∃ en, min (off + S) l = en := ⟨_, rfl⟩
                have hmin : min ((off : Int) + (S : Int)) (l : Int) = (en : Int) := by omega
                have he1 : off ≤ en := by omega
                have he2 : en ≤ l := by omega
                have he3 : (off : Int) ≤ (en : Int) := by omega
                have he4 : (en : Int) ≤ (cr : Int) := by omega
                have he5 : (0 : Int) ≤ (off : Int) := by omega
                obtain ⟨R', fr, db, dn', hdat, hrok, hres, hbg, hhv, hbm, hhm⟩ := hrel.out.1.step (by rw [HM.out]; exact b6) (k := kk) (t := t) HTK.out HTBK.out (by rw [HLT.out]; exact htl5) (off := off) (c := en - off) (by rw [HLT.out]; omega)
                have hG := hrel.out.2.2.2.1.later HW0.out
                have hgot := hrel.out.2.2.2.2.mod HW0.out (fun e => e)
                have hout0 := hrel.out.2.1
                have HCALL := Lib.hid (fun (nk : Nat) (V : Value) (hV : Has (W0.drewN nk) w.heap.size 1 encB V ((t.drop off).take (en - off))) => (show Calls Try.prog 9 #[.pointer (some ⟨rb, 0, none⟩), .int .i64 2, .int .u64 ((kk : Int) + 1), .int .i64 l, .int .i64 off, V] (W0.drewN nk) fun e w' => e = .returned (.tuple #[.int .i64 fr, .bool db, .int .i64 0]) ∧ LawG gb rb R' w w' ∧ Mod (fun z => z ≠ gb) W0 w' from by
                  have hsz : w.heap.size ≤ (W0.drewN nk).heap.size := hG.mod.size
                  have h1 := lawDataG (hG.later ((Mod.refl NoB W0).drewN nk)) hrel.out.1.ok 2 (by omega) ((kk + 1 : Nat) : Int) (by omega) (by omega) t.length off ((t.drop off).take (en - off)) V (hV.more hsz) (by simp; rw [HLT.out]; omega) (by rw [HLT.out]; omega) (fun h0 z hz e => by
                    have := hV.block h0 hz
                    omega) ((HTBK.out.drop _).take _) (by rw [hout0]; simp)
                  rw [hdat, HLT.out] at h1
                  refine h1.mono ?_
                  rintro e w' ⟨rfl, h2, h3⟩
                  exact ⟨rfl, h2, ((Mod.refl (fun z => z ≠ gb) W0).drewN nk).trans h3 (fun _ _ e => e)⟩))
                have HRES := Lib.hid hres
                have HBG := Lib.hid hbg
                have HHV := Lib.hid hhv
                have HBM := Lib.hid hbm
                have HHM := Lib.hid hhm
                have HGOT := Lib.hid hgot
                have HOUT0 := Lib.hid hout0
                have HSW := Lib.hid hrel.out.2.2.1
                have HEN := Lib.hid hen
                have HSN := Lib.hid (show SweptI T S N (i + 1) R' from hrel.out.2.2.1.next hbm hhm (fun k' t' hk' hNi hkk' hle => by
                  rw [HM.out] at hkk' hle ⊢
                  obtain ⟨e1, e2⟩ := HNEW.out hNi
                  have ek : k' = kk := by omega
                  subst ek
                  have et : t' = t := by have := HTK.out; rw [this] at hk'; exact (Option.some.inj hk').symm
                  subst et
                  refine ⟨hbg, fun x h1 h2 h3 => hhv x (by omega) ?_⟩
                  rw [HLT.out] at h3
                  omega))
                have HSZ0 := Lib.hid (show w.heap.size ≤ W0.heap.size from hG.mod.size)
                clear hdat hrok hres hbg hhv hbm hhm hG hgot hout0 hen hrel
                by_cases hcr : cr = off
                all_goals as_aux_lemma =>
                  have HCR := Lib.hid hcr
                  go_wp2_with fail
                  refine region_mid 25 (by kernel_rfl) (by kernel_rfl) ?_
                  simp only [List.take_succ_cons, List.take_zero, List.drop_succ_cons, List.drop_zero]
                  repeat (go_big_quiet_step (fail))
                  refine wpQuiet_nil ?_
                  intro _ hw'
                  obtain ⟨nk, hw''⟩ := hw'
                  subst hw''
                  go_wp2_with fail
                  refine (HCALL.out nk _ (by first | exact (HROW.out.piece0 he1 he2 HCR.out).later ((Mod.refl NoB W0).drewN nk) HSZ0.out | exact (HROW.out.pieceN he1 he2 HCR.out).later ((Mod.refl NoB W0).drewN nk) HSZ0.out)).mono ?_
                  rintro e w4 ⟨rfl, hL4, hM4⟩
                  go_wp2_with fail
                  refine only_of ?_
                  repeat (go_big_quiet_step (fail))
                  refine wpQuiet_nil ?_
                  clear hcr
                  have HG4 := Lib.hid (HGOT.out.mod hM4 (fun e => e rfl))
                  rcases HRES.out with ⟨ho, rfl, hon⟩ | ⟨ho, hdf, rfl, hon⟩
                  · have HOUT1 := Lib.hid (ho.trans HOUT0.out)
                    have HPN := Lib.hid (lawPollNoG hL4 HOUT1.out)
                    have HON := Lib.hid hon
                    clear hL4 hM4 ho hon HCALL
                    go_wp2_with fail
                    refine HPN.out.mono ?_
                    rintro e w5 ⟨rfl, hL5, hM5⟩
                    have HL5' := Lib.hid hL5
                    have HM5 := Lib.hid hM5
                    have hsz5 := Lib.hid (show gb < w5.heap.size from hL5.lt)
                    clear hL5 hM5 HPN
                    go_wp2_with fail
                    go_roundw
                    case rel =>
                      exact ⟨i + 1, _, _, rfl, by omega, Lib.hid ⟨HON.out, HOUT1.out, HSN.out, HL5'.out.later ((Mod.refl NoB w5).alloc _), (HG4.out.mod HM5.out (fun e => e rfl)).old _⟩⟩
                    case measure => simp [intOf]; omega
                  · have HP := Lib.hid (lawPollG hL4 2 ((kk + 1 : Nat) : Int) t [] (by rw [ho, HOUT0.out]; rfl) (by rw [ho, HOUT0.out]; simp))
                    have HDF := Lib.hid hdf
                    have HON := Lib.hid hon
                    clear hL4 hM4 ho hon hdf HCALL
                    rw [HLT.out] at HP
                    go_wp2_with fail
                    refine HP.out.mono ?_
                    rintro e w5 ⟨A5, c5, rfl, ho5, hL5, hM5⟩
                    have HL5' := Lib.hid hL5
                    have HG5 := Lib.hid ((HG4.out.mod hM5 (fun e => e rfl)))
                    have HO5 := Lib.hid ho5
                    clear hL5 hM5 HP ho5
                    go_wp2_with fail
                    have mw5 : Mod NoB w5 (w5.alloc (.cells #[.int .i64 2, .int .u64 ((kk : Int) + 1), .slice A5 l c5] 33)) := (Mod.refl NoB w5).alloc _
                    have hB5 := Blk.new w5 33 #[.int .i64 2, .int .u64 ((kk : Int) + 1), .slice A5 l c5]
                    generalize w5.alloc (.cells #[.int .i64 2, .int .u64 ((kk : Int) + 1), .slice A5 l c5] 33) = W5 at *
                    have HLW := Lib.hid (HL5'.out.later mw5)
                    have HGW := Lib.hid (HG5.out.mod mw5 (fun e => e))
                    have hd0 : W5.cell? ⟨w5.heap.size, 0, none⟩ = some (.int .i64 2) := by rw [hB5.cell]; rfl
                    have hd1 : W5.cell? ⟨w5.heap.size, 1, none⟩ = some (.int .u64 ((kk : Int) + 1)) := by rw [hB5.cell]; rfl
                    have hd2 : W5.cell? ⟨w5.heap.size, 2, none⟩ = some (.slice A5 l c5) := by rw [hB5.cell]; rfl
                    have hcT : W5.cell? ⟨g, off0 + kk, none⟩ = some (.slice Ar l cr) := HC0.out W5 HLW.out.mod
                    have hcv1 : ∀ n : Nat, (convert 30 9 (.slice A5 l c5)).run Try.prog (W5.drewN n) = .ok (.string (strOfNums t)) (W5.drewN n) := fun n =>
                      run_string_has Try.underlying30 Try.underlying5 Try.underlying9 (HO5.out.mod (mw5.drewN n) (fun _ _ e => e)).has
                    have hcv2 : ∀ n : Nat, (convert 30 9 (.slice Ar l cr)).run Try.prog (W5.drewN n) = .ok (.string (strOfNums t)) (W5.drewN n) := fun n =>
                      run_string_has Try.underlying30 Try.underlying5 Try.underlying9 (HR0.out (W5.drewN n) (HLW.out.mod.drewN n))
                    generalize strOfNums t = sT at *
                    have hss : (sT.toList == sT.toList) = true := beq_self_eq_true _
                    have hl1 : ¬ ((kk : Int) + 1 < 1) := by omega
                    have hl1' : decide ((kk : Int) + 1 < 1) = false := decide_eq_false hl1
                    have hl2 : ¬ ((k : Int) < (kk : Int) + 1) := by omega
                    have hl2' : decide ((k : Int) < (kk : Int) + 1) = false := decide_eq_false hl2
                    have hw9 : IntKind.u64.wrap ((kk : Int) + 1 - 1) = (kk : Int) := by rw [IntKind.wrap_u64]; omega
                    have hw10 : IntKind.u64.wrap (k : Int) = (k : Int) := by rw [IntKind.wrap_u64]; omega
                    clear hB5
                    go_quiet (fail)
                    have HM6 := Lib.hid ((Mod.refl NoB W5).drewN nq)
                    clear hcv1 hcv2
                    have hd1' : (W5.drewN nq).cell? ⟨w5.heap.size, 1, none⟩ = some (.int .u64 ((kk : Int) + 1)) := hd1
                    clear hd0 hd1 hd2 hcT
                    generalize W5.drewN nq = W6 at *
                    have hG6 := HGW.out.mod HM6.out (fun e => e)
                    have hg1 : W6.cell? ⟨gb, kk, none⟩ = some (.int .i64 0) := by rw [hG6.cell, gotCells_get (by omega), gotV, HDF.out]; rfl
                    have hg2 := hG6.free kk
                    have HG6 := Lib.hid hG6
                    have HLW6 := Lib.hid (HLW.out.later HM6.out)
                    clear hG6
                    go_wp2_with fail
                    go_roundw
                    case rel =>
                      exact ⟨i + 1, _, _, rfl, by omega, Lib.hid ⟨HON.out, rfl, HSN.out, HLW6.out.keep ((Mod.refl (· = gb) W6).set1 kk _) (fun _ e => e) HGB.out, by
                        have h := HG6.out.set kk (.int .i64 1)
                        rw [gotCells_set (by omega)] at h
                        exact h⟩⟩
                    case measure => simp [intOf]; omega
              · have hofz : (l : Int) < (off : Int) := by omega
                have HSN := Lib.hid (show SweptI T S N (i + 1) R from hrel.out.2.2.1.next (fun _ h => h) (fun _ _ h => h) (fun k' t' hk' hNi hkk' hle => by
                  exfalso
                  rw [HM.out] at hkk' hle
                  obtain ⟨e1, e2⟩ := HNEW.out hNi
                  have ek : k' = kk := by omega
                  subst ek
                  have et : t' = t := by have := HTK.out; rw [this] at hk'; exact (Option.some.inj hk').symm
                  subst et
                  rw [HLT.out] at hle
                  omega))
                clear hrow
                go_wp2_with fail
                go_roundw
                case rel => exact ⟨i + 1, R, dn, rfl, by omega, Lib.hid ⟨hrel.out.1, hrel.out.2.1, HSN.out, hrel.out.2.2.2.1, hrel.out.2.2.2.2⟩⟩
                case measure => simp [intOf]; omega
          · have HA := Lib.hid (show ∀ (j : Nat) (t : List Int), T[j]? = some t → t.length / S < 600 / k → dn j = true from fun j t hj hlt => by
              have hjT := (List.getElem?_eq_some_iff.1 hj).1
              rw [HM.out] at hjT
              have hi6 : i = N + 600 := by omega
              have hsw := hrel.out.2.2.1
              rw [hi6] at hsw
              exact hsw.all hrel.out.1 b7 hj (by rw [HM.out]; exact hlt))
            have HON := Lib.hid hrel.out.1
            have HOUT := Lib.hid hrel.out.2.1
            have HLW := Lib.hid hrel.out.2.2.2.1
            have HGW := Lib.hid hrel.out.2.2.2.2
            have hx1 : ¬ (i : Int) < (N : Int) + 600 := by omega
            clear hgo hrel
            have hx1d : decide ((i : Int) < (N : Int) + 600) = false := decide_eq_false hx1
            as_aux_lemma =>
              go_wp2_with fail
              clear hx1 hx1d
              go_loopw [22] (fun q wx => ∃ j : Nat, q = .int .i64 j ∧ j ≤ k ∧ Hid (Mod NoB wr wx)) (fun q _ => k - (intOf q).toNat)
              case atStart => exact ⟨0, rfl, Nat.zero_le _, Lib.hid (Mod.refl _ _)⟩
              case round =>
                obtain ⟨j, rfl, hj, hwx⟩ := hrel
                by_cases hjk : j < k
                · have hjz : (j : Int) < (k : Int) := by omega
                  have hjz0 : (0 : Int) ≤ (j : Int) := by omega
                  have hjd : decide ((j : Int) < (k : Int)) = true := decide_eq_true hjz
                  have hkx : j < T.length := by rw [HM.out]; exact hjk
                  have ht? := List.getElem?_eq_getElem hkx
                  obtain ⟨g, off0, Ar, cr, rfl, hg, hc, hrow⟩ := (HT.out.later (HLW.out.mod.trans hwx.out (fun _ _ e => e)) (Nat.le_refl _)).at_ ht?
                  have htl5 := HL5.out _ (List.getElem_mem hkx)
                  have HTK := Lib.hid ht?
                  generalize T[j]'hkx = t at *
                  obtain ⟨l, hl⟩ : ∃ l, t.length = l := ⟨_, rfl⟩
                  rw [hl] at hc hrow htl5
                  have HLT := Lib.hid hl
                  obtain ⟨P, hP⟩ : ∃ P, l / S = P := ⟨_, rfl⟩
                  obtain ⟨D, hD⟩ : ∃ D, 600 / k = D := ⟨_, rfl⟩
                  have hPb : P ≤ 500 := by have := Nat.div_le_self l S; omega
                  have hDb : D ≤ 600 := by have := Nat.div_le_self 600 k; omega
                  have hq1 : (l : Int) / (S : Int) = (P : Int) := by rw [← hP]; exact (Int.natCast_ediv l S).symm
                  have hq2 : (l : Int).tdiv (S : Int) = (P : Int) := by rw [Int.tdiv_eq_ediv_of_nonneg (by omega)]; exact hq1
                  have hq3 : (600 : Int) / (k : Int) = (D : Int) := by rw [← hD]; exact (Int.natCast_ediv 600 k).symm
                  have hq4 : (600 : Int).tdiv (k : Int) = (D : Int) := by rw [Int.tdiv_eq_ediv_of_nonneg (by omega)]; exact hq3
                  have hwP : IntKind.i64.wrap (P : Int) = (P : Int) := by rw [IntKind.wrap_i64]; omega
                  have hwD : IntKind.i64.wrap (D : Int) = (D : Int) := by rw [IntKind.wrap_i64]; omega
                  have bk10 : ((k : Int) == 0) = false := by rw [beq_eq_false_iff_ne]; omega
                  have bk11 : ((k : Int) == -1) = false := by rw [beq_eq_false_iff_ne]; omega
                  have bk12 : ¬ (k : Int) = 0 := by omega
                  have bk13 : ¬ k = 0 := by omega
                  have hgx := HGW.out.mod hwx.out (fun e => e)
                  have hg2 := hgx.free j
                  by_cases hdn : dn j = true
                  · have hg1 : wr.cell? ⟨gb, j, none⟩ = some (.int .i64 1) := by rw [hgx.cell, gotCells_get hjk, gotV, hdn]; rfl
                    clear hgx hrow ht? hl hP hD
                    go_wp2_with fail
                    go_quiet (fail)
                    go_wp2_with fail
                    go_roundw
                    case rel => exact ⟨j + 1, rfl, by omega, Lib.hid (hwx.out.drewN nq)⟩
                    case measure => simp [intOf]; omega
                  · have hdn' : dn j = false := by simpa using hdn
                    have hg1 : wr.cell? ⟨gb, j, none⟩ = some (.int .i64 0) := by rw [hgx.cell, gotCells_get hjk, gotV, hdn']; rfl
                    have hPD : ¬ (P : Int) < (D : Int) := by
                      intro hlt
                      exact hdn (HA.out j t HTK.out (by rw [HLT.out, hP, hD]; omega))
                    have hPDd : decide ((P : Int) < (D : Int)) = false := decide_eq_false hPD
                    clear hgx hrow ht? hl hP hD hdn
                    go_wp2_with fail
                    go_quiet (fail)
                    go_wp2_with fail
                    go_roundw
                    case rel => exact ⟨j + 1, rfl, by omega, Lib.hid (hwx.out.drewN nq)⟩
                    case measure => simp [intOf]; omega
                · have hjz : ¬ (j : Int) < (k : Int) := by omega
                  have hjd : decide ((j : Int) < (k : Int)) = false := decide_eq_false hjz
                  have HLX := Lib.hid (HLW.out.later hwx.out)
                  have HGX := Lib.hid (HGW.out.mod hwx.out (fun e => e))
                  obtain ⟨ks, hks⟩ := HON.out.ok.keys
                  have HRET := Lib.hid (lawRetireG HLX.out HON.out.ok 2 (by omega) below hb0 ks hks)
                  have HLAST := Lib.hid (HON.out.last HOUT.out (fun j t hj h0 => HA.out j t hj (by
                    have := (List.getElem?_eq_some_iff.1 hj).1
                    rw [HM.out] at this
                    rw [h0, Nat.zero_div]
                    exact Nat.div_pos (by omega) (by omega))) below hb0 hks)
                  generalize R.retire 2 below (ks.countP (goneK 2 below)) = R3 at *
                  clear hks hwx HLX HLW HGW HON HOUT HA
                  go_wp2_with fail
                  refine HRET.out.mono ?_
                  rintro e w3 ⟨⟨n3, rfl⟩, h3, m3⟩
                  have HI := Lib.hid (show LastI T R3 dn ∧ LawG gb rb R3 w w3 ∧ Blk w3 gb 3 (gotCells k dn) from ⟨HLAST.out, h3, HGX.out.mod m3 (fun e => e rfl)⟩)
                  clear h3 m3 HRET HLAST HGX
                  go_wp2_with fail
                  go_loopw [23] (fun q wx => ∃ (j : Nat) (R : RecA), q = .int .i64 j ∧ j ≤ k ∧ Hid (LastI T R dn ∧ LawG gb rb R w wx ∧ Blk wx gb 3 (gotCells k dn))) (fun q _ => k - (intOf q).toNat)
                  case atStart => exact ⟨0, _, rfl, Nat.zero_le _, HI⟩
                  case round =>
                    clear HI
                    obtain ⟨j, R4, rfl, hj, hrel⟩ := hrel
                    by_cases hjk : j < k
                    · have hjz : (j : Int) < (k : Int) := by omega
                      have hjz0 : (0 : Int) ≤ (j : Int) := by omega
                      have hjd : decide ((j : Int) < (k : Int)) = true := decide_eq_true hjz
                      have hkx : j < T.length := by rw [HM.out]; exact hjk
                      have ht? := List.getElem?_eq_getElem hkx
                      obtain ⟨g, off0, Ar, cr, rfl, hg, hc, hrow⟩ := (HT.out.later hrel.out.2.1.mod (Nat.le_refl _)).at_ ht?
                      have htl5 := HL5.out _ (List.getElem_mem hkx)
                      have HTK := Lib.hid ht?
                      generalize T[j]'hkx = t at *
                      obtain ⟨l, hl⟩ : ∃ l, t.length = l := ⟨_, rfl⟩
                      rw [hl] at hc hrow htl5
                      have HLT := Lib.hid hl
                      obtain ⟨R5, fr, db, e5, hdat, hde, hl5⟩ := hrel.out.1.step (by rw [HM.out]; exact b6) (k := j) (t := t) HTK.out (by rw [HLT.out]; exact htl5)
                      have hcall := lawDataG hrel.out.2.1 hrel.out.1.ok 2 (by omega) ((j + 1 : Nat) : Int) (by omega) (by omega) t.length 0 [] (.slice none 0 0) Has.nil (by simp) (by rw [HLT.out]; omega) (fun h => absurd h (by simp)) (fun x hx => by cases hx) (by rw [hrel.out.1.out]; simp)
                      rw [hdat, HLT.out] at hcall
                      dsimp only at hcall
                      have HC := Lib.hid (show Calls Try.prog 9 #[.pointer (some ⟨rb, 0, none⟩), .int .i64 2, .int .u64 ((j : Int) + 1), .int .i64 l, .int .i64 0, .slice none 0 0] wr fun e w' => e = .returned (.tuple #[.int .i64 fr, .bool db, .int .i64 e5]) ∧ LawG gb rb R5 w w' ∧ Mod (fun k => k ≠ gb) wr w' from hcall)
                      have hw7 : IntKind.u64.wrap (j : Int) = (j : Int) := by rw [IntKind.wrap_u64]; omega
                      have hw8 : IntKind.u64.wrap ((j : Int) + 1) = (j : Int) + 1 := by rw [IntKind.wrap_u64]; omega
                      have HL5' := Lib.hid hl5
                      have HDE := Lib.hid hde
                      have HGX := Lib.hid hrel.out.2.2
                      clear hcall hdat hde hl5 hrow ht? hl hrel
                      go_wp2_with fail
                      refine HC.out.mono ?_
                      rintro e w4 ⟨rfl, h4, m4⟩
                      have hG4 := HGX.out.mod m4 (fun e => e rfl)
                      have H4 := Lib.hid h4
                      have HG4 := Lib.hid hG4
                      have hg2 := hG4.free j
                      by_cases hdn : dn j = true
                      · obtain ⟨rfl, rfl⟩ := HDE.out hdn
                        have hg1 : w4.cell? ⟨gb, j, none⟩ = some (.int .i64 1) := by rw [hG4.cell, gotCells_get hjk, gotV, hdn]; rfl
                        clear h4 m4 hG4 hc
                        go_wp2_with fail
                        go_roundw
                        case rel => exact ⟨j + 1, R5, rfl, by omega, Lib.hid ⟨HL5'.out, H4.out, HG4.out⟩⟩
                        case measure => simp [intOf]; omega
                      · have hdn' : dn j = false := by simpa using hdn
                        have hg1 : w4.cell? ⟨gb, j, none⟩ = some (.int .i64 0) := by rw [hG4.cell, gotCells_get hjk, gotV, hdn']; rfl
                        clear h4 m4 hG4 hdn hc
                        go_wp2_with fail
                        go_roundw
                        case rel => exact ⟨j + 1, R5, rfl, by omega, Lib.hid ⟨HL5'.out, H4.out, HG4.out⟩⟩
                        case measure => simp [intOf]; omega
                    · have hjz : ¬ (j : Int) < (k : Int) := by omega
                      have hjd : decide ((j : Int) < (k : Int)) = false := decide_eq_false hjz
                      have HPN := Lib.hid (lawPollNoG hrel.out.2.1 hrel.out.1.out)
                      clear hrel
                      go_wp2_with fail
                      refine HPN.out.mono ?_
                      rintro e w5 ⟨rfl, h5, m5⟩
                      have H5 := Lib.hid h5
                      clear h5 m5
                      go_wp2_with fail
                      refine (awakeW _).mono ?_
                      rintro e w6 ⟨rfl, m6⟩
                      have HM6 := Lib.hid ((H5.out.mod.alloc _).trans m6 (fun _ _ e => e))
                      clear m6
                      go_wp2_with fail
                      go_ret
                      exact ⟨rfl, HM6.out.below⟩
end Go.Proofs.Ytddnlbkocmpffaa
