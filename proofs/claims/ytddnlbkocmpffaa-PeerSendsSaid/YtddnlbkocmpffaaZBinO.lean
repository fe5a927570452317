/- Senders.find: slices.BinarySearchFunc at messages that are sent, by id, in a row that rises. -/
import Derived.Test.YtddnlbkocmpffaaZSndW
import Derived.Test.YtddnlbkocmpffaaZBinU
import Derived.Test.YtddnlbkocmpffaaZCmpW
namespace Go.Proofs.Ytddnlbkocmpffaa
open Go.RowKit
set_option linter.unusedVariables false
set_option maxHeartbeats 4000000
set_option maxRecDepth 100000
theorem findF (o : OutV) (t : Int) (w : World) : Calls Try.prog 71 #[.agg #[.int .u64 o.id, .int .i64 o.dst, o.dv, .int .i64 o.st, .bool false], .int .u64 t] w fun e w' => e = .returned (.int .i64 (cmpZ o.id t)) ∧ Mod NoB w w' := by
  obtain ⟨id, dst, dv, st, one⟩ := o
  dsimp only
  go_enter Try.func71, Try.ntmps71
  have HM := Lib.hid ((Mod.refl NoB w).alloc (.cells (Value.cells (.agg #[.int .u64 id, .int .i64 dst, dv, .int .i64 st, .bool false])) 56))
  go_wp2_with fail
  refine (compareU id t _).mono ?_
  rintro e w2 ⟨rfl, rfl⟩
  go_wp2_with fail
  go_ret
  exact ⟨rfl, HM.out⟩
/-- The ids of what is sent. -/
def idsV (l : List OutV) : List Int := l.map (·.id)
theorem idsV_get {l : List OutV} {k : Nat} {o : OutV} (h : l[k]? = some o) : (idsV l)[k]? = some o.id := by unfold idsV; rw [List.getElem?_map, h]; rfl
theorem idsV_len (l : List OutV) : (idsV l).length = l.length := by simp [idsV]
theorem binO (v : Value) (l : List OutV) (t : Int) (w : World) (B : Nat) (h : Own w B 56 5 encO v l) (hs : (idsV l).Pairwise (· < ·)) (hn : l.length ≤ 1000000) :
    Calls Try.prog 70 #[v, .int .u64 t, .func (.func 71) #[] #[]] w fun e w' => e = .returned (.tuple #[.int .i64 (placeU (idsV l) t : Nat), .bool (decide (t ∈ idsV l))]) ∧ Mod NoB w w' := by
  obtain ⟨A, cap, rfl, hc, -⟩ := h.form
  have HH := Lib.hid h.has
  have HS := Lib.hid hs
  generalize hnl : l.length = n at *
  have HN := Lib.hid hnl
  have HNX := Lib.hid (show (idsV l).length = n by rw [idsV_len, hnl])
  obtain ⟨R, hR⟩ : ∃ R, placeU (idsV l) t = R := ⟨_, rfl⟩
  rw [hR]
  have HR := Lib.hid hR
  obtain ⟨D, hD⟩ : ∃ D, decide (t ∈ idsV l) = D := ⟨_, rfl⟩
  rw [hD]
  have HD := Lib.hid hD
  clear h hs hnl hR hD
  go_enter Try.func70, Try.ntmps70
  go_wp2_with fail
  go_loopw [9, 10] (fun a b wr => ∃ i j : Nat, a = .int .i64 i ∧ b = .int .i64 j ∧ i ≤ j ∧ j ≤ n ∧ Hid ((∀ z ∈ (idsV l).take i, z < t) ∧ ∀ z ∈ (idsV l).drop j, t ≤ z) ∧ Mod NoB w wr) (fun a b _ => (intOf b).toNat - (intOf a).toNat)
  case atStart => exact ⟨0, n, rfl, rfl, by omega, by omega, Lib.hid ⟨fun z h => by simp at h, fun z h => by rw [← HNX.out, List.drop_length] at h; cases h⟩, Mod.refl _ _⟩
  case round =>
    obtain ⟨i, j, rfl, rfl, hij, hjn, hrel, hm⟩ := hrel
    by_cases hlt : i < j
    · have hz : (i : Int) < (j : Int) := by omega
      obtain ⟨m, hmid⟩ : ∃ m : Nat, ((i : Int) + (j : Int)) / 2 = (m : Int) := ⟨(i + j) / 2, by omega⟩
      have hm1 : i ≤ m := by omega
      have hm2 : m < j := by omega
      have hmx : m < l.length := by rw [HN.out]; omega
      have hx? := List.getElem?_eq_getElem hmx
      obtain ⟨g, off, rfl, hg, c0⟩ := (HH.out.later hm (Nat.le_refl _)).at_ encO_len hx?
      have HX := Lib.hid (idsV_get hx?)
      generalize l[m]'hmx = o at *
      have hF := Lib.hid (fun W => findF o t W)
      have c1 := c0 0 (by omega)
      have c2 := c0 1 (by omega)
      have c3 := c0 2 (by omega)
      have c4 := c0 3 (by omega)
      have c5 := c0 4 (by omega)
      obtain ⟨id, dst, dv, st, one⟩ := o
      simp only [encO, List.getElem?_cons_zero, List.getElem?_cons_succ, ← Nat.add_assoc, Nat.add_zero] at c1 c2 c3 c4 c5
      dsimp only at HX hF
      have hmz : (m : Int) < (n : Int) := by omega
      have hmz0 : (0 : Int) ≤ (m : Int) := by omega
      have HM := Lib.hid hm
      clear hx? c0 hm hmx
      by_cases hxt : id < t
      · have hcz : cmpZ id t = -1 := by unfold cmpZ; rw [if_pos hxt]
        go_wp2_with fail
        refine (hF.out wr).mono ?_
        rintro e w5 ⟨rfl, m5⟩
        have HM5 := Lib.hid (HM.out.trans m5 (fun _ _ e => e))
        rw [hcz]
        clear m5
        go_wp2_with fail
        go_roundw
        case rel => exact ⟨m + 1, j, by go_num, rfl, by omega, hjn, Lib.hid ⟨take_lt HS.out HX.out hxt, hrel.out.2⟩, HM5.out⟩
        case measure => simp [intOf]; omega
      · obtain ⟨c, hcz, hc0⟩ : ∃ c, cmpZ id t = c ∧ ¬ c < 0 := ⟨_, rfl, by unfold cmpZ; rw [if_neg hxt]; split <;> omega⟩
        have hc0d : decide (c < 0) = false := decide_eq_false hc0
        go_wp2_with fail
        refine (hF.out wr).mono ?_
        rintro e w5 ⟨rfl, m5⟩
        have HM5 := Lib.hid (HM.out.trans m5 (fun _ _ e => e))
        rw [hcz]
        clear m5 hcz
        go_wp2_with fail
        go_roundw
        case rel => exact ⟨i, m, rfl, rfl, hm1, by omega, Lib.hid ⟨hrel.out.1, drop_ge HS.out HX.out (by omega)⟩, HM5.out⟩
        case measure => simp [intOf]; omega
    · obtain rfl : i = j := by omega
      have hz : ¬ (i : Int) < (i : Int) := by omega
      obtain ⟨h1, h2⟩ := hrel.out
      have hpl := place_of (by rw [HNX.out]; exact hjn) h1 h2
      obtain rfl : R = i := by rw [← HR.out]; exact hpl
      have HM := Lib.hid hm
      by_cases hin : R < n
      · have hinz : (R : Int) < (n : Int) := by omega
        have hinz0 : (0 : Int) ≤ (R : Int) := by omega
        have hmx : R < l.length := by rw [HN.out]; omega
        have hx? := List.getElem?_eq_getElem hmx
        obtain ⟨g, off, rfl, hg, c0⟩ := (HH.out.later hm (Nat.le_refl _)).at_ encO_len hx?
        have hmi : R < (idsV l).length := by rw [HNX.out]; omega
        have hid? := idsV_get hx?
        have hide : (idsV l)[R]'hmi = (l[R]'hmx).id := Option.some.inj ((List.getElem?_eq_getElem hmi).symm.trans hid?)
        have hxm : (idsV l)[R]'hmi ∈ (idsV l).drop R := by rw [List.drop_eq_getElem_cons hmi]; exact List.mem_cons_self ..
        have hxin := List.getElem_mem hmi
        have hiff : t ∈ idsV l ↔ (l[R]'hmx).id = t := by
          rw [← hide]
          refine ⟨fun ht => ?_, fun e => by rw [← e]; exact hxin⟩
          have hx2 := h2 _ hxm
          rw [← List.take_append_drop R (idsV l)] at ht
          rcases List.mem_append.1 ht with h | h
          · have := h1 t h; omega
          · rw [List.drop_eq_getElem_cons hmi] at h
            rcases List.mem_cons.1 h with h | h
            · exact h.symm
            · obtain ⟨k, hk, rfl⟩ := List.mem_iff_getElem.1 h
              rw [List.length_drop] at hk
              rw [List.getElem_drop] at hx2 ⊢
              have := List.pairwise_iff_getElem.1 HS.out R (R + 1 + k) hmi (by omega) (by omega)
              omega
        have hge : t ≤ (l[R]'hmx).id := by rw [← hide]; exact h2 _ hxm
        clear hide hxm hxin hid? h1 h2 hrel hpl HR
        generalize l[R]'hmx = o at *
        have hF := Lib.hid (fun W => findF o t W)
        have c1 := c0 0 (by omega)
        have c2 := c0 1 (by omega)
        have c3 := c0 2 (by omega)
        have c4 := c0 3 (by omega)
        have c5 := c0 4 (by omega)
        obtain ⟨id, dst, dv, st, one⟩ := o
        simp only [encO, List.getElem?_cons_zero, List.getElem?_cons_succ, ← Nat.add_assoc, Nat.add_zero] at c1 c2 c3 c4 c5
        dsimp only at hF hiff hge
        clear hx? c0 hm hmx hmi
        by_cases hxt : id = t
        · obtain rfl : D = true := by rw [← HD.out]; simpa using hiff.2 hxt
          subst hxt
          have hcz : cmpZ id id = 0 := by unfold cmpZ; simp
          clear hiff
          go_wp2_with fail
          refine (hF.out wr).mono ?_
          rintro e w5 ⟨rfl, m5⟩
          have HM5 := Lib.hid (HM.out.trans m5 (fun _ _ e => e))
          rw [hcz]
          clear m5
          go_wp2_with fail
          go_ret2
          exact ⟨rfl, HM5.out⟩
        · obtain rfl : D = false := by rw [← HD.out]; simpa using fun e => hxt (hiff.1 e)
          obtain ⟨c, hcz, hc0⟩ : ∃ c, cmpZ id t = c ∧ (c == 0) = false := ⟨_, rfl, by unfold cmpZ; rw [if_neg (by omega), if_pos (by omega)]; rfl⟩
          clear hiff
          go_wp2_with fail
          refine (hF.out wr).mono ?_
          rintro e w5 ⟨rfl, m5⟩
          have HM5 := Lib.hid (HM.out.trans m5 (fun _ _ e => e))
          rw [hcz]
          clear m5 hcz
          go_wp2_with fail
          go_ret2
          exact ⟨rfl, HM5.out⟩
      · obtain rfl : n = R := by omega
        have hnm : ¬ t ∈ idsV l := fun ht => by
          rw [List.take_of_length_le (by rw [HNX.out]; exact Nat.le_refl _)] at h1
          have := h1 t ht
          omega
        obtain rfl : D = false := by rw [← HD.out]; simpa using hnm
        clear hrel hpl hnm h1 h2 hm HR
        go_wp2_with fail
        go_ret2
        exact ⟨rfl, HM.out⟩
end Go.Proofs.Ytddnlbkocmpffaa
