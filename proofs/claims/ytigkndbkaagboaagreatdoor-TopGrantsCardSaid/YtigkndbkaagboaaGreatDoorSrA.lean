/- What is granted ahead, by the program and by the reference; the reference's oldest one. -/
import Derived.Test.YtigkndbkaagboaaGreatDoorSrR
import Derived.Test.YtigkndbkaagboaaGreatDoorAddW
namespace Go.Proofs.YtigkndbkaagboaaGreatDoor
open Go.RowKit Go.Sort
set_option linter.unusedVariables false
set_option linter.unusedSimpArgs false
set_option maxHeartbeats 2000000
set_option maxRecDepth 100000
theorem ahead_step {ms : List Ms} {l : List Nat} (hl : l.length ≤ 100000) (hm : ∀ i ∈ l, ∃ m, ms[i]? = some m ∧ mayP m ∧ m.hav < m.total) {k j : Nat} {m : Ms} (hk : l[k]? = some j) (hj : ms[j]? = some m) (hp : mayP m) :
    addZ (aheadTo ms (l.take k)) (m.granted - m.hav) = aheadTo ms (l.take (k + 1)) ∧ 0 ≤ m.granted - m.hav ∧ m.granted - m.hav ≤ 1073741824 := by
  have h1 := ahead_bd (ms := ms) (l := l.take k) (fun i hi => hm i (List.mem_of_mem_take hi))
  have h2 : (l.take k).length ≤ 100000 := by rw [List.length_take]; omega
  obtain ⟨p1, p2, p3, p4, _⟩ := hp
  have h3 : ((l.take k).length : Int) * 1073741824 ≤ 107374182400000 := by omega
  refine ⟨?_, by omega, by omega⟩
  rw [List.take_add_one, hk, Option.toList_some, ahead_snoc hj, addZ_in h1.1 (by omega) (by omega)]
theorem aheadW (v : Value) (ms : List Ms) (w : World) (h : Has w w.heap.size 6 encM v ms) (hl : ms.length ≤ 100000) :
    Calls Tryz.prog 35 #[v] w fun e w' => e = .returned (.int .i64 (aheadZ ms)) ∧ Mod (fun _ => False) w w' := by
  have hop := openW v ms w h hl
  have hol : (openL ms).length ≤ 100000 := by
    have := openTo_len ms ms.length
    unfold openL
    omega
  have hmem : ∀ i ∈ openL ms, ∃ m, ms[i]? = some m ∧ mayP m ∧ m.hav < m.total := fun i hi => by
    obtain ⟨m, a, b, c, _⟩ := open_mem hi
    exact ⟨m, a, b, c⟩
  obtain ⟨A, cap, rfl, hcap⟩ := h.form
  unfold aheadZ
  generalize openL ms = l at *
  have HH := Lib.hid h
  have HOP := Lib.hid hop
  have HME := Lib.hid hmem
  clear h hop hmem
  generalize hn : ms.length = n at *
  have HN := Lib.hid hn
  generalize hnl : l.length = nl at *
  have HNL := Lib.hid hnl
  clear hn hnl
  go_enter Tryz.func35, Tryz.ntmps35
  go_wp2_with fail
  refine HOP.out.mono ?_
  rintro e w2 ⟨v1, rfl, hown, m2⟩
  obtain ⟨A1, cap1, rfl, hcap1, _⟩ := hown.form
  have hh2 := (HH.out.later m2 (Nat.le_refl _))
  have HH2 := Lib.hid hh2
  have HOWN := Lib.hid hown.has
  have HM2 := Lib.hid m2
  rw [HNL.out]
  clear hown hh2 m2 hcap1
  go_wp2_with fail
  go_loopw [2, 8] (fun x i wr => ∃ k nn : Nat, i = .int .i64 k ∧ k ≤ nl ∧ x = .int .i64 (aheadTo ms (l.take k)) ∧ wr = w2.drewN nn) (fun _ i _ => nl - (intOf i).toNat)
  case atStart => exact ⟨0, 0, rfl, by omega, rfl, rfl⟩
  case round =>
    obtain ⟨k, nn, rfl, hk, rfl, hwr⟩ := hrel
    subst hwr
    by_cases hkl : k < nl
    · have hkx : k < l.length := by rw [HNL.out]; exact hkl
      have hj? := List.getElem?_eq_getElem hkx
      obtain ⟨g1, off1, rfl, _, hcj⟩ := HOWN.out.atJ hj?
      obtain ⟨m, hm?, hmp, _⟩ := HME.out _ (List.getElem_mem hkx)
      obtain ⟨hadd, hg0, hg1⟩ := ahead_step (by rw [HNL.out]; exact hol) HME.out hj? hm? hmp
      generalize l[k]'hkx = j at *
      obtain ⟨g, off, rfl, hg, c0, c1, c2, c3, c4, c5⟩ := HH2.out.atM hm?
      have hjl : j < n := by
        have := (List.getElem?_eq_some_iff.1 hm?).1
        rw [HN.out] at this
        exact this
      have j0 : (0 : Int) ≤ (j : Int) := by omega
      have j1 : (j : Int) < (n : Int) := by omega
      have s1 : IntKind.i64.wrap (m.granted - m.hav) = m.granted - m.hav := by rw [IntKind.wrap_i64]; omega
      have HA := Lib.hid hadd
      clear hadd hm? hj?
      go_wp2_with fail
      go_quiet ((go_at_call 82; refine (numAdd _ _ _).mono ?_; rintro e w' ⟨rfl, rfl⟩; exact ⟨rfl, _, rfl⟩))
      go_wp2_with fail
      go_roundw
      case rel => exact ⟨k + 1, _, by go_num, by omega, by rw [HA.out], rfl⟩
      case measure => simp [intOf]; omega
    · have htk : l.take k = l := List.take_of_length_le (by rw [HNL.out]; omega)
      rw [htk]
      go_wp2_with fail
      go_ret
      exact ⟨rfl, HM2.out.drewN nn⟩
theorem refOrderW (v : Value) (ms : List Ms) (w : World) (h : Has w w.heap.size 6 encM v ms) (hl : ms.length ≤ 100000) :
    Calls Tryz.prog 39 #[v] w fun e w' => ∃ v', e = .returned v' ∧ Own w' w.heap.size 3 1 encJ v' (orderL false ms) ∧ Mod (fun _ => False) w w' := by
  have H := Lib.hid (refOrdW v ms false w h hl)
  clear h
  go_enter Tryz.func39, Tryz.ntmps39
  go_wp2_with fail
  refine H.out.mono ?_
  rintro e w2 ⟨v1, rfl, hown, m2⟩
  go_wp2_with fail
  go_ret
  exact ⟨_, rfl, hown, m2⟩
theorem refOldestW (v : Value) (ms : List Ms) (w : World) (h : Has w w.heap.size 6 encM v ms) (hl : ms.length ≤ 100000) :
    Calls Tryz.prog 40 #[v] w fun e w' => e = .returned (.int .i64 (oldestZ ms)) ∧ Mod (fun _ => False) w w' := by
  have H := Lib.hid (refOrdW v ms true w h hl)
  clear h
  unfold oldestZ
  generalize orderL true ms = l at *
  go_enter Tryz.func40, Tryz.ntmps40
  go_wp2_with fail
  refine H.out.mono ?_
  rintro e w2 ⟨v1, rfl, hown, m2⟩
  obtain ⟨A1, cap1, rfl, hcap1, _⟩ := hown.form
  cases l with
  | nil =>
    rw [List.length_nil]
    clear hown hcap1
    go_wp2_with fail
    go_ret
    exact ⟨rfl, m2⟩
  | cons i r =>
    obtain ⟨g, off, rfl, _, hc⟩ := hown.has.atJ (i := 0) (x := i) rfl
    rw [Nat.add_zero] at hc
    rw [List.length_cons]
    generalize r.length = n
    have h0 : (((n : Int) + 1) == 0) = false := by rw [beq_eq_false_iff_ne]; omega
    have h1 : (0 : Int) < (n : Int) + 1 := by omega
    have h2 : ¬ ((n : Int) + 1 = 0) := by omega
    clear hown hcap1
    go_wp2_with fail
    go_ret
    exact ⟨rfl, m2⟩
theorem refAheadW (v : Value) (ms : List Ms) (w : World) (h : Has w w.heap.size 6 encM v ms) (hl : ms.length ≤ 100000) :
    Calls Tryz.prog 38 #[v] w fun e w' => e = .returned (.int .i64 (aheadZ ms)) ∧ Mod (fun _ => False) w w' := by
  have hop := refOrderW v ms w h hl
  have hol : (orderL false ms).length ≤ 100000 := by
    have := openTo_len ms ms.length
    rw [order_len]
    unfold openL
    omega
  have hmem : ∀ i ∈ orderL false ms, ∃ m, ms[i]? = some m ∧ mayP m ∧ m.hav < m.total := fun i hi => by
    obtain ⟨m, a, b, c, _⟩ := order_mem hi
    exact ⟨m, a, b, c⟩
  obtain ⟨A, cap, rfl, hcap⟩ := h.form
  have hsum : aheadZ ms = aheadTo ms (orderL false ms) := ahead_perm (order_perm false ms).symm
  rw [hsum]
  clear hsum
  generalize orderL false ms = l at *
  have HH := Lib.hid h
  have HOP := Lib.hid hop
  have HME := Lib.hid hmem
  clear h hop hmem
  generalize hn : ms.length = n at *
  have HN := Lib.hid hn
  generalize hnl : l.length = nl at *
  have HNL := Lib.hid hnl
  clear hn hnl
  go_enter Tryz.func38, Tryz.ntmps38
  go_wp2_with fail
  refine HOP.out.mono ?_
  rintro e w2 ⟨v1, rfl, hown, m2⟩
  obtain ⟨A1, cap1, rfl, hcap1, _⟩ := hown.form
  have hh2 := (HH.out.later m2 (Nat.le_refl _))
  have HH2 := Lib.hid hh2
  have HOWN := Lib.hid hown.has
  have HM2 := Lib.hid m2
  rw [HNL.out]
  clear hown hh2 m2 hcap1
  go_wp2_with fail
  go_loopw [4, 5] (fun x i wr => ∃ k nn : Nat, i = .int .i64 k ∧ k ≤ nl ∧ x = .int .i64 (aheadTo ms (l.take k)) ∧ wr = w2.drewN nn) (fun _ i _ => nl - (intOf i).toNat)
  case atStart => exact ⟨0, 0, rfl, by omega, rfl, rfl⟩
  case round =>
    obtain ⟨k, nn, rfl, hk, rfl, hwr⟩ := hrel
    subst hwr
    by_cases hkl : k < nl
    · have hkx : k < l.length := by rw [HNL.out]; exact hkl
      have hj? := List.getElem?_eq_getElem hkx
      obtain ⟨g1, off1, rfl, _, hcj⟩ := HOWN.out.atJ hj?
      obtain ⟨m, hm?, hmp, _⟩ := HME.out _ (List.getElem_mem hkx)
      obtain ⟨hadd, hg0, hg1⟩ := ahead_step (by rw [HNL.out]; exact hol) HME.out hj? hm? hmp
      generalize l[k]'hkx = j at *
      obtain ⟨g, off, rfl, hg, c0, c1, c2, c3, c4, c5⟩ := HH2.out.atM hm?
      have hjl : j < n := by
        have := (List.getElem?_eq_some_iff.1 hm?).1
        rw [HN.out] at this
        exact this
      have k0 : (0 : Int) ≤ (k : Int) := by omega
      have k1 : (k : Int) < (nl : Int) := by omega
      have j0 : (0 : Int) ≤ (j : Int) := by omega
      have j1 : (j : Int) < (n : Int) := by omega
      have s1 : IntKind.i64.wrap (m.granted - m.hav) = m.granted - m.hav := by rw [IntKind.wrap_i64]; omega
      have HA := Lib.hid hadd
      clear hadd hm? hj?
      go_wp2_with fail
      go_quiet ((go_at_call 85; refine (refAdd1 _ _ _).mono ?_; rintro e w' ⟨rfl, rfl⟩; exact ⟨rfl, _, rfl⟩))
      go_wp2_with fail
      go_roundw
      case rel => exact ⟨k + 1, _, by go_num, by omega, by rw [HA.out], rfl⟩
      case measure => simp [intOf]; omega
    · have htk : l.take k = l := List.take_of_length_le (by rw [HNL.out]; omega)
      rw [htk]
      go_wp2_with fail
      go_ret
      exact ⟨rfl, HM2.out.drewN nn⟩
end Go.Proofs.YtigkndbkaagboaaGreatDoor
