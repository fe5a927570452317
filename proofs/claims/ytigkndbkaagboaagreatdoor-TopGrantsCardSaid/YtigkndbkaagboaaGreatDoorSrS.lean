/- The order of messages, and the oldest one. -/
import Derived.Test.YtigkndbkaagboaaGreatDoorSrC
import Derived.Test.YtigkndbkaagboaaGreatDoorSrShelf
import Derived.Test.YtigkndbkaagboaaGreatDoorSortO
namespace Go.Proofs.YtigkndbkaagboaaGreatDoor
open Go.RowKit Go.Sort Go.Shelf
set_option linter.unusedVariables false
set_option linter.unusedSimpArgs false
set_option maxHeartbeats 2000000
set_option maxRecDepth 100000
/-- A place of an open message. -/
abbrev Pl (ms : List Ms) := { i : Nat // i ∈ openL ms }
def enP {ms : List Ms} (i : Pl ms) : Value := .int .i64 (i.val : Int)
def cmpP (born : Bool) {ms : List Ms} (i k : Pl ms) : Int := cmpK (keyO born ms i.val) (keyO born ms k.val)
theorem ltP (born : Bool) {ms : List Ms} (i k : Pl ms) : ltOf (cmpP born) i k = decide (lt4 (keyO born ms i.val) (keyO born ms k.val)) := by
  unfold ltOf cmpP
  exact decide_eq_decide.2 (cmpK_neg _ _)
theorem swoP (born : Bool) (ms : List Ms) : SWO (ltOf (cmpP born (ms := ms))) where
  irrefl x := by rw [ltP]; simpa using lt4_irrefl _
  trans x y z h1 h2 := by
    rw [ltP] at *
    simp only [decide_eq_true_eq] at *
    exact lt4_trans h1 h2
  ntrans x y z h1 h2 := by
    rw [ltP] at *
    simp only [decide_eq_false_iff_not] at *
    exact lt4_not h1 h2
theorem totP (born : Bool) (ms : List Ms) (x y : Pl ms) (h1 : ltOf (cmpP born) x y = false) (h2 : ltOf (cmpP born) y x = false) : x = y := by
  rw [ltP] at *
  simp only [decide_eq_false_iff_not] at *
  exact Subtype.ext (keyO_inj h1 h2)
theorem attach_map (l : List Nat) : (l.attach.map fun i => i.val) = l := by simp
theorem sortP (born : Bool) (ms : List Ms) : (((openL ms).attach.mergeSort fun x y => !(ltOf (cmpP born)) y x).map fun i => i.val) = orderL born ms := by
  refine order_unique ?_ ?_
  · have h := List.pairwise_mergeSort (le := fun x y : Pl ms => !(ltOf (cmpP born)) y x)
      (by
        intro a b c h1 h2
        simp only [Bool.not_eq_true'] at *
        exact (swoP born ms).ntrans _ _ _ h2 h1)
      (by
        intro a b
        simp only [Bool.or_eq_true, Bool.not_eq_true']
        cases h : ltOf (cmpP born) b a with
        | false => exact .inl rfl
        | true =>
          right
          rw [ltP] at *
          simp only [decide_eq_true_eq, decide_eq_false_iff_not] at *
          exact lt4_asymm h) (openL ms).attach
    rw [List.pairwise_map]
    exact h.imp (by
      intro a b h
      rw [ltP] at h
      simpa using h)
  · have h := (List.mergeSort_perm (openL ms).attach (fun x y : Pl ms => !(ltOf (cmpP born)) y x)).map fun i => i.val
    rwa [attach_map] at h
theorem own_attach {w : World} {B : Nat} {T : TypeId} {v : Value} {ms : List Ms} (l : List (Pl ms)) : Own w B T 1 (fun x => [enP x]) v l ↔ Own w B T 1 encJ v (l.map fun i => i.val) := by
  unfold Own
  have : l.flatMap (fun x => [enP x]) = (l.map fun i => i.val).flatMap encJ := by
    induction l with
    | nil => rfl
    | cons x l ih => rw [List.flatMap_cons, ih]; rfl
  rw [this, List.length_map]
theorem orderW (v : Value) (ms : List Ms) (w : World) (h : Has w w.heap.size 6 encM v ms) (hl : ms.length ≤ 100000) :
    Calls Tryz.prog 10 #[v] w fun e w' => ∃ v', e = .returned v' ∧ Own w' w.heap.size 3 1 encJ v' (orderL false ms) ∧ Mod (fun _ => False) w w' := by
  obtain ⟨A0, cap0, rfl, hcap0⟩ := h.form
  generalize hv : Value.slice A0 ms.length cap0 = v at h
  have m1 : Mod (fun _ => False) w (w.alloc (.cells #[v] 24)) := (Mod.refl _ w).alloc _
  have h1 := (h.later m1 (Nat.le_refl _)).more m1.size
  have hop := openW v ms _ h1 hl
  have hbx := Blk.new w 24 #[v]
  rw [← hv] at hop hbx m1 ⊢
  have H1 := Lib.hid h1
  have HOP := Lib.hid hop
  have HBX := Lib.hid hbx
  have M1 := Lib.hid m1
  have HV := Lib.hid hv
  clear h1 hop h hbx m1 hv
  go_enter Tryz.func10, Tryz.ntmps10
  go_wp2_with fail
  refine HOP.out.mono ?_
  rintro e w2 ⟨v1, rfl, hown, m2⟩
  have hbx2 := HBX.out.mod m2 (fun e => e)
  have M3 := Lib.hid (M1.out.trans m2 (fun _ _ e => e))
  have hszn : (w.alloc (.cells #[.slice A0 ms.length cap0] 24)).heap.size = w.heap.size + 1 := by simp
  obtain ⟨A, cap, rfl, hcap, hA⟩ := hown.form
  have hol := openTo_len ms ms.length
  by_cases hl0 : (openL ms).length = 0
  · have hnil : openL ms = [] := List.eq_nil_of_length_eq_zero hl0
    have hord : orderL false ms = openL ms := by
      have := order_len false ms
      rw [hnil] at this ⊢
      exact List.eq_nil_of_length_eq_zero this
    have hown' := hown.le (show w.heap.size ≤ (w.alloc (.cells #[.slice A0 ms.length cap0] 24)).heap.size by omega)
    have hor0 : (orderL false ms).length = 0 := by rw [hord]; exact hl0
    rw [← hord, hor0] at hown'
    have HO := Lib.hid hown'
    have hS := Tryz.slices_SortFunc_none (α := Nat) A cap (.func (.func 43) #[] #[.pointer (some ⟨w.heap.size, 0, none⟩)]) w2
    rw [hl0]
    have HS := Lib.hid hS
    clear hown hown' hS hl0 hord hnil hA hcap hol hbx2
    go_wp2_with fail
    refine HS.out.mono ?_
    rintro e w' ⟨rfl, rfl⟩
    go_wp2_with fail
    go_ret
    exact ⟨_, rfl, HO.out, M3.out⟩
  · obtain ⟨g, rfl, hg, hgl⟩ : ∃ g, A = some ⟨g, 0, none⟩ ∧ (w.alloc (.cells #[.slice A0 ms.length cap0] 24)).heap.size ≤ g ∧ g < w2.heap.size := by
      rcases hA with ⟨_, h, _⟩ | h
      · rw [h] at hl0; exact absurd rfl hl0
      · exact h
    have hne : 0 < (openL ms).length := by omega
    haveI : Inhabited (Pl ms) := ⟨⟨(openL ms)[0], List.getElem_mem hne⟩⟩
    have hatt : Own w2 w.heap.size 3 1 (fun x => [enP x]) (.slice (some ⟨g, 0, none⟩) (openL ms).length cap) (openL ms).attach.toArray.toList := by
      rw [own_attach, List.toList_toArray, attach_map]
      exact hown.le (by omega)
    have hsz : (openL ms).attach.toArray.size = (openL ms).length := by simp
    have hs2 := m2.size
    have hS := Tryz.slices_SortFunc_total enP (fun _ => rfl) (cmpP false) (swoP false ms) 43 #[.pointer (some ⟨w.heap.size, 0, none⟩)] g 0 cap (openL ms).attach.toArray w2 (enters_of Tryz.func43 (by kernel_rfl) rfl)
      (fun m os dk hdk x y => by
        obtain ⟨a, ha, pa, _⟩ := open_mem x.2
        obtain ⟨b, hb, pb, _⟩ := open_mem y.2
        have md := sort_mod (en := enP) (w := w2) (g := g) (n := m) (os := os) dk
        have hbl := hbx2.mod md (by omega)
        have hhas : Has (sortWorld enP w2 g 0 m dk os) (w.alloc (.cells #[v] 24)).heap.size 6 encM v ms := (H1.out.later (w' := w2) (by rw [← HV.out]; exact m2) (Nat.le_refl _)).keep fun p hp => md.cell (by
          have : (w.alloc (.cells #[v] 24)).heap.size = w.heap.size + 1 := by simp
          omega) (by
          have : (w.alloc (.cells #[v] 24)).heap.size = w.heap.size + 1 := by simp
          omega)
        refine (orderFnW w.heap.size v ms _ x.val y.val a b _ (by rw [hbl.cell 0, ← HV.out]; rfl) hbl.lt hhas (by
          have := md.size
          have : (w.alloc (.cells #[v] 24)).heap.size = w.heap.size + 1 := by simp
          omega) ha hb pa pb).mono ?_
        rintro e w' ⟨rfl, q, os', hw⟩
        refine ⟨?_, q, os', hw⟩
        unfold cmpP
        rw [keyO_eq ha, keyO_eq hb])
      hatt.holds hgl (by rw [hsz]; unfold openL; omega) (totP false ms)
    rw [hsz] at hS
    have HS := Lib.hid hS
    have HATT := Lib.hid hatt
    have HSZ := Lib.hid hsz
    clear hS hatt hsz hown hA hcap hol hbx2 hl0 m2
    go_wp2_with fail
    refine HS.out.mono ?_
    rintro e w3 ⟨rfl, n, os, hw3⟩
    have hfin : Own w3 w.heap.size 3 1 encJ (.slice (some ⟨g, 0, none⟩) (openL ms).length cap) (orderL false ms) := by
      rw [hw3, ← sortP false ms]
      have := HATT.out.sorted (m := n) (os := os) (d' := ((openL ms).attach.mergeSort fun x y => !(ltOf (cmpP false)) y x).toArray) (by simp)
      rw [own_attach, List.toList_toArray] at this
      exact this
    have hm3 : Mod (fun _ => False) w w3 := M3.out.trans (by rw [hw3]; exact sort_mod _) (fun q hq e => by omega)
    have HF := Lib.hid hfin
    have HM := Lib.hid hm3
    clear hw3 hfin hm3
    go_wp2_with fail
    go_ret
    exact ⟨_, rfl, HF.out, HM.out⟩
/-- The one that is picked is one of them, and none is less. -/
theorem pick_least {α : Type} [Inhabited α] {lt : α → α → Bool} (hO : SWO lt) (d : Array α) : ∀ n, n < d.size → (∃ i, i ≤ n ∧ Lib.pickBy lt d n = d[i]!) ∧ ∀ i, i ≤ n → lt d[i]! (Lib.pickBy lt d n) = false
  | 0, _ => ⟨⟨0, Nat.le_refl _, rfl⟩, fun i hi => by
    obtain rfl : i = 0 := by omega
    exact hO.irrefl _⟩
  | n + 1, hn => by
    obtain ⟨⟨i, hi, he⟩, hl⟩ := pick_least hO d n (by omega)
    unfold Lib.pickBy
    cases h : lt d[n + 1]! (Lib.pickBy lt d n) with
    | true =>
      simp only [if_true]
      refine ⟨⟨n + 1, Nat.le_refl _, rfl⟩, fun k hk => ?_⟩
      by_cases hk1 : k = n + 1
      · subst hk1; exact hO.irrefl _
      · cases hx : lt d[k]! d[n + 1]! with
        | false => rfl
        | true =>
          have := hO.trans _ _ _ hx h
          rw [hl k (by omega)] at this
          cases this
    | false =>
      simp only [Bool.false_eq_true, if_false]
      refine ⟨⟨i, by omega, he⟩, fun k hk => ?_⟩
      by_cases hk1 : k = n + 1
      · subst hk1; exact h
      · exact hl k (by omega)
theorem oldest_pick {ms : List Ms} [Inhabited (Pl ms)] (hne : 0 < (openL ms).length) : ((Lib.pickBy (ltOf (cmpP true)) (openL ms).attach.toArray ((openL ms).attach.toArray.size - 1)).val : Int) = oldestZ ms := by
  have hsz : (openL ms).attach.toArray.size = (openL ms).length := by simp
  obtain ⟨_, hl⟩ := pick_least (swoP true ms) (openL ms).attach.toArray ((openL ms).attach.toArray.size - 1) (by omega)
  generalize Lib.pickBy (ltOf (cmpP true)) (openL ms).attach.toArray ((openL ms).attach.toArray.size - 1) = p at hl ⊢
  have hall : ∀ x : Pl ms, ltOf (cmpP true) x p = false := fun x => by
    have hx : x ∈ (openL ms).attach := List.mem_attach _ x
    obtain ⟨i, hi, he⟩ := List.mem_iff_getElem.1 hx
    have hi' : i < (openL ms).attach.toArray.size := by simpa using hi
    have := hl i (by omega)
    rw [getElem!_pos _ i hi'] at this
    rw [← he]
    simpa using this
  have hp : p.val ∈ orderL true ms := (order_perm true ms).mem_iff.2 p.2
  have hs := order_sorted true ms
  unfold oldestZ
  cases ho : orderL true ms with
  | nil => rw [ho] at hp; cases hp
  | cons q r =>
    rw [ho] at hp hs
    have hq : q ∈ openL ms := (order_perm true ms).mem_iff.1 (by rw [ho]; exact List.mem_cons_self ..)
    have h1 := hall ⟨q, hq⟩
    rw [ltP] at h1
    simp only [decide_eq_false_iff_not] at h1
    rcases List.mem_cons.1 hp with e | hr
    · simp only [e]
    · have h2 := (List.pairwise_cons.1 hs).1 _ hr
      have := keyO_inj h1 h2
      simp only [this]
theorem oldestW (v : Value) (ms : List Ms) (w : World) (h : Has w w.heap.size 6 encM v ms) (hl : ms.length ≤ 100000) :
    Calls Tryz.prog 11 #[v] w fun e w' => e = .returned (.int .i64 (oldestZ ms)) ∧ Mod (fun _ => False) w w' := by
  obtain ⟨A0, cap0, rfl, hcap0⟩ := h.form
  generalize hv : Value.slice A0 ms.length cap0 = v at h
  have m1 : Mod (fun _ => False) w (w.alloc (.cells #[v] 24)) := (Mod.refl _ w).alloc _
  have h1 := (h.later m1 (Nat.le_refl _)).more m1.size
  have hop := openW v ms _ h1 hl
  have hbx := Blk.new w 24 #[v]
  rw [← hv] at hop hbx m1 ⊢
  have H1 := Lib.hid h1
  have HOP := Lib.hid hop
  have HBX := Lib.hid hbx
  have M1 := Lib.hid m1
  have HV := Lib.hid hv
  clear h1 hop h hbx m1 hv
  go_enter Tryz.func11, Tryz.ntmps11
  go_wp2_with fail
  refine HOP.out.mono ?_
  rintro e w2 ⟨v1, rfl, hown, m2⟩
  have hbx2 := HBX.out.mod m2 (fun e => e)
  have M3 := Lib.hid (M1.out.trans m2 (fun _ _ e => e))
  have hszn : (w.alloc (.cells #[.slice A0 ms.length cap0] 24)).heap.size = w.heap.size + 1 := by simp
  obtain ⟨A, cap, rfl, hcap, hA⟩ := hown.form
  have hol := openTo_len ms ms.length
  by_cases hl0 : (openL ms).length = 0
  · have hnil : openL ms = [] := List.eq_nil_of_length_eq_zero hl0
    have hold : oldestZ ms = -1 := by
      have := order_len true ms
      rw [hnil] at this
      have h0 : orderL true ms = [] := List.eq_nil_of_length_eq_zero this
      unfold oldestZ
      rw [h0]
    rw [hl0]
    clear hown hl0 hnil hA hcap hol hbx2
    go_wp2_with fail
    go_ret
    exact ⟨ret_int hold.symm, M3.out⟩
  · obtain ⟨g, rfl, hg, hgl⟩ : ∃ g, A = some ⟨g, 0, none⟩ ∧ (w.alloc (.cells #[.slice A0 ms.length cap0] 24)).heap.size ≤ g ∧ g < w2.heap.size := by
      rcases hA with ⟨_, h, _⟩ | h
      · rw [h] at hl0; exact absurd rfl hl0
      · exact h
    have hne : 0 < (openL ms).length := by omega
    haveI : Inhabited (Pl ms) := ⟨⟨(openL ms)[0], List.getElem_mem hne⟩⟩
    have hatt : Own w2 w.heap.size 3 1 (fun x => [enP x]) (.slice (some ⟨g, 0, none⟩) (openL ms).length cap) (openL ms).attach.toArray.toList := by
      rw [own_attach, List.toList_toArray, attach_map]
      exact hown.le (by omega)
    have hsz : (openL ms).attach.toArray.size = (openL ms).length := by simp
    have hs2 := m2.size
    have hS := Any.slices_MinFunc Tryz.minL enP (fun _ => rfl) (cmpP true) 48 #[.pointer (some ⟨w.heap.size, 0, none⟩)] g 0 cap (openL ms).attach.toArray w2 (enters_of Tryz.func48 (by kernel_rfl) rfl)
      (fun m os dk hdk x y => by
        obtain ⟨a, ha, pa, _⟩ := open_mem x.2
        obtain ⟨b, hb, pb, _⟩ := open_mem y.2
        have md := sort_mod (en := enP) (w := w2) (g := g) (n := m) (os := os) dk
        have hbl := hbx2.mod md (by omega)
        have hhas : Has (sortWorld enP w2 g 0 m dk os) (w.alloc (.cells #[v] 24)).heap.size 6 encM v ms := (H1.out.later (w' := w2) (by rw [← HV.out]; exact m2) (Nat.le_refl _)).keep fun p hp => md.cell (by
          have : (w.alloc (.cells #[v] 24)).heap.size = w.heap.size + 1 := by simp
          omega) (by
          have : (w.alloc (.cells #[v] 24)).heap.size = w.heap.size + 1 := by simp
          omega)
        refine (oldestFnW w.heap.size v ms _ x.val y.val a b _ (by rw [hbl.cell 0, ← HV.out]; rfl) hbl.lt hhas (by
          have := md.size
          have : (w.alloc (.cells #[v] 24)).heap.size = w.heap.size + 1 := by simp
          omega) ha hb pa pb).mono ?_
        rintro e w' ⟨rfl, q, os', hw⟩
        refine ⟨?_, q, os', hw⟩
        unfold cmpP
        rw [keyO_eq ha, keyO_eq hb])
      hatt.holds hgl (by rw [hsz]; unfold openL; omega) (by rw [hsz]; exact hne)
    have hpk := oldest_pick hne
    have hlt : (fun x m => decide (cmpP true x m < 0)) = ltOf (cmpP true (ms := ms)) := rfl
    rw [hlt] at hS
    unfold enP at hS
    rw [hpk, hsz] at hS
    change Calls Tryz.prog 47 _ _ _ at hS
    have hl0' : ¬ ((openL ms).length : Int) = 0 := by omega
    have hlb : (((openL ms).length : Int) == 0) = false := by rw [beq_eq_false_iff_ne]; exact hl0'
    have HS := Lib.hid hS
    clear hS hatt hsz hown hA hcap hol hbx2 m2 hpk hlt
    generalize (openL ms).length = n at *
    go_wp2_with fail
    refine HS.out.mono ?_
    rintro e w3 ⟨rfl, q, os, hw3⟩
    have hm3 : Mod (fun _ => False) w w3 := M3.out.trans (by rw [hw3]; exact sort_mod _) (fun q hq e => by omega)
    have HM := Lib.hid hm3
    clear hw3 hm3
    go_wp2_with fail
    go_ret
    exact ⟨rfl, HM.out⟩
end Go.Proofs.YtigkndbkaagboaaGreatDoor
