/- Which one is granted first (plain). -/
import Derived.Test.YtpcgfejdeanenaaSrV
import Derived.Test.YtpcgfejdeanenaaSrK
namespace Go.Proofs.Ytpcgfejdeanenaa
set_option linter.unusedVariables false
theorem open_all {ms : List Ms} (h : ∀ (i : Nat) (m : Ms), ms[i]? = some m → mayP m ∧ m.hav < m.total) : openL ms = List.range ms.length := by
  unfold openL openTo
  rw [List.filter_eq_self]
  intro i hi
  have hil := List.mem_range.1 hi
  obtain ⟨a, b⟩ := h i _ (List.getElem?_eq_getElem hil)
  unfold isOpen
  rw [List.getElem?_eq_getElem hil]
  simp [mayB_of a, b]
theorem sum_zero : ∀ (l : List Nat) (f : Nat → Int), (∀ i ∈ l, f i = 0) → (l.map f).sum = 0
  | [], f, _ => rfl
  | i :: l, f, h => by
    rw [List.map_cons, List.sum_cons, h i (List.mem_cons_self ..), sum_zero l f (fun j hj => h j (List.mem_cons_of_mem _ hj))]
    rfl
theorem ahead_zero {ms : List Ms} (h : ∀ (i : Nat) (m : Ms), ms[i]? = some m → m.granted = m.hav) : aheadZ ms = 0 := by
  unfold aheadZ aheadTo
  refine sum_zero _ _ fun i hi => ?_
  obtain ⟨m, hm, _⟩ := open_mem hi
  rw [List.getD_eq_getElem?_getD, hm]
  have := h i m hm
  show m.granted - m.hav = 0
  omega
theorem grants_head {ms : List Ms} {k budget share : Int} {i : Nat} {r : List Nat} {m : Ms} (hm : ms[i]? = some m) (h : (endG ms k budget share).met = i :: r) :
    ∃ gs, grantsL ms k budget share = ⟨m.peer, m.id, (endG ms k budget share).upto.getD i 0, prioG (firstK ms k) i⟩ :: gs := by
  refine ⟨r.map (grantOf ms (endG ms k budget share) (firstK ms k)), ?_⟩
  unfold grantsL
  rw [h, List.map_cons]
  unfold grantOf
  rw [List.getD_eq_getElem?_getD (l := ms), hm]
  rfl
/-- One that is old and long, and others that are younger and short. -/
def oldMs (n : Nat) : List Ms := ⟨0, 1, 1073741824, 0, 0, 0⟩ :: (List.range n).map fun i : Nat => ⟨1 + (i : Int) % 7, (i : Int) / 7 + 1, 1 + (i : Int), 0, 0, 1 + (i : Int)⟩
theorem old_len (n : Nat) : (oldMs n).length = n + 1 := by simp [oldMs]
theorem old_get {n i : Nat} (h : i < n) : (oldMs n)[i + 1]? = some ⟨1 + (i : Int) % 7, (i : Int) / 7 + 1, 1 + (i : Int), 0, 0, 1 + (i : Int)⟩ := by
  unfold oldMs
  rw [List.getElem?_cons_succ, List.getElem?_map, List.getElem?_range h]
  rfl
theorem old_cases {n i : Nat} {m : Ms} (h : (oldMs n)[i]? = some m) : (i = 0 ∧ m = ⟨0, 1, 1073741824, 0, 0, 0⟩) ∨ ∃ j, j < n ∧ i = j + 1 ∧ m = ⟨1 + (j : Int) % 7, (j : Int) / 7 + 1, 1 + (j : Int), 0, 0, 1 + (j : Int)⟩ := by
  cases i with
  | zero =>
    left
    exact ⟨rfl, (Option.some.inj h).symm⟩
  | succ j =>
    have hj : j < n := by
      have := (List.getElem?_eq_some_iff.1 h).1
      rw [old_len] at this
      omega
    rw [old_get hj] at h
    exact .inr ⟨j, hj, rfl, (Option.some.inj h).symm⟩
theorem old_may {n : Nat} (hn : n ≤ 30) (i : Nat) (m : Ms) (h : (oldMs n)[i]? = some m) : mayP m ∧ m.hav < m.total := by
  rcases old_cases h with ⟨_, rfl⟩ | ⟨j, hj, _, rfl⟩
  · unfold mayP
    simp only
    omega
  · unfold mayP
    simp only
    omega
theorem old_oldest {n : Nat} (hn : n ≤ 30) : oldestZ (oldMs n) = 0 := by
  have h0 : (0 : Nat) ∈ openL (oldMs n) := by
    rw [open_all (old_may hn), List.mem_range, old_len]
    omega
  refine oldest_head h0 fun k hk => ?_
  obtain ⟨m, hm, _⟩ := open_mem hk
  rw [keyO_eq hm, keyO_eq (show (oldMs n)[0]? = some ⟨0, 1, 1073741824, 0, 0, 0⟩ from rfl)]
  rcases old_cases hm with ⟨rfl, rfl⟩ | ⟨j, hj, rfl, rfl⟩
  · exact lt4_irrefl _
  · unfold lt4 keyM
    simp only [if_true]
    omega
theorem old_last {n : Nat} {k : Int} (hn : n ≤ 30) (hk : k ≤ n) : 0 ∉ firstK (oldMs n) k := by
  intro h0
  unfold firstK at h0
  obtain ⟨p, hp, hg⟩ := List.mem_iff_getElem.1 h0
  rw [List.length_take] at hp
  have hol : (orderL false (oldMs n)).length = n + 1 := by rw [order_len, open_all (old_may hn), List.length_range, old_len]
  rw [List.getElem_take] at hg
  have hp1 : p + 1 < (orderL false (oldMs n)).length := by omega
  have hs := List.pairwise_iff_getElem.1 (order_sorted false (oldMs n)) p (p + 1) (by omega) hp1 (by omega)
  have hne := List.pairwise_iff_getElem.1 (order_nodup false (oldMs n)) p (p + 1) (by omega) hp1 (by omega)
  obtain ⟨m, hm, _⟩ := order_mem (List.getElem_mem hp1)
  rw [hg] at hs hne
  rw [keyO_eq hm, keyO_eq (show (oldMs n)[0]? = some ⟨0, 1, 1073741824, 0, 0, 0⟩ from rfl)] at hs
  rcases old_cases hm with ⟨e, _⟩ | ⟨j, hj, e, rfl⟩
  · exact hne e.symm
  · apply hs
    unfold lt4 keyM
    simp only
    left
    simp
    omega
theorem old_law {n : Nat} {k budget share : Int} (hn : n ≤ 30) (k1 : 1 ≤ k) (b1 : budget ≤ 1073741824) (s1 : 1 ≤ share) (s2 : share ≤ budget) :
    ∃ g gs, grantsL (oldMs n) k budget share = g :: gs ∧ g.peer = 0 ∧ g.id = 1 ∧ share ≤ g.upto ∧ (k ≤ n → g.prio = 0) := by
  have hm : (oldMs n)[0]? = some ⟨0, 1, 1073741824, 0, 0, 0⟩ := rfl
  have hst := startG_ok (oldMs n) (budget := budget) (by omega) (by omega)
  have ho := old_oldest hn
  have hu : (startG (oldMs n) budget).upto[0]? = some 0 := by
    unfold startG
    rw [List.getElem?_map, hm]
    rfl
  have hah : aheadZ (oldMs n) = 0 := ahead_zero fun i m h => by
    rcases old_cases h with ⟨_, rfl⟩ | ⟨j, hj, _, rfl⟩ <;> rfl
  have hmore : moreG (oldMs n) (startG (oldMs n) budget) 0 share = share := by
    rw [moreG_eq hm hu]
    simp only [startG, hah]
    omega
  have hsh : shareG (oldMs n) budget share = ⟨(startG (oldMs n) budget).room - share, (startG (oldMs n) budget).upto.set 0 (0 + share), [0]⟩ := by
    unfold shareG
    rw [ho, if_pos (by omega)]
    have := step_new hst hm hu (ahead := share) (by rw [hmore]; omega) rfl
    rw [hmore] at this
    exact this
  obtain ⟨r, hr⟩ := met_steps (oldMs n) (budget / k) (firstK (oldMs n) k) (shareG (oldMs n) budget share)
  have hmet : (endG (oldMs n) k budget share).met = 0 :: r := by
    unfold endG
    rw [hr, hsh]
    rfl
  obtain ⟨gs, hgs⟩ := grants_head hm hmet
  refine ⟨_, gs, hgs, rfl, rfl, ?_, fun hk => ?_⟩
  · have := (upto_steps (oldMs n) (budget / k) 0 (firstK (oldMs n) k) (shareG (oldMs n) budget share) (fun i hi => by
      obtain ⟨m, hm', _⟩ := firstK_mem i hi
      have := (shareG_ok (oldMs n) (share := share) (show 0 ≤ budget by omega) (by omega)).len
      rw [this]
      exact (List.getElem?_eq_some_iff.1 hm').1)).1
    have h0 : (shareG (oldMs n) budget share).upto.getD 0 0 = share := by
      rw [hsh, List.getD_eq_getElem?_getD]
      show ((startG (oldMs n) budget).upto.set 0 (0 + share))[0]?.getD 0 = share
      rw [List.getElem?_set_self ((List.getElem?_eq_some_iff.1 hu).1)]
      simp
    unfold endG
    show share ≤ (stepsG (oldMs n) (budget / k) (firstK (oldMs n) k) (shareG (oldMs n) budget share)).upto.getD 0 0
    omega
  · show prioG _ _ = 0
    unfold prioG
    rw [if_neg (old_last hn hk)]
/-- Of whatever lengths. -/
def shortMs (l : List Int) : List Ms := l.mapIdx fun i t => ⟨(i : Int) % 8, (i : Int) / 8 + 1, t, 0, 0, (i : Int)⟩
theorem short_len (l : List Int) : (shortMs l).length = l.length := by simp [shortMs]
theorem short_get {l : List Int} {i : Nat} {t : Int} (h : l[i]? = some t) : (shortMs l)[i]? = some ⟨(i : Int) % 8, (i : Int) / 8 + 1, t, 0, 0, (i : Int)⟩ := by simp [shortMs, h]
theorem short_of {l : List Int} {i : Nat} {m : Ms} (h : (shortMs l)[i]? = some m) : ∃ t, l[i]? = some t ∧ m = ⟨(i : Int) % 8, (i : Int) / 8 + 1, t, 0, 0, (i : Int)⟩ := by
  have hl : i < l.length := by
    have := (List.getElem?_eq_some_iff.1 h).1
    rwa [short_len] at this
  have := List.getElem?_eq_getElem hl
  rw [short_get this] at h
  exact ⟨_, this, (Option.some.inj h).symm⟩
theorem short_snoc (l : List Int) (t : Int) : shortMs (l ++ [t]) = shortMs l ++ [⟨(l.length : Int) % 8, (l.length : Int) / 8 + 1, t, 0, 0, (l.length : Int)⟩] := by simp [shortMs, List.mapIdx_append]
/-- Each is at least one, and so much at most. -/
def okLens (l : List Int) : Prop := ∀ t ∈ l, 1 ≤ t ∧ t ≤ 1073741824
theorem short_may {l : List Int} (hl : l.length ≤ 40) (h : okLens l) (i : Nat) (m : Ms) (hm : (shortMs l)[i]? = some m) : mayP m ∧ m.hav < m.total := by
  obtain ⟨t, ht, rfl⟩ := short_of hm
  have hi := (List.getElem?_eq_some_iff.1 ht).1
  have := h t (List.mem_of_getElem? ht)
  unfold mayP
  simp only
  omega
/-- Which goes first of the first so many. -/
def leastAt (l : List Int) (a : Nat) : Prop := ∃ t, l[a]? = some t ∧ ∀ (j : Nat) (u : Int), l[j]? = some u → ¬ lt4 (u, (j : Int) % 8, (j : Int) / 8 + 1, (j : Int)) (t, (a : Int) % 8, (a : Int) / 8 + 1, (a : Int))
theorem least_first (t : Int) : leastAt [t] 0 := ⟨t, rfl, fun j u h => by
  cases j with
  | zero =>
    obtain rfl := Option.some.inj h
    exact lt4_irrefl _
  | succ j => cases h⟩
theorem least_keep {l : List Int} {a : Nat} {t x : Int} (h : leastAt l a) (ht : l[a]? = some t) (hx : ¬ (x < t ∨ (x = t ∧ ((l.length : Int) % 8 < (a : Int) % 8 ∨ ((l.length : Int) % 8 = (a : Int) % 8 ∧ (l.length : Int) / 8 + 1 < (a : Int) / 8 + 1))))) : leastAt (l ++ [x]) a := by
  obtain ⟨t', ht', hmin⟩ := h
  rw [ht] at ht'
  obtain rfl := Option.some.inj ht'
  have hal := (List.getElem?_eq_some_iff.1 ht).1
  refine ⟨t, by rw [List.getElem?_append_left hal]; exact ht, fun j u hu => ?_⟩
  by_cases hj : j < l.length
  · rw [List.getElem?_append_left hj] at hu
    exact hmin j u hu
  · have : j = l.length := by
      have := (List.getElem?_eq_some_iff.1 hu).1
      simp at this
      omega
    subst this
    rw [List.getElem?_append_right (Nat.le_refl _), Nat.sub_self] at hu
    obtain rfl := Option.some.inj hu
    unfold lt4
    simp only
    omega
theorem least_take {l : List Int} {a : Nat} {t x : Int} (h : leastAt l a) (ht : l[a]? = some t) (hx : x < t ∨ (x = t ∧ ((l.length : Int) % 8 < (a : Int) % 8 ∨ ((l.length : Int) % 8 = (a : Int) % 8 ∧ (l.length : Int) / 8 + 1 < (a : Int) / 8 + 1)))) : leastAt (l ++ [x]) l.length := by
  obtain ⟨t', ht', hmin⟩ := h
  rw [ht] at ht'
  obtain rfl := Option.some.inj ht'
  refine ⟨x, by rw [List.getElem?_append_right (Nat.le_refl _), Nat.sub_self]; rfl, fun j u hu => ?_⟩
  by_cases hj : j < l.length
  · rw [List.getElem?_append_left hj] at hu
    have := hmin j u hu
    unfold lt4 at this ⊢
    simp only at this ⊢
    omega
  · have : j = l.length := by
      have := (List.getElem?_eq_some_iff.1 hu).1
      simp at this
      omega
    subst this
    rw [List.getElem?_append_right (Nat.le_refl _), Nat.sub_self] at hu
    obtain rfl := Option.some.inj hu
    exact lt4_irrefl _
theorem short_order {l : List Int} {a : Nat} (hl : l.length ≤ 40) (h : okLens l) (ha : leastAt l a) : ∃ r, orderL false (shortMs l) = a :: r := by
  obtain ⟨t, ht, hmin⟩ := ha
  have hal := (List.getElem?_eq_some_iff.1 ht).1
  refine order_head (by rw [open_all (short_may hl h), List.mem_range, short_len]; exact hal) fun k hk => ?_
  obtain ⟨m, hm, _⟩ := open_mem hk
  obtain ⟨u, hu, rfl⟩ := short_of hm
  rw [keyO_eq hm, keyO_eq (short_get ht)]
  have := hmin k u hu
  unfold lt4 keyM at *
  simp only at *
  simp at *
  omega
theorem short_olen {l : List Int} (hl : l.length ≤ 40) (h : okLens l) : (orderL false (shortMs l)).length = l.length := by rw [order_len, open_all (short_may hl h), List.length_range, short_len]
theorem short_sorted {l : List Int} {i a b : Nat} {t u : Int} (ha : (orderL false (shortMs l))[i]? = some a) (hb : (orderL false (shortMs l))[i + 1]? = some b) (ht : l[a]? = some t) (hu : l[b]? = some u) : t ≤ u := by
  obtain ⟨h1, e1⟩ := List.getElem?_eq_some_iff.1 ha
  obtain ⟨h2, e2⟩ := List.getElem?_eq_some_iff.1 hb
  have := List.pairwise_iff_getElem.1 (order_sorted false (shortMs l)) i (i + 1) h1 h2 (by omega)
  rw [e1, e2, keyO_eq (short_get ht), keyO_eq (short_get hu)] at this
  unfold lt4 keyM at this
  simp at this
  omega
theorem short_oldest {l : List Int} (hl : l.length ≤ 40) (h : okLens l) (h0 : 0 < l.length) : oldestZ (shortMs l) = 0 := by
  have := oldest_head (ms := shortMs l) (i := 0) (by rw [open_all (short_may hl h), List.mem_range, short_len]; exact h0) fun k hk => by
    obtain ⟨m, hm, _⟩ := open_mem hk
    obtain ⟨u, hu, rfl⟩ := short_of hm
    rw [keyO_eq hm, keyO_eq (short_get (List.getElem?_eq_getElem h0))]
    unfold lt4 keyM
    simp only [if_true]
    omega
  exact this
theorem short_law {l : List Int} {a : Nat} {t k budget : Int} (hl : l.length ≤ 40) (h : okLens l) (ha : leastAt l a) (ht : l[a]? = some t) (k1 : 1 ≤ k) (b0 : k ≤ budget) (b1 : budget ≤ 1073741824) :
    ∃ g gs, grantsL (shortMs l) k budget 0 = g :: gs ∧ g.peer = (a : Int) % 8 ∧ g.id = (a : Int) / 8 + 1 ∧ g.upto = min t (budget / k) ∧ g.prio = 6 ∧ ((grantsL (shortMs l) k budget 0).length : Int) ≤ min k l.length := by
  have hm := short_get ht
  have hst := startG_ok (shortMs l) (budget := budget) (by omega) (by omega)
  obtain ⟨r, hr⟩ := short_order hl h ha
  have hnd := order_nodup false (shortMs l)
  rw [hr] at hnd
  obtain ⟨hnr, _⟩ := List.nodup_cons.1 hnd
  have hfk : firstK (shortMs l) k = a :: r.take (k.toNat - 1) := by
    unfold firstK
    rw [hr, show k.toNat = (k.toNat - 1) + 1 by omega, List.take_succ_cons]
    rfl
  have htk : a ∉ r.take (k.toNat - 1) := fun e => hnr (List.mem_of_mem_take e)
  have hsh : shareG (shortMs l) budget 0 = startG (shortMs l) budget := if_neg (by omega)
  have hu : (startG (shortMs l) budget).upto[a]? = some 0 := by
    unfold startG
    rw [List.getElem?_map, hm]
    rfl
  have hah : aheadZ (shortMs l) = 0 := ahead_zero fun i m h => by
    obtain ⟨t, _, rfl⟩ := short_of h
    rfl
  have hq1 : budget / k ≤ budget := Int.ediv_le_self k (by omega)
  have hq2 : 1 ≤ budget / k := by
    have := Int.ediv_le_ediv (show 0 < k by omega) b0
    rw [Int.ediv_self (by omega)] at this
    exact this
  have ht1 := h t (List.mem_of_getElem? ht)
  have hmore : moreG (shortMs l) (startG (shortMs l) budget) a (budget / k) = min t (budget / k) := by
    rw [moreG_eq hm hu]
    simp only [startG, hah]
    omega
  have hstep := step_new hst hm hu (ahead := budget / k) (by rw [hmore]; omega) rfl
  rw [hmore] at hstep
  have hend : endG (shortMs l) k budget 0 = stepsG (shortMs l) (budget / k) (r.take (k.toNat - 1)) (stepG (shortMs l) (startG (shortMs l) budget) a (budget / k)) := by
    unfold endG
    rw [hfk, hsh]
    rfl
  obtain ⟨r', hr'⟩ := met_steps (shortMs l) (budget / k) (r.take (k.toNat - 1)) (stepG (shortMs l) (startG (shortMs l) budget) a (budget / k))
  have hmet : (endG (shortMs l) k budget 0).met = a :: r' := by
    rw [hend, hr', hstep]
    rfl
  obtain ⟨gs, hgs⟩ := grants_head hm hmet
  have hal := (List.getElem?_eq_some_iff.1 hu).1
  refine ⟨_, gs, hgs, rfl, rfl, ?_, ?_, ?_⟩
  · show (endG (shortMs l) k budget 0).upto.getD a 0 = _
    have := (upto_steps (shortMs l) (budget / k) a (r.take (k.toNat - 1)) (stepG (shortMs l) (startG (shortMs l) budget) a (budget / k)) (fun i hi => by
      have hi' : i ∈ firstK (shortMs l) k := by rw [hfk]; exact List.mem_cons_of_mem _ hi
      obtain ⟨m, hm', _⟩ := firstK_mem i hi'
      rw [hstep, List.length_set, hst.len]
      exact (List.getElem?_eq_some_iff.1 hm').1)).2 htk
    rw [hend, this, hstep, List.getD_eq_getElem?_getD, List.getElem?_set_self hal]
    simp
  · show prioG _ _ = 6
    rw [hfk]
    unfold prioG
    simp
    rfl
  · have h1 := stepsG_len (shortMs l) (budget / k) (firstK (shortMs l) k) (shareG (shortMs l) budget 0)
    have h2 : (firstK (shortMs l) k).length ≤ k.toNat := by unfold firstK; rw [List.length_take]; omega
    have h3 : (firstK (shortMs l) k).length ≤ l.length := by
      have := short_olen hl h
      unfold firstK
      rw [List.length_take]
      omega
    have h4 : (shareG (shortMs l) budget 0).met.length = 0 := by rw [hsh]; rfl
    unfold grantsL endG
    rw [List.length_map]
    omega
end Go.Proofs.Ytpcgfejdeanenaa
