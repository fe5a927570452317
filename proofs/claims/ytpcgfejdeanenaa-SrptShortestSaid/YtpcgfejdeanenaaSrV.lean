/- What grants come to (plain). -/
import Derived.Test.YtpcgfejdeanenaaSrG
namespace Go.Proofs.Ytpcgfejdeanenaa
set_option linter.unusedVariables false
/-- Messages of which some go as far as they are granted now. -/
def bumpM (ms : List Ms) (up : List Int) (l : List Nat) : List Ms := ms.mapIdx fun i m => if i ∈ l then { m with granted := up.getD i 0 } else m
theorem bump_len (ms : List Ms) (up : List Int) (l : List Nat) : (bumpM ms up l).length = ms.length := by simp [bumpM]
theorem bump_nil (ms : List Ms) (up : List Int) : bumpM ms up [] = ms := by
  apply List.ext_getElem?
  intro i
  simp [bumpM]
theorem bump_get {ms : List Ms} {up : List Int} {l : List Nat} {i : Nat} {m : Ms} (h : ms[i]? = some m) : (bumpM ms up l)[i]? = some (if i ∈ l then { m with granted := up.getD i 0 } else m) := by
  simp [bumpM, h]
theorem bump_set {ms : List Ms} {up : List Int} {l : List Nat} {i : Nat} {m : Ms} {u : Int} (h : ms[i]? = some m) (hu : up[i]? = some u) : (bumpM ms up l).set i { m with granted := u } = bumpM ms up (l ++ [i]) := by
  have hil := (List.getElem?_eq_some_iff.1 h).1
  apply List.ext_getElem?
  intro j
  rw [List.getElem?_set]
  by_cases hij : i = j
  · subst hij
    rw [if_pos rfl, if_pos (by rw [bump_len]; exact hil), bump_get h, if_pos (by simp), List.getD_eq_getElem?_getD, hu]
    rfl
  · rw [if_neg hij]
    simp only [bumpM, List.getElem?_mapIdx]
    cases ms[j]? with
    | none => rfl
    | some m' =>
      have : (j ∈ l ++ [i]) ↔ j ∈ l := by simp; omega
      simp only [Option.map_some, this]
/-- How much is ahead, with what is granted now. -/
def aheadS (ms : List Ms) (st : Gs) : Int := ((openL ms).map fun i => st.upto.getD i 0 - (ms.getD i default).hav).sum
theorem sum_up {f g : Nat → Int} {i : Nat} {d : Int} (hi : g i = f i + d) (ho : ∀ k, k ≠ i → g k = f k) : ∀ l : List Nat, l.Nodup → (i ∈ l → (l.map g).sum = (l.map f).sum + d) ∧ (i ∉ l → (l.map g).sum = (l.map f).sum)
  | [], _ => ⟨fun h => (by cases h), fun _ => rfl⟩
  | k :: l, hn => by
    obtain ⟨h1, h2⟩ := List.nodup_cons.1 hn
    obtain ⟨a, b⟩ := sum_up hi ho l h2
    rw [List.map_cons, List.map_cons, List.sum_cons, List.sum_cons]
    by_cases hk : k = i
    · subst hk
      have := b h1
      exact ⟨fun _ => by omega, fun h => absurd (List.mem_cons_self ..) h⟩
    · have hgk := ho k hk
      refine ⟨fun h => ?_, fun h => ?_⟩
      · have := a ((List.mem_cons.1 h).resolve_left fun e => hk e.symm)
        omega
      · have := b fun e => h (List.mem_cons_of_mem _ e)
        omega
theorem mem_open {ms : List Ms} {i : Nat} {m : Ms} (hm : ms[i]? = some m) (hp : mayP m) (ho : m.hav < m.total) : i ∈ openL ms := by
  unfold openL openTo
  rw [List.mem_filter, List.mem_range]
  exact ⟨(List.getElem?_eq_some_iff.1 hm).1, by simp [isOpen, hm, mayB_of hp, ho]⟩
theorem open_nodup (ms : List Ms) : (openL ms).Nodup := (open_sorted ms ms.length).imp (by intro a b h e; omega)
theorem aheadS_step {ms : List Ms} {st : Gs} (h : GsOk ms st) {i : Nat} {m : Ms} (hm : ms[i]? = some m) (hp : mayP m) (ho : m.hav < m.total) (ahead : Int) : aheadS ms (stepG ms st i ahead) + (stepG ms st i ahead).room = aheadS ms st + st.room := by
  obtain ⟨u, hu, _⟩ := h.at_ hm
  have hil : i < st.upto.length := (List.getElem?_eq_some_iff.1 hu).1
  have := (sum_up (f := fun k => st.upto.getD k 0 - (ms.getD k default).hav) (g := fun k => (stepG ms st i ahead).upto.getD k 0 - (ms.getD k default).hav) (i := i) (d := moreG ms st i ahead)
    (by simp only [stepG, List.getD_eq_getElem?_getD, List.getElem?_set_self hil, Option.getD_some]; omega)
    (fun k hk => by simp only [stepG, List.getD_eq_getElem?_getD, List.getElem?_set_ne (Ne.symm hk)]) (openL ms) (open_nodup ms)).1 (mem_open hm hp ho)
  unfold aheadS
  rw [this]
  simp only [stepG]
  omega
theorem aheadS_steps {ms : List Ms} (ahead : Int) : ∀ (l : List Nat) (st : Gs), GsOk ms st → (∀ i ∈ l, ∃ m, ms[i]? = some m ∧ mayP m ∧ m.hav < m.total) → aheadS ms (stepsG ms ahead l st) + (stepsG ms ahead l st).room = aheadS ms st + st.room
  | [], st, _, _ => rfl
  | i :: l, st, h, hl => by
    obtain ⟨m, h1, h2, h3⟩ := hl i (List.mem_cons_self ..)
    rw [stepsG, aheadS_steps ahead l _ (stepG_ok h h1 h2 h3 ahead) (fun j hj => hl j (List.mem_cons_of_mem _ hj)), aheadS_step h h1 h2 h3]
theorem room_step (ms : List Ms) {st : Gs} (i : Nat) (ahead : Int) : (stepG ms st i ahead).room ≤ st.room := by
  have : 0 ≤ moreG ms st i ahead := by unfold moreG; omega
  simp only [stepG]
  omega
theorem room_steps (ms : List Ms) (ahead : Int) : ∀ (l : List Nat) (st : Gs), (stepsG ms ahead l st).room ≤ st.room
  | [], st => Int.le_refl _
  | i :: l, st => Int.le_trans (room_steps ms ahead l _) (room_step ms i ahead)
theorem aheadS_start (ms : List Ms) (budget : Int) : aheadS ms (startG ms budget) = aheadZ ms := by
  unfold aheadS aheadZ aheadTo
  congr 1
  apply List.map_congr_left
  intro i hi
  obtain ⟨m, hm, _⟩ := open_mem hi
  simp [startG, List.getD_eq_getElem?_getD, hm]
/-- Old and new, ahead. -/
theorem aheadS_end (ms : List Ms) {k budget share : Int} (h0 : 0 ≤ budget) (h1 : budget ≤ 1099511627776) : aheadZ ms ≤ aheadS ms (endG ms k budget share) ∧ aheadS ms (endG ms k budget share) ≤ max (aheadZ ms) budget := by
  have hs := startG_ok ms h0 h1
  have hsh := shareG_ok ms (share := share) h0 h1
  have e1 : aheadS ms (shareG ms budget share) + (shareG ms budget share).room = aheadS ms (startG ms budget) + (startG ms budget).room ∧ (shareG ms budget share).room ≤ (startG ms budget).room := by
    unfold shareG
    split
    · rename_i h
      obtain ⟨m, a, b, c⟩ := oldest_mem h.2
      exact ⟨aheadS_step hs a b c _, room_step ms _ _⟩
    · exact ⟨rfl, Int.le_refl _⟩
  have e2 := aheadS_steps (budget / k) (firstK ms k) _ hsh firstK_mem
  have e3 := room_steps ms (budget / k) (firstK ms k) (shareG ms budget share)
  have e4 := (endG_ok ms (k := k) (share := share) h0 h1).room0
  have e5 := aheadS_start ms budget
  have e6 : (startG ms budget).room = max (budget - aheadZ ms) 0 := rfl
  unfold endG at e4 ⊢
  omega
/-- What is ahead of messages that go as far as they are granted now. -/
theorem ahead_bump {ms : List Ms} {st : Gs} (h : GsOk ms st) : aheadZ (bumpM ms st.upto st.met) = aheadS ms st := by
  have hget : ∀ (i : Nat) (m : Ms), ms[i]? = some m → ∃ u, st.upto[i]? = some u ∧ m.granted ≤ u ∧ (mayP m → u ≤ m.total) ∧ (bumpM ms st.upto st.met)[i]? = some { m with granted := u } := fun i m hm => by
    obtain ⟨u, hu, u1, u2, u3⟩ := h.at_ hm
    refine ⟨u, hu, u1, u2, ?_⟩
    rw [bump_get hm, List.getD_eq_getElem?_getD, hu]
    by_cases hi : i ∈ st.met
    · rw [if_pos hi]; rfl
    · rw [if_neg hi]
      have : u = m.granted := by
        by_cases hlt : m.granted < u
        · exact absurd (u3.2 hlt) hi
        · omega
      rw [this]
  have hmay : ∀ (i : Nat) (m : Ms) (u : Int), ms[i]? = some m → (bumpM ms st.upto st.met)[i]? = some { m with granted := u } → st.upto[i]? = some u → mayB { m with granted := u } = mayB m := fun i m u hm hb hu => by
    obtain ⟨u', hu', u1, u2, u3⟩ := h.at_ hm
    rw [hu] at hu'
    obtain rfl := Option.some.inj hu'
    by_cases hp : mayP m
    · rw [mayB_of hp, mayB_of]
      have := u2 hp
      unfold mayP at hp ⊢
      simp only
      omega
    · have hn : i ∉ st.met := fun e => by
        obtain ⟨m', hm', hp', _⟩ := h.mem i e
        rw [hm] at hm'
        obtain rfl := Option.some.inj hm'
        exact hp hp'
      have : u = m.granted := by
        by_cases hlt : m.granted < u
        · exact absurd (u3.2 hlt) hn
        · omega
      rw [this]
  have hopen : openL (bumpM ms st.upto st.met) = openL ms := by
    unfold openL openTo
    rw [bump_len]
    apply List.filter_congr
    intro i hi
    have hil := List.mem_range.1 hi
    have hm := List.getElem?_eq_getElem hil
    obtain ⟨u, hu, _, _, hb⟩ := hget i _ hm
    unfold isOpen
    rw [hb, hm]
    simp only
    rw [hmay i _ u hm hb hu]
  unfold aheadZ aheadS aheadTo
  rw [hopen]
  congr 1
  apply List.map_congr_left
  intro i hi
  obtain ⟨m, hm, _⟩ := open_mem hi
  obtain ⟨u, hu, _, _, hb⟩ := hget i m hm
  rw [List.getD_eq_getElem?_getD, List.getD_eq_getElem?_getD, List.getD_eq_getElem?_getD, hb, hu, hm]
  rfl
/-- Who was met stays, in order; nobody goes back. -/
theorem met_step (ms : List Ms) (st : Gs) (i : Nat) (ahead : Int) : ∃ r, (stepG ms st i ahead).met = st.met ++ r := by
  unfold stepG
  simp only
  split
  · exact ⟨_, rfl⟩
  · exact ⟨[], by simp⟩
theorem met_steps (ms : List Ms) (ahead : Int) : ∀ (l : List Nat) (st : Gs), ∃ r, (stepsG ms ahead l st).met = st.met ++ r
  | [], st => ⟨[], by simp [stepsG]⟩
  | i :: l, st => by
    obtain ⟨r, hr⟩ := met_step ms st i ahead
    obtain ⟨r', hr'⟩ := met_steps ms ahead l (stepG ms st i ahead)
    exact ⟨r ++ r', by rw [stepsG, hr', hr, List.append_assoc]⟩
theorem upto_step (ms : List Ms) (st : Gs) (i k : Nat) (ahead : Int) (hil : i < st.upto.length) : st.upto.getD k 0 ≤ (stepG ms st i ahead).upto.getD k 0 ∧ (k ≠ i → (stepG ms st i ahead).upto.getD k 0 = st.upto.getD k 0) := by
  have h0 : 0 ≤ moreG ms st i ahead := by unfold moreG; omega
  by_cases hk : k = i
  · subst hk
    refine ⟨?_, fun h => absurd rfl h⟩
    simp only [stepG, List.getD_eq_getElem?_getD, List.getElem?_set_self hil, Option.getD_some]
    omega
  · simp only [stepG, List.getD_eq_getElem?_getD, List.getElem?_set_ne (Ne.symm hk)]
    exact ⟨Int.le_refl _, fun _ => trivial⟩
theorem upto_steps (ms : List Ms) (ahead : Int) (k : Nat) : ∀ (l : List Nat) (st : Gs), (∀ i ∈ l, i < st.upto.length) → st.upto.getD k 0 ≤ (stepsG ms ahead l st).upto.getD k 0 ∧ (k ∉ l → (stepsG ms ahead l st).upto.getD k 0 = st.upto.getD k 0)
  | [], st, _ => ⟨Int.le_refl _, fun _ => rfl⟩
  | i :: l, st, hl => by
    obtain ⟨a, b⟩ := upto_step ms st i k ahead (hl i (List.mem_cons_self ..))
    obtain ⟨c, d⟩ := upto_steps ms ahead k l (stepG ms st i ahead) (fun j hj => by
      have : (stepG ms st i ahead).upto.length = st.upto.length := by simp [stepG]
      rw [this]
      exact hl j (List.mem_cons_of_mem _ hj))
    refine ⟨Int.le_trans a c, fun h => ?_⟩
    rw [stepsG, d (fun e => h (List.mem_cons_of_mem _ e)), b (fun e => h (e ▸ List.mem_cons_self ..))]
/-- The head of what is sorted. -/
theorem order_head {born : Bool} {ms : List Ms} {i : Nat} (hi : i ∈ openL ms) (hmin : ∀ k ∈ openL ms, ¬ lt4 (keyO born ms k) (keyO born ms i)) : ∃ r, orderL born ms = i :: r := by
  cases ho : orderL born ms with
  | nil =>
    have := (order_perm born ms).mem_iff.2 hi
    rw [ho] at this
    cases this
  | cons j r =>
    have hj : j ∈ openL ms := (order_perm born ms).mem_iff.1 (by rw [ho]; exact List.mem_cons_self ..)
    have hs := order_sorted born ms
    rw [ho] at hs
    have hmem : i ∈ j :: r := by rw [← ho]; exact (order_perm born ms).mem_iff.2 hi
    rcases List.mem_cons.1 hmem with e | e
    · exact ⟨r, by rw [e]⟩
    · have h1 := (List.pairwise_cons.1 hs).1 i e
      have h2 := hmin j hj
      exact ⟨r, by rw [keyO_inj h1 h2]⟩
theorem oldest_head {ms : List Ms} {i : Nat} (hi : i ∈ openL ms) (hmin : ∀ k ∈ openL ms, ¬ lt4 (keyO true ms k) (keyO true ms i)) : oldestZ ms = i := by
  obtain ⟨r, hr⟩ := order_head hi hmin
  unfold oldestZ
  rw [hr]
end Go.Proofs.Ytpcgfejdeanenaa
