/- What a host gets: what always holds (plain). -/
import Derived.Test.YtddnlbkocmpffaaZRecD
namespace Go.Proofs.Ytddnlbkocmpffaa
set_option linter.unusedVariables false
/-- The keys that are known. -/
structure KeysOf (R : RecA) (ks : List (Int × Int)) : Prop where
  nodup : ks.Nodup
  mem : ∀ k, k ∈ ks ↔ (R.tab k).isSome = true
  len : (ks.length : Int) = R.n
  known : ∀ i : Nat, i < 8 → ((ks.countP fun k => decide (k.1 = (i : Int)) : Nat) : Int) = R.known i
def RoomOk (R : RecA) (i : Nat) : Prop := ((R.win i).2.length : Int) + R.known i ≤ R.most ∨ (((R.win i).2.length : Int) + R.known i ≤ R.most + 1 ∧ (R.tab ((i : Int), (R.win i).1)).isSome = true)
structure RecOk (R : RecA) : Prop where
  m1 : 1 ≤ R.most
  m2 : R.most ≤ 10000
  x0 : 0 ≤ R.maxMsg
  x1 : R.maxMsg ≤ 20000
  keys : ∃ ks, KeysOf R ks
  key : ∀ (k : Int × Int) b, R.tab k = some b → ∃ i : Nat, i < 8 ∧ k.1 = (i : Int) ∧ 1 ≤ k.2 ∧ k.2 ≤ 1152921504606846976 ∧ BufOk b ∧ (b.bs.length : Int) ≤ R.maxMsg ∧ winIs (R.win i).1 (R.win i).2 k.2 = false
  win : ∀ i, i < 8 → WinOk (R.win i).1 (R.win i).2
  room : ∀ i, i < 8 → RoomOk R i
  cap : R.n ≤ R.most
theorem KeysOf.pos {R : RecA} {ks : List (Int × Int)} (h : KeysOf R ks) {i : Nat} (hi : i < 8) {id : Int} (hk : (R.tab ((i : Int), id)).isSome = true) : 1 ≤ R.known i := by
  rw [← h.known i hi]
  have : 0 < ks.countP fun k => decide (k.1 = (i : Int)) := List.countP_pos_iff.2 ⟨((i : Int), id), (h.mem _).2 hk, by simp⟩
  omega
theorem countP_two {α : Type} {p : α → Bool} : ∀ {l : List α} {a b : α}, a ∈ l → b ∈ l → a ≠ b → p a = true → p b = true → 2 ≤ l.countP p
  | x :: xs, a, b, ha, hb, hne, pa, pb => by
    rcases List.mem_cons.1 ha with rfl | ha'
    · rcases List.mem_cons.1 hb with rfl | hb'
      · exact absurd rfl hne
      · rw [List.countP_cons_of_pos pa]
        have : 0 < xs.countP p := List.countP_pos_iff.2 ⟨b, hb', pb⟩
        omega
    · rcases List.mem_cons.1 hb with rfl | hb'
      · rw [List.countP_cons_of_pos pb]
        have : 0 < xs.countP p := List.countP_pos_iff.2 ⟨a, ha', pa⟩
        omega
      · have := countP_two ha' hb' hne pa pb
        rw [List.countP_cons]
        omega
theorem KeysOf.two {R : RecA} {ks : List (Int × Int)} (h : KeysOf R ks) {i : Nat} (hi : i < 8) {a b : Int} (ha : (R.tab ((i : Int), a)).isSome = true) (hb : (R.tab ((i : Int), b)).isSome = true) (hne : a ≠ b) : 2 ≤ R.known i := by
  rw [← h.known i hi]
  have := countP_two (p := fun k : Int × Int => decide (k.1 = (i : Int))) ((h.mem _).2 ha) ((h.mem _).2 hb) (fun e => hne (by injection e)) (by simp) (by simp)
  omega
theorem KeysOf.known_le {R : RecA} {ks : List (Int × Int)} (h : KeysOf R ks) {i : Nat} (hi : i < 8) : 0 ≤ R.known i ∧ R.known i ≤ R.n := by
  rw [← h.known i hi, ← h.len]
  have := List.countP_le_length (p := fun k : Int × Int => decide (k.1 = (i : Int))) (l := ks)
  omega
section
variable {R : RecA}
theorem RecOk.knownB (h : RecOk R) {i : Nat} (hi : i < 8) : -1000000 ≤ R.known i ∧ R.known i ≤ 1000000 := by
  obtain ⟨ks, hk⟩ := h.keys
  have := hk.known_le hi
  have := h.cap
  have := h.m2
  omega
theorem winIs_false {m : Int} {l : List Int} {id : Int} (h0 : 1 ≤ id) (h : winIs m l id = false) : id ∉ l ∧ m ≤ id := by
  unfold winIs at h
  have : decide (id ≠ 0) = true := by simp; omega
  rw [this] at h
  simp at h
  exact ⟨h.1, by omega⟩
/-- There is room for a message that is known to end. -/
theorem RecOk.roomDone (h : RecOk R) {i : Nat} (hi : i < 8) {id : Int} (hk : (R.tab ((i : Int), id)).isSome = true) : ((R.win i).2.length : Int) < R.most ∨ id = (R.win i).1 := by
  obtain ⟨ks, hks⟩ := h.keys
  have h1 := hks.pos hi hk
  rcases h.room i hi with hr | ⟨hr, hm⟩
  · exact .inl (by omega)
  · by_cases he : id = (R.win i).1
    · exact .inr he
    · have := hks.two hi hk hm he
      exact .inl (by omega)
theorem KeysOf.open {ks : List (Int × Int)} (h : KeysOf R ks) {i : Nat} (hi : i < 8) {id : Int} {tot : Nat} (hk : R.tab ((i : Int), id) = none) : KeysOf (R.open i id tot) (((i : Int), id) :: ks) := by
  have hnot : ((i : Int), id) ∉ ks := fun e => by
    have := (h.mem _).1 e
    rw [hk] at this
    cases this
  refine ⟨List.nodup_cons.2 ⟨hnot, h.nodup⟩, fun k => ?_, ?_, fun j hj => ?_⟩
  · show _ ↔ (setBuf R.tab ((i : Int), id) (some (newBuf tot)) k).isSome = true
    unfold setBuf
    rw [List.mem_cons]
    by_cases e : k = ((i : Int), id)
    · rw [if_pos e]; simp [e]
    · rw [if_neg e]; simp [e, h.mem k]
  · show ((ks.length + 1 : Nat) : Int) = R.n + 1
    have := h.len
    omega
  · show _ = setAt R.known i (R.known i + 1) j
    unfold setAt
    have hkj := h.known j hj
    by_cases e : j = i
    · subst e
      rw [List.countP_cons_of_pos (by simp), if_pos rfl]
      omega
    · rw [List.countP_cons_of_neg (by simp; omega), if_neg e]
      exact hkj
theorem countP_erase {α : Type} [BEq α] [LawfulBEq α] {p : α → Bool} {l : List α} {a : α} (h : a ∈ l) : l.countP p = (l.erase a).countP p + if p a then 1 else 0 := by
  rw [(List.perm_cons_erase h).countP_eq p, List.countP_cons]
theorem KeysOf.forget {ks : List (Int × Int)} (h : KeysOf R ks) {i : Nat} (hi : i < 8) {id : Int} (hk : (R.tab ((i : Int), id)).isSome = true) : KeysOf (R.forget i id) (ks.erase ((i : Int), id)) := by
  have hin := (h.mem _).2 hk
  refine ⟨h.nodup.erase _, fun k => ?_, ?_, fun j hj => ?_⟩
  · show _ ↔ (setBuf R.tab ((i : Int), id) none k).isSome = true
    unfold setBuf
    rw [h.nodup.mem_erase_iff]
    by_cases e : k = ((i : Int), id)
    · rw [if_pos e]; simp [e]
    · rw [if_neg e]; simp [e, h.mem k]
  · show _ = R.n - 1
    rw [List.length_erase_of_mem hin]
    have := h.len
    have : 0 < ks.length := List.length_pos_of_mem hin
    omega
  · show _ = setAt R.known i (R.known i - 1) j
    unfold setAt
    have hkj := h.known j hj
    have hce := countP_erase (p := fun k : Int × Int => decide (k.1 = (j : Int))) hin
    by_cases e : j = i
    · subst e
      rw [if_pos rfl]
      simp at hce
      omega
    · rw [if_neg e]
      have : decide (((i : Int), id).1 = (j : Int)) = false := by simp; omega
      rw [this] at hce
      simp at hce
      omega
theorem KeysOf.setB {ks : List (Int × Int)} (h : KeysOf R ks) {i : Nat} {id : Int} {b : BufA} (hk : (R.tab ((i : Int), id)).isSome = true) : KeysOf (R.setB i id b) ks := by
  refine ⟨h.nodup, fun k => ?_, h.len, h.known⟩
  show _ ↔ (setBuf R.tab ((i : Int), id) (some b) k).isSome = true
  unfold setBuf
  by_cases e : k = ((i : Int), id)
  · rw [if_pos e, h.mem, e]; simp [hk]
  · rw [if_neg e]; exact h.mem k
theorem KeysOf.of {R' : RecA} {ks : List (Int × Int)} (h : KeysOf R ks) (h1 : R'.tab = R.tab) (h2 : R'.n = R.n) (h3 : R'.known = R.known) : KeysOf R' ks := ⟨h.nodup, fun k => by rw [h1]; exact h.mem k, by rw [h2]; exact h.len, fun i hi => by rw [h3]; exact h.known i hi⟩
theorem setBuf_same {f : Int × Int → Option BufA} {k : Int × Int} {b : Option BufA} : setBuf f k b k = b := if_pos rfl
theorem setBuf_ne {f : Int × Int → Option BufA} {k k' : Int × Int} {b : Option BufA} (h : k' ≠ k) : setBuf f k b k' = f k' := if_neg h
theorem RecOk.open (h : RecOk R) {i : Nat} (hi : i < 8) {id : Int} (h1 : 1 ≤ id) (h2 : id ≤ 1152921504606846976) {tot : Nat} (ht : (tot : Int) ≤ R.maxMsg) (hk : R.tab ((i : Int), id) = none) (hw : winIs (R.win i).1 (R.win i).2 id = false)
    (hg : R.n < R.most ∧ (¬ R.most ≤ ((R.win i).2.length : Int) + R.known i ∨ (R.win i).1 = id)) : RecOk (R.open i id tot) := by
  obtain ⟨ks, hks⟩ := h.keys
  refine ⟨h.m1, h.m2, h.x0, h.x1, ⟨_, hks.open hi hk⟩, fun k b hb => ?_, h.win, fun j hj => ?_, by show R.n + 1 ≤ R.most; omega⟩
  · change setBuf R.tab ((i : Int), id) (some (newBuf tot)) k = some b at hb
    by_cases e : k = ((i : Int), id)
    · subst e
      rw [setBuf_same] at hb
      obtain rfl := Option.some.inj hb
      have := h.x1
      refine ⟨i, hi, rfl, h1, h2, newBuf_ok (by omega), ?_, hw⟩
      show (((newBuf tot).bs.length : Nat) : Int) ≤ R.maxMsg
      simp [newBuf]; exact ht
    · rw [setBuf_ne e] at hb
      exact h.key k b hb
  · show RoomOk _ j
    unfold RoomOk
    show ((R.win j).2.length : Int) + setAt R.known i (R.known i + 1) j ≤ R.most ∨ (((R.win j).2.length : Int) + setAt R.known i (R.known i + 1) j ≤ R.most + 1 ∧ (setBuf R.tab ((i : Int), id) (some (newBuf tot)) ((j : Int), (R.win j).1)).isSome = true)
    by_cases e : j = i
    · subst e
      rw [setAt, if_pos rfl]
      rcases hg.2 with hg | hg
      · exact .inl (by omega)
      · rcases h.room j hj with hr | ⟨hr, hm⟩
        · refine .inr ⟨by omega, ?_⟩
          rw [hg, setBuf_same]; rfl
        · rw [hg, hk] at hm; cases hm
    · rw [setAt, if_neg e, setBuf_ne (fun e2 => e (by injection e2; omega))]
      exact h.room j hj
theorem RecOk.setB (h : RecOk R) {i : Nat} {id : Int} {b b' : BufA} (hk : R.tab ((i : Int), id) = some b) (hb : BufOk b') (hl : b'.bs.length = b.bs.length) : RecOk (R.setB i id b') := by
  obtain ⟨ks, hks⟩ := h.keys
  have hs : (R.tab ((i : Int), id)).isSome = true := by rw [hk]; rfl
  refine ⟨h.m1, h.m2, h.x0, h.x1, ⟨_, hks.setB hs⟩, fun k c hc => ?_, h.win, fun j hj => ?_, h.cap⟩
  · change setBuf R.tab ((i : Int), id) (some b') k = some c at hc
    by_cases e : k = ((i : Int), id)
    · subst e
      rw [setBuf_same] at hc
      obtain rfl := Option.some.inj hc
      obtain ⟨j, k1, k2, k3, k4, k5, k6, k7⟩ := h.key _ _ hk
      exact ⟨j, k1, k2, k3, k4, hb, by rw [hl]; exact k6, k7⟩
    · rw [setBuf_ne e] at hc
      exact h.key k c hc
  · unfold RoomOk
    show ((R.win j).2.length : Int) + R.known j ≤ R.most ∨ (((R.win j).2.length : Int) + R.known j ≤ R.most + 1 ∧ (setBuf R.tab ((i : Int), id) (some b') ((j : Int), (R.win j).1)).isSome = true)
    rcases h.room j hj with hr | ⟨hr, hm⟩
    · exact .inl hr
    · refine .inr ⟨hr, ?_⟩
      by_cases e : ((j : Int), (R.win j).1) = ((i : Int), id)
      · rw [e, setBuf_same]; rfl
      · rw [setBuf_ne e]; exact hm
theorem RecOk.forget (h : RecOk R) {i : Nat} (hi : i < 8) {id : Int} (hk : (R.tab ((i : Int), id)).isSome = true) : RecOk (R.forget i id) := by
  obtain ⟨ks, hks⟩ := h.keys
  have hpos := hks.pos hi hk
  refine ⟨h.m1, h.m2, h.x0, h.x1, ⟨_, hks.forget hi hk⟩, fun k c hc => ?_, h.win, fun j hj => ?_, by show R.n - 1 ≤ R.most; have := h.cap; omega⟩
  · change setBuf R.tab ((i : Int), id) none k = some c at hc
    by_cases e : k = ((i : Int), id)
    · rw [e, setBuf_same] at hc; cases hc
    · rw [setBuf_ne e] at hc
      exact h.key k c hc
  · unfold RoomOk
    show ((R.win j).2.length : Int) + setAt R.known i (R.known i - 1) j ≤ R.most ∨ (((R.win j).2.length : Int) + setAt R.known i (R.known i - 1) j ≤ R.most + 1 ∧ (setBuf R.tab ((i : Int), id) none ((j : Int), (R.win j).1)).isSome = true)
    by_cases e : j = i
    · subst e
      rw [setAt, if_pos rfl]
      rcases h.room j hj with hr | ⟨hr, hm⟩ <;> exact .inl (by omega)
    · rw [setAt, if_neg e, setBuf_ne (fun e2 => e (by injection e2; omega))]
      exact h.room j hj
theorem goesL_id {m : Int} : ∀ {l : List Int}, (∀ r ∈ l, m < r) → goesL m l = (m, l)
  | [], _ => rfl
  | r :: rs, h => by
    unfold goesL
    rw [if_neg (by have := h r (List.mem_cons_self ..); omega)]
theorem doneL_room {m : Int} {l : List Int} {id : Int} (h : WinOk m l) (hn : id ∉ l) (hm : m ≤ id) : (id = m ∧ (doneL m l id).2.length ≤ l.length) ∨ (id ≠ m ∧ doneL m l id = (m, putIn l id)) := by
  unfold doneL
  by_cases e : id = m
  · refine .inl ⟨e, ?_⟩
    have := goesL_first (l := putIn l id) (m := m) (r := id) ((putIn_mem l id id).2 (.inl rfl)) (by omega) (putIn_rise h.rise hn)
    rw [putIn_len] at this
    omega
  · refine .inr ⟨e, goesL_id fun r hr => ?_⟩
    rcases (putIn_mem l id r).1 hr with rfl | hr
    · omega
    · exact (h.beyond r hr).1
theorem RecOk.done (h : RecOk R) {i : Nat} (hi : i < 8) {id : Int} (h1 : 1 ≤ id) (h2 : id ≤ 1152921504606846976) {b b' : BufA} (hk : R.tab ((i : Int), id) = some b) (hb : BufOk b') (hl : b'.bs.length = b.bs.length) : RecOk (R.done i id b') := by
  have hw : winIs (R.win i).1 (R.win i).2 id = false := by
    obtain ⟨j, k1, k2, -, -, -, -, k7⟩ := h.key _ _ hk
    have : i = j := by simp at k2; omega
    subst this
    exact k7
  obtain ⟨hn, hm⟩ := winIs_false h1 hw
  have hwo := h.win i hi
  have hB := h.setB hk hb hl
  have hs : ((R.setB i id b').tab ((i : Int), id)).isSome = true := by show (setBuf _ _ _ _).isSome = true; rw [setBuf_same]; rfl
  have hF := hB.forget hi hs
  obtain ⟨ks, hks⟩ := h.keys
  have hpos := hks.pos hi (id := id) (by rw [hk]; rfl)
  refine ⟨h.m1, h.m2, h.x0, h.x1, ?_, fun k c hc => ?_, fun j hj => ?_, fun j hj => ?_, hF.cap⟩
  · obtain ⟨ks', hk'⟩ := hF.keys
    exact ⟨ks', hk'.of rfl rfl rfl⟩
  · obtain ⟨j, k1, k2, k3, k4, k5, k6, k7⟩ := hF.key k c hc
    refine ⟨j, k1, k2, k3, k4, k5, k6, ?_⟩
    show winIs (setAt R.win i (doneL (R.win i).1 (R.win i).2 id) j).1 (setAt R.win i (doneL (R.win i).1 (R.win i).2 id) j).2 k.2 = false
    unfold setAt
    by_cases e : j = i
    · subst e
      rw [if_pos rfl, doneL_is _ _ _ _ (by omega)]
      have hne : k.2 ≠ id := fun e => by
        have : k = ((j : Int), id) := Prod.ext k2 e
        have hc' : setBuf (setBuf R.tab ((j : Int), id) (some b')) ((j : Int), id) none k = some c := hc
        rw [this, setBuf_same] at hc'
        cases hc'
      have k7' : winIs (R.win j).1 (R.win j).2 k.2 = false := k7
      rw [k7']; simp [hne]
    · rw [if_neg e]; exact k7
  · show WinOk (setAt R.win i _ j).1 (setAt R.win i _ j).2
    unfold setAt
    by_cases e : j = i
    · subst e
      rw [if_pos rfl]
      exact doneL_ok hwo h1 h2 hn
    · rw [if_neg e]; exact h.win j hj
  · by_cases e : j = i
    · subst e
      unfold RoomOk
      show ((setAt R.win j (doneL (R.win j).1 (R.win j).2 id) j).2.length : Int) + setAt R.known j (R.known j - 1) j ≤ R.most ∨ (((setAt R.win j (doneL (R.win j).1 (R.win j).2 id) j).2.length : Int) + setAt R.known j (R.known j - 1) j ≤ R.most + 1 ∧ (setBuf (setBuf R.tab ((j : Int), id) (some b')) ((j : Int), id) none ((j : Int), (setAt R.win j (doneL (R.win j).1 (R.win j).2 id) j).1)).isSome = true)
      simp only [setAt, if_pos]
      have hr := h.room j hj
      unfold RoomOk at hr
      rcases doneL_room hwo hn hm with ⟨e1, e2⟩ | ⟨e1, e2⟩
      · rcases hr with hr | ⟨hr, -⟩ <;> exact .inl (by omega)
      · rw [e2]
        have hpl := putIn_len (R.win j).2 id
        rcases hr with hr | ⟨hr, hr2⟩
        · exact .inl (by simp only [hpl]; omega)
        · refine .inr ⟨by simp only [hpl]; omega, ?_⟩
          have hne : ((j : Int), (R.win j).1) ≠ ((j : Int), id) := fun e => e1 (by injection e with _ e; exact e.symm)
          rw [setBuf_ne hne, setBuf_ne hne]
          exact hr2
    · have hr := hF.room j hj
      unfold RoomOk at hr ⊢
      show ((setAt R.win i _ j).2.length : Int) + _ ≤ _ ∨ (((setAt R.win i _ j).2.length : Int) + _ ≤ _ ∧ (RecA.tab _ ((j : Int), (setAt R.win i _ j).1)).isSome = true)
      unfold setAt
      rw [if_neg e]
      exact hr
theorem RecOk.put (h : RecOk R) {i : Nat} (hi : i < 8) {id : Int} (h1 : 1 ≤ id) (h2 : id ≤ 1152921504606846976) {b : BufA} {off : Nat} {d : List Int} (hk : R.tab ((i : Int), id) = some b) (hd : Byt d) (ho : off + d.length ≤ b.bs.length) : RecOk (R.put i id b off d).1 := by
  have hb : BufOk b := by
    obtain ⟨j, -, -, -, -, k5, -⟩ := h.key _ _ hk
    exact k5
  unfold RecA.put
  split
  · exact h
  · split
    · exact h.done hi h1 h2 hk (putBuf_ok hb hd ho) (putBuf_len ho)
    · exact h.setB hk (putBuf_ok hb hd ho) (putBuf_len ho)
theorem RecOk.data (h : RecOk R) {i : Nat} (hi : i < 8) {id : Int} (h1 : 1 ≤ id) (h2 : id ≤ 1152921504606846976) {tot off : Nat} {d : List Int} (hd : Byt d) (ho : off + d.length ≤ tot) : RecOk (R.data i id tot off d).1 := by
  unfold RecA.data
  split
  · exact h
  · rename_i hw
    split
    · exact h
    · rename_i hm
      cases hk : R.tab ((i : Int), id) with
      | some b =>
        dsimp only
        split
        · rename_i hl
          exact h.put hi h1 h2 hk hd (by omega)
        · exact h
      | none =>
        dsimp only
        split
        · rename_i hg
          refine (h.open hi h1 h2 (tot := tot) (by omega) hk (by simpa using hw) hg).put hi h1 h2 (b := newBuf tot) ?_ hd (by simpa [newBuf] using ho)
          show setBuf _ _ _ _ = _
          rw [setBuf_same]
        · exact h
end
end Go.Proofs.Ytddnlbkocmpffaa
