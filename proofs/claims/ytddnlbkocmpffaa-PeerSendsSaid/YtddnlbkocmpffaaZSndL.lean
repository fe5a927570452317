/- Senders and the document's Senders, each call as one step of the same state. -/
import Derived.Test.YtddnlbkocmpffaaZSndH
import Derived.Test.YtddnlbkocmpffaaZRsnE
import Derived.Test.YtddnlbkocmpffaaZRsnO
import Derived.Test.YtddnlbkocmpffaaZPeeI
namespace Go.Proofs.Ytddnlbkocmpffaa
open Go.RowKit
set_option linter.unusedVariables false
set_option maxHeartbeats 4000000
set_option maxRecDepth 100000
def posA (l : List OutA) (id : Int) : Option Nat := l.findIdx? fun a => a.id == id
theorem posA_none {l : List OutA} {id : Int} (h : posA l id = none) : id ∉ idsA l := fun hm => by
  obtain ⟨a, ha, e⟩ := List.mem_map.1 hm
  have := List.findIdx?_eq_none_iff.1 h a ha
  simp [e] at this
theorem posA_some {l : List OutA} {id : Int} {k : Nat} (h : posA l id = some k) : ∃ a, l[k]? = some a ∧ a.id = id := by
  obtain ⟨h1, h2, -⟩ := List.findIdx?_eq_some_iff_getElem.1 h
  exact ⟨l[k], List.getElem?_eq_getElem h1, by simpa using h2⟩
def SndA.endD (S : SndA) (id st : Int) : Int × SndA :=
  match posA S.l id with
  | none => (5, S)
  | some k => match S.l[k]? with
    | none => (5, S)
    | some a => if st < 2 ∨ 4 < st then (1, S) else if a.st = 1 then (0, { S with l := S.l.set k { a with st := st } }) else (8, S)
def SndA.forD (S : SndA) (id : Int) : Int × SndA :=
  match posA S.l id with
  | none => (5, S)
  | some k => match S.l[k]? with
    | none => (5, S)
    | some a => if a.st = 1 then (1, S) else (0, { S with l := S.l.take k ++ S.l.drop (k + 1) })
def SndA.subD (S : SndA) (dst : Int) (d : List Int) : (Int × Int) × SndA :=
  if dst < 0 ∨ 8 ≤ dst then ((0, 1), S) else if S.maxMsg < (d.length : Int) then ((0, 3), S) else if S.most ≤ (S.l.length : Int) then ((0, 4), S) else if S.gm ≤ S.gl then ((0, 7), S) else ((S.gl + 1, 0), S.submit dst d)
def SndA.getD (S : SndA) (id : Int) : Option OutA :=
  match posA S.l id with
  | none => none
  | some k => S.l[k]?
structure SndOk (S : SndA) : Prop where
  ids : (idsA S.l).Pairwise (· < ·)
  le : ∀ a ∈ S.l, a.id ≤ S.gl
  gl0 : 0 ≤ S.gl
  glm : S.gl ≤ S.gm
  gm : S.gm ≤ 1152921504606846976
  len : (S.l.length : Int) ≤ S.most
  most : S.most ≤ 10000
  msg : S.maxMsg ≤ 20000
  dat : ∀ a ∈ S.l, (a.data.length : Int) ≤ S.maxMsg
theorem SndOk.new {most maxMsg last : Int} (h : sndMay most maxMsg last) : SndOk (newSnd most maxMsg last) := by
  obtain ⟨⟨h1, h2, h3, h4⟩, h5, h6⟩ := h
  exact ⟨List.Pairwise.nil, fun a ha => (by cases ha), Int.le_refl _, by show (0 : Int) ≤ last; omega, h6, by show ((0 : Nat) : Int) ≤ most; omega, h2, h4, fun a ha => (by cases ha)⟩
theorem SndOk.n {S : SndA} (h : SndOk S) : S.l.length ≤ 1000000 := by have := h.len; have := h.most; omega
theorem SndOk.endD {S : SndA} (h : SndOk S) (id st : Int) : SndOk (S.endD id st).2 := by
  unfold SndA.endD
  split
  · exact h
  · split
    · exact h
    · rename_i k hpos xo a ha
      split
      · exact h
      · split
        · have hm := List.mem_of_getElem? ha
          have hids : idsA (S.l.set k { a with st := st }) = idsA S.l := by
            unfold idsA
            rw [List.map_set]
            refine List.ext_getElem? fun j => ?_
            by_cases e : k = j
            · subst e
              have hk := (List.getElem?_eq_some_iff.1 ha).1
              rw [List.getElem?_set_self (by rw [List.length_map]; exact hk), List.getElem?_map, ha]
              rfl
            · rw [List.getElem?_set_ne e]
          refine ⟨by rw [hids]; exact h.ids, fun b hb => ?_, h.gl0, h.glm, h.gm, by rw [List.length_set]; exact h.len, h.most, h.msg, fun b hb => ?_⟩
          · rcases List.mem_or_eq_of_mem_set hb with hb | rfl
            · exact h.le b hb
            · exact h.le a hm
          · rcases List.mem_or_eq_of_mem_set hb with hb | rfl
            · exact h.dat b hb
            · exact h.dat a hm
        · exact h
theorem SndOk.forD {S : SndA} (h : SndOk S) (id : Int) : SndOk (S.forD id).2 := by
  unfold SndA.forD
  split
  · exact h
  · split
    · exact h
    · rename_i k hpos xo a ha
      split
      · exact h
      · have hmem : ∀ b ∈ S.l.take k ++ S.l.drop (k + 1), b ∈ S.l := fun b hb => by
          rcases List.mem_append.1 hb with hb | hb
          · exact List.mem_of_mem_take hb
          · exact List.mem_of_mem_drop hb
        have hsub : (S.l.take k ++ S.l.drop (k + 1)).Sublist S.l := by
          have h1 : (S.l.take k ++ S.l.drop (k + 1)).Sublist (S.l.take k ++ S.l.drop k) := List.Sublist.append (List.Sublist.refl _) (by
            rw [← List.drop_drop]
            exact List.drop_sublist 1 _)
          rwa [List.take_append_drop] at h1
        refine ⟨h.ids.sublist (hsub.map _), fun b hb => h.le b (hmem b hb), h.gl0, h.glm, h.gm, ?_, h.most, h.msg, fun b hb => h.dat b (hmem b hb)⟩
        have h2 := hsub.length_le
        have h3 := h.len
        show ((S.l.take k ++ S.l.drop (k + 1)).length : Int) ≤ S.most
        omega
theorem SndOk.subD {S : SndA} (h : SndOk S) (dst : Int) (d : List Int) : SndOk (S.subD dst d).2 := by
  unfold SndA.subD
  split
  · exact h
  · split
    · exact h
    · rename_i _ hd
      split
      · exact h
      · rename_i hm
        split
        · exact h
        · rename_i hg
          have hl := h.len
          refine ⟨?_, fun b hb => ?_, by have := h.gl0; show 0 ≤ S.gl + 1; omega, by show S.gl + 1 ≤ S.gm; omega, h.gm, ?_, h.most, h.msg, fun b hb => ?_⟩
          · show (idsA (S.l ++ [_])).Pairwise (· < ·)
            unfold idsA
            rw [List.map_append, List.pairwise_append]
            refine ⟨h.ids, by simp, fun x hx y hy => ?_⟩
            obtain ⟨b, hb, rfl⟩ := List.mem_map.1 hx
            have := h.le b hb
            simp at hy
            omega
          · change b ∈ S.l ++ [_] at hb
            show b.id ≤ S.gl + 1
            rcases List.mem_append.1 hb with hb | hb
            · have := h.le b hb
              omega
            · simp at hb
              subst hb
              exact Int.le_refl _
          · show ((S.l ++ [_]).length : Int) ≤ S.most
            rw [List.length_append, List.length_singleton]
            omega
          · change b ∈ S.l ++ [_] at hb
            show (b.data.length : Int) ≤ S.maxMsg
            rcases List.mem_append.1 hb with hb | hb
            · exact h.dat b hb
            · simp at hb
              subst hb
              show (d.length : Int) ≤ S.maxMsg
              omega
section
variable {sb rb B : Nat} {S : SndA} {w w' : World} {s : Nat → Prop} {lv : Value} {ovs : List OutV}
theorem SndO.laterE (h : SndO sb S w s) (m : Mod NoB w w') : SndO sb S w' (Ext s w w') := by
  obtain ⟨ad, h1, h2⟩ := h
  exact ⟨ad, (h1.later m).up fun _ e => .inl e, h2⟩
theorem modNo (m : Mod NoB w w') {Z : Nat → Prop} : Mod Z w w' := m.mono fun _ _ e => e.elim
theorem endU (h : SndO sb S w s) (hok : SndOk S) (id st : Int) : Calls Try.prog 18 #[.pointer (some ⟨sb, 0, none⟩), .int .u64 id, .int .i64 st] w fun e w' => e = .returned (.int .i64 (S.endD id st).1) ∧ SndO sb (S.endD id st).2 w' (Ext s w w') ∧ Mod s w w' := by
  have h' := h
  obtain ⟨ad, hx, hl⟩ := h'
  rcases hp : posA S.l id with _ | k
  · refine (endNo hx hl id st hok.ids hok.n (posA_none hp)).mono ?_
    rintro e w' ⟨rfl, m⟩
    unfold SndA.endD
    rw [hp]
    exact ⟨rfl, h.laterE m, modNo m⟩
  · obtain ⟨a, ha, hid⟩ := posA_some hp
    have hD : S.endD id st = if st < 2 ∨ 4 < st then (1, S) else if a.st = 1 then (0, { S with l := S.l.set k { a with st := st } }) else (8, S) := by
      unfold SndA.endD
      rw [hp]
      simp only [ha]
    rw [hD]
    by_cases h1 : st < 2 ∨ 4 < st
    · rw [if_pos h1]
      refine (endArg hx hl id st hok.ids hok.n ha hid h1).mono ?_
      rintro e w' ⟨rfl, m⟩
      exact ⟨rfl, h.laterE m, modNo m⟩
    · rw [if_neg h1]
      by_cases h2 : a.st = 1
      · rw [if_pos h2]
        exact endYes hx hl id st hok.ids hok.n ha hid (by omega) h2
      · rw [if_neg h2]
        refine (endLate hx hl id st hok.ids hok.n ha hid (by omega) h2).mono ?_
        rintro e w' ⟨rfl, m⟩
        exact ⟨rfl, h.laterE m, modNo m⟩
theorem forU (h : SndO sb S w s) (hok : SndOk S) (id : Int) : Calls Try.prog 20 #[.pointer (some ⟨sb, 0, none⟩), .int .u64 id] w fun e w' => e = .returned (.int .i64 (S.forD id).1) ∧ SndO sb (S.forD id).2 w' (Ext s w w') ∧ Mod s w w' := by
  have h' := h
  obtain ⟨ad, hx, hl⟩ := h'
  rcases hp : posA S.l id with _ | k
  · refine (sforgetNo hx hl id hok.ids hok.n (posA_none hp)).mono ?_
    rintro e w' ⟨rfl, m⟩
    unfold SndA.forD
    rw [hp]
    exact ⟨rfl, h.laterE m, modNo m⟩
  · obtain ⟨a, ha, hid⟩ := posA_some hp
    have hD : S.forD id = if a.st = 1 then (1, S) else (0, { S with l := S.l.take k ++ S.l.drop (k + 1) }) := by
      unfold SndA.forD
      rw [hp]
      simp only [ha]
    rw [hD]
    by_cases h2 : a.st = 1
    · rw [if_pos h2]
      refine (sforgetArg hx hl id hok.ids hok.n ha hid h2).mono ?_
      rintro e w' ⟨rfl, m⟩
      exact ⟨rfl, h.laterE m, modNo m⟩
    · rw [if_neg h2]
      exact sforgetYes hx hl id hok.ids hok.n ha hid h2
theorem subU (h : SndO sb S w s) (hok : SndOk S) (dst : Int) (d : List Int) (dv : Value) (hdv : Has w w.heap.size 1 encB dv d) (hap : 0 < d.length → ∀ k, dv.ownBlock = some k → ¬ s k) :
    Calls Try.prog 16 #[.pointer (some ⟨sb, 0, none⟩), .int .i64 dst, dv] w fun e w' => e = .returned (.tuple #[.int .u64 (S.subD dst d).1.1, .int .i64 (S.subD dst d).1.2]) ∧ SndO sb (S.subD dst d).2 w' (Ext s w w') ∧ Mod s w w' := by
  have h' := h
  obtain ⟨ad, hx, hl⟩ := h'
  unfold SndA.subD
  by_cases h1 : dst < 0 ∨ 8 ≤ dst
  · rw [if_pos h1]
    obtain ⟨A, cap, rfl, -⟩ := hdv.form
    refine (submitArg _ dst A _ cap w h1).mono ?_
    rintro e w' ⟨rfl, rfl⟩
    exact ⟨rfl, h.laterE (Mod.refl _ _), Mod.refl _ _⟩
  · rw [if_neg h1]
    by_cases h2 : S.maxMsg < (d.length : Int)
    · rw [if_pos h2]
      obtain ⟨A, cap, rfl, -⟩ := hdv.form
      refine (submitBig hx dst A _ cap (by omega) h2).mono ?_
      rintro e w' ⟨rfl, rfl⟩
      exact ⟨rfl, h.laterE (Mod.refl _ _), Mod.refl _ _⟩
    · rw [if_neg h2]
      by_cases h3 : S.most ≤ (S.l.length : Int)
      · rw [if_pos h3]
        obtain ⟨A, cap, rfl, -⟩ := hdv.form
        refine (submitFull hx hl dst A _ cap (by omega) h2 h3).mono ?_
        rintro e w' ⟨rfl, m⟩
        exact ⟨rfl, h.laterE m, modNo m⟩
      · rw [if_neg h3]
        by_cases h4 : S.gm ≤ S.gl
        · rw [if_pos h4]
          obtain ⟨A, cap, rfl, -⟩ := hdv.form
          refine (submitSpent hx hl dst A _ cap (by omega) h2 h3 h4).mono ?_
          rintro e w' ⟨rfl, m⟩
          exact ⟨rfl, h.laterE m, modNo m⟩
        · rw [if_neg h4]
          exact submitW0 hx hl dst d dv hdv hap (by omega) h2 hok.msg h3 hok.most (by omega) hok.gl0 hok.gm
/-- What a 'Get' tells. -/
def getV (o : Option OutA) (v : Value) : Value := match o with
  | none => .tuple #[.agg #[.int .u64 0, .int .i64 0, v, .int .i64 0, .bool false], .bool false]
  | some a => .tuple #[.agg #[.int .u64 a.id, .int .i64 a.dst, v, .int .i64 a.st, .bool (a.st == 2)], .bool true]
def getR (o : Option OutA) (v : Value) : Value := match o with
  | none => .tuple #[.agg #[.int .u64 0, .int .i64 0, v, .int .i64 0], .bool false]
  | some a => .tuple #[.agg #[.int .u64 a.id, .int .i64 a.dst, v, .int .i64 a.st], .bool true]
def datD (o : Option OutA) : List Int := match o with
  | none => []
  | some a => a.data
theorem getU (h : SndO sb S w s) (hok : SndOk S) (id : Int) : Calls Try.prog 22 #[.pointer (some ⟨sb, 0, none⟩), .int .u64 id] w fun e w' => (∃ v, e = .returned (getV (S.getD id) v) ∧ Has w' w'.heap.size 1 encB v (datD (S.getD id))) ∧ Mod NoB w w' := by
  have h' := h
  obtain ⟨ad, hx, hl⟩ := h'
  unfold SndA.getD
  rcases hp : posA S.l id with _ | k
  · refine (getNo hx hl id (by rw [hx.ids]; exact hok.ids) (by rw [hx.lens]; exact hok.n) (by rw [hx.ids]; exact posA_none hp)).mono ?_
    rintro e w' ⟨rfl, m⟩
    exact ⟨⟨_, rfl, Has.nil⟩, m⟩
  · obtain ⟨a, ha, hid⟩ := posA_some hp
    simp only [ha]
    have hm := hok.dat a (List.mem_of_getElem? ha)
    have := hok.msg
    refine (getYes hx hl id (by rw [hx.ids]; exact hok.ids) (by rw [hx.lens]; exact hok.n) ha hid (by omega)).mono ?_
    rintro e w' ⟨⟨v, rfl, ho⟩, m⟩
    exact ⟨⟨v, rfl, ho.has⟩, m⟩
theorem rendU (h : RSnd B rb lv ovs S w) (hok : SndOk S) (id st : Int) : Calls Try.prog 19 #[.pointer (some ⟨rb, 0, none⟩), .int .u64 id, .int .i64 st] w fun e w' => e = .returned (.int .i64 (S.endD id st).1) ∧ (∃ lv' ovs', RSnd B rb lv' ovs' (S.endD id st).2 w' ∧ ∀ k, lv'.ownBlock = some k → w.heap.size ≤ k ∨ lv.ownBlock = some k) ∧ Mod (fun k => k = rb) w w' := by
  rcases hp : posA S.l id with _ | k
  · refine (rendNo h id st hok.n (posA_none hp)).mono ?_
    rintro e w' ⟨rfl, rfl⟩
    unfold SndA.endD
    rw [hp]
    exact ⟨rfl, ⟨_, _, h, fun k e => .inr e⟩, Mod.refl _ _⟩
  · obtain ⟨a, ha, hid⟩ := posA_some hp
    have hD : S.endD id st = if st < 2 ∨ 4 < st then (1, S) else if a.st = 1 then (0, { S with l := S.l.set k { a with st := st } }) else (8, S) := by
      unfold SndA.endD
      rw [hp]
      simp only [ha]
    rw [hD]
    by_cases h1 : st < 2 ∨ 4 < st
    · rw [if_pos h1]
      refine (rendArg h id st hok.ids hok.n ha hid h1).mono ?_
      rintro e w' ⟨rfl, rfl⟩
      exact ⟨rfl, ⟨_, _, h, fun k e => .inr e⟩, Mod.refl _ _⟩
    · rw [if_neg h1]
      by_cases h2 : a.st = 1
      · rw [if_pos h2]
        refine (rendYes h id st hok.ids hok.n ha hid (by omega) h2).mono ?_
        rintro e w' ⟨rfl, ⟨lv', ovs', q1, q2⟩, m⟩
        exact ⟨rfl, ⟨lv', ovs', q1, fun k e => .inl (q2 k e)⟩, m⟩
      · rw [if_neg h2]
        refine (rendLate h id st hok.ids hok.n ha hid (by omega) h2).mono ?_
        rintro e w' ⟨rfl, rfl⟩
        exact ⟨rfl, ⟨_, _, h, fun k e => .inr e⟩, Mod.refl _ _⟩
theorem rforU (h : RSnd B rb lv ovs S w) (hok : SndOk S) (id : Int) : Calls Try.prog 21 #[.pointer (some ⟨rb, 0, none⟩), .int .u64 id] w fun e w' => e = .returned (.int .i64 (S.forD id).1) ∧ (∃ lv' ovs', RSnd B rb lv' ovs' (S.forD id).2 w' ∧ ∀ k, lv'.ownBlock = some k → w.heap.size ≤ k ∨ lv.ownBlock = some k) ∧ Mod (fun k => k = rb) w w' := by
  rcases hp : posA S.l id with _ | k
  · refine (rforgetNo h id hok.n (posA_none hp)).mono ?_
    rintro e w' ⟨rfl, rfl⟩
    unfold SndA.forD
    rw [hp]
    exact ⟨rfl, ⟨_, _, h, fun k e => .inr e⟩, Mod.refl _ _⟩
  · obtain ⟨a, ha, hid⟩ := posA_some hp
    have hD : S.forD id = if a.st = 1 then (1, S) else (0, { S with l := S.l.take k ++ S.l.drop (k + 1) }) := by
      unfold SndA.forD
      rw [hp]
      simp only [ha]
    rw [hD]
    by_cases h2 : a.st = 1
    · rw [if_pos h2]
      refine (rforgetArg h id hok.ids hok.n ha hid h2).mono ?_
      rintro e w' ⟨rfl, rfl⟩
      exact ⟨rfl, ⟨_, _, h, fun k e => .inr e⟩, Mod.refl _ _⟩
    · rw [if_neg h2]
      refine (rforgetYes h id hok.ids hok.n ha hid h2).mono ?_
      rintro e w' ⟨rfl, ⟨lv', ovs', q1, q2⟩, m⟩
      exact ⟨rfl, ⟨lv', ovs', q1, fun k e => .inl (q2 k e)⟩, m⟩
theorem rsubU (h : RSnd B rb lv ovs S w) (hok : SndOk S) (dst : Int) (d : List Int) (dv : Value) (one : dv.oneCell' = true) (hdv : Has w B 1 encB dv d) :
    Calls Try.prog 17 #[.pointer (some ⟨rb, 0, none⟩), .int .i64 dst, dv] w fun e w' => e = .returned (.tuple #[.int .u64 (S.subD dst d).1.1, .int .i64 (S.subD dst d).1.2]) ∧ (∃ lv' ovs', RSnd B rb lv' ovs' (S.subD dst d).2 w' ∧ ∀ k, lv'.ownBlock = some k → w.heap.size ≤ k ∨ lv.ownBlock = some k) ∧ Mod (fun k => k = rb) w w' := by
  unfold SndA.subD
  by_cases h1 : dst < 0 ∨ 8 ≤ dst
  · rw [if_pos h1]
    obtain ⟨A, cap, rfl, -⟩ := hdv.form
    refine (rsubArg _ dst A _ cap w h1).mono ?_
    rintro e w' ⟨rfl, rfl⟩
    exact ⟨rfl, ⟨_, _, h, fun k e => .inr e⟩, Mod.refl _ _⟩
  · rw [if_neg h1]
    by_cases h2 : S.maxMsg < (d.length : Int)
    · rw [if_pos h2]
      obtain ⟨A, cap, rfl, -⟩ := hdv.form
      refine (rsubBig h dst A _ cap (by omega) h2).mono ?_
      rintro e w' ⟨rfl, rfl⟩
      exact ⟨rfl, ⟨_, _, h, fun k e => .inr e⟩, Mod.refl _ _⟩
    · rw [if_neg h2]
      by_cases h3 : S.most ≤ (S.l.length : Int)
      · rw [if_pos h3]
        obtain ⟨A, cap, rfl, -⟩ := hdv.form
        refine (rsubFull h dst A _ cap (by omega) h2 h3).mono ?_
        rintro e w' ⟨rfl, m⟩
        exact ⟨rfl, ⟨_, _, h.later m, fun k e => .inr e⟩, modNo m⟩
      · rw [if_neg h3]
        by_cases h4 : S.gm ≤ S.gl
        · rw [if_pos h4]
          obtain ⟨A, cap, rfl, -⟩ := hdv.form
          refine (rsubSpent h dst A _ cap (by omega) h2 h3 h4).mono ?_
          rintro e w' ⟨rfl, m⟩
          exact ⟨rfl, ⟨_, _, h.later m, fun k e => .inr e⟩, modNo m⟩
        · rw [if_neg h4]
          refine (rsubYes h dst d dv one hdv (by omega) h2 h3 hok.most (by omega) hok.gl0 hok.gm).mono ?_
          rintro e w' ⟨rfl, ⟨lv', q1, q2⟩, m⟩
          exact ⟨rfl, ⟨lv', _, q1, fun k e => .inl (q2 k e)⟩, m⟩
theorem rgetU (h : RSnd B rb lv ovs S w) (hok : SndOk S) (id : Int) : Calls Try.prog 23 #[.pointer (some ⟨rb, 0, none⟩), .int .u64 id] w fun e w' => (∃ v, e = .returned (getR (S.getD id) v) ∧ Has w' w'.heap.size 1 encB v (datD (S.getD id))) ∧ Mod NoB w w' := by
  unfold SndA.getD
  rcases hp : posA S.l id with _ | k
  · refine (rgetNo h id hok.n (posA_none hp)).mono ?_
    rintro e w' ⟨rfl, m⟩
    exact ⟨⟨_, rfl, Has.nil⟩, m⟩
  · obtain ⟨a, ha, hid⟩ := posA_some hp
    simp only [ha]
    refine (rgetYes h id hok.n hok.ids ha hid).mono ?_
    rintro e w' ⟨⟨v, rfl, ho⟩, m⟩
    exact ⟨⟨v, rfl, ho.more (Nat.le_trans h.sz m.size)⟩, m⟩
end
/-- A law's own Senders, and the document's beside them; E: blocks of the law's own that none of these touches. -/
structure LawS (E : Nat → Prop) (sb rb : Nat) (S T : SndA) (w0 w : World) : Prop where
  ex : ∃ (s : Nat → Prop) (lv : Value) (ovs : List OutV), SndO sb S w s ∧ RSnd w0.heap.size rb lv ovs T w ∧ (∀ k, s k → (w0.heap.size ≤ k ∧ k < w.heap.size) ∧ k ≠ rb ∧ lv.ownBlock ≠ some k ∧ ¬ E k) ∧ ¬ E rb ∧ ∀ k, lv.ownBlock = some k → ¬ E k
  mod : Mod NoB w0 w
  lt : ∀ k, E k → k < w.heap.size
section
variable {E : Nat → Prop} {sb rb : Nat} {S T : SndA} {w0 w w' : World}
theorem LawS.later (h : LawS E sb rb S T w0 w) (m : Mod NoB w w') : LawS E sb rb S T w0 w' := by
  obtain ⟨s, lv, ovs, h1, h2, h3, h4, h5⟩ := h.ex
  obtain ⟨ad, q1, q2⟩ := h1
  exact ⟨⟨s, lv, ovs, ⟨ad, q1.later m, q2⟩, h2.later m, fun k hk => ⟨⟨(h3 k hk).1.1, Nat.lt_of_lt_of_le (h3 k hk).1.2 m.size⟩, (h3 k hk).2⟩, h4, h5⟩, h.mod.trans m (fun _ _ e => e), fun k hk => Nat.lt_of_lt_of_le (h.lt k hk) m.size⟩
/-- Other blocks of the law's own, new ones. -/
theorem LawS.re (h : LawS E sb rb S T w0 w) (m : Mod NoB w w') {g : Nat} (h1 : w.heap.size ≤ g) (h2 : g < w'.heap.size) : LawS (fun k => k = g) sb rb S T w0 w' := by
  obtain ⟨s, lv, ovs, k1, k2, k3, k4, k5⟩ := h.ex
  obtain ⟨ad, q1, q2⟩ := k1
  have hrb := k2.blk.lt
  exact ⟨⟨s, lv, ovs, ⟨ad, q1.later m, q2⟩, k2.later m, fun k hk => ⟨⟨(k3 k hk).1.1, Nat.lt_of_lt_of_le (k3 k hk).1.2 m.size⟩, (k3 k hk).2.1, (k3 k hk).2.2.1, fun e => by have := (k3 k hk).1.2; omega⟩, fun e => by omega, fun k hk e => by
    have := (k2.row.lt k hk).2
    omega⟩, h.mod.trans m (fun _ _ e => e), fun k hk => by omega⟩
theorem LawS.runS (h : LawS E sb rb S T w0 w) {f : FuncId} {args : Array Value} {v : Value} {S' : SndA}
    (hc : ∀ s : Nat → Prop, SndO sb S w s → (∀ k, s k → w0.heap.size ≤ k) → Calls Try.prog f args w fun e w' => e = .returned v ∧ SndO sb S' w' (Ext s w w') ∧ Mod s w w') :
    Calls Try.prog f args w fun e w' => e = .returned v ∧ LawS E sb rb S' T w0 w' ∧ Mod (fun k => ¬ E k) w w' := by
  obtain ⟨s, lv, ovs, h1, h2, h3, h4, h5⟩ := h.ex
  refine (hc s h1 fun k hk => (h3 k hk).1.1).mono ?_
  rintro e w' ⟨rfl, q1, m⟩
  have hrb := h2.blk.lt
  have hsz := m.size
  have hw0 := h.mod.size
  refine ⟨rfl, ⟨⟨Ext s w w', lv, ovs, q1, h2.keep m (fun k hk => (h3 k hk).1.1) (fun e => (h3 _ e).2.1 rfl) (fun k hk e => (h3 k e).2.2.1 hk), fun k hk => ?_, h4, h5⟩, h.mod.trans m (fun k hk e => by have := (h3 k e).1.1; omega), fun k hk => Nat.lt_of_lt_of_le (h.lt k hk) hsz⟩, m.mono fun k _ hk => (h3 k hk).2.2.2⟩
  rcases hk with hk | ⟨a, b⟩
  · exact ⟨⟨(h3 k hk).1.1, Nat.lt_of_lt_of_le (h3 k hk).1.2 hsz⟩, (h3 k hk).2⟩
  · exact ⟨⟨by omega, b⟩, by omega, fun e => by have := (h2.row.lt k e).2; omega, fun e => by have := h.lt k e; omega⟩
theorem LawS.runR (h : LawS E sb rb S T w0 w) {f : FuncId} {args : Array Value} {v : Value} {T' : SndA}
    (hc : ∀ (lv : Value) (ovs : List OutV), RSnd w0.heap.size rb lv ovs T w → Calls Try.prog f args w fun e w' => e = .returned v ∧ (∃ lv' ovs', RSnd w0.heap.size rb lv' ovs' T' w' ∧ ∀ k, lv'.ownBlock = some k → w.heap.size ≤ k ∨ lv.ownBlock = some k) ∧ Mod (fun k => k = rb) w w') :
    Calls Try.prog f args w fun e w' => e = .returned v ∧ LawS E sb rb S T' w0 w' ∧ Mod (fun k => ¬ E k) w w' := by
  obtain ⟨s, lv, ovs, h1, h2, h3, h4, h5⟩ := h.ex
  refine (hc lv ovs h2).mono ?_
  rintro e w' ⟨rfl, ⟨lv', ovs', q1, q2⟩, m⟩
  obtain ⟨ad, p1, p2⟩ := h1
  have hsz := m.size
  have hB := h2.hB
  refine ⟨rfl, ⟨⟨s, lv', ovs', ⟨ad, p1.keep m (fun k hk e => (h3 k hk).2.1 e), p2⟩, q1, fun k hk => ⟨⟨(h3 k hk).1.1, Nat.lt_of_lt_of_le (h3 k hk).1.2 hsz⟩, (h3 k hk).2.1, fun e => ?_, (h3 k hk).2.2.2⟩, h4, fun k hk e => ?_⟩, h.mod.trans m (fun k hk e => by omega), fun k hk => Nat.lt_of_lt_of_le (h.lt k hk) hsz⟩, m.mono fun k _ hk e => h4 (by rw [← hk]; exact e)⟩
  · rcases q2 k e with e | e
    · have := (h3 k hk).1.2
      omega
    · exact (h3 k hk).2.2.1 e
  · rcases q2 k hk with e' | e'
    · have := h.lt k e
      omega
    · exact h5 k e' e
theorem LawS.quietS (h : LawS E sb rb S T w0 w) {f : FuncId} {args : Array Value} {Q : Ending → World → Prop}
    (hc : ∀ s : Nat → Prop, SndO sb S w s → Calls Try.prog f args w fun e w' => Q e w' ∧ Mod NoB w w') :
    Calls Try.prog f args w fun e w' => Q e w' ∧ LawS E sb rb S T w0 w' ∧ Mod NoB w w' := by
  obtain ⟨s, lv, ovs, h1, -⟩ := h.ex
  refine (hc s h1).mono ?_
  rintro e w' ⟨q, m⟩
  exact ⟨q, h.later m, m⟩
theorem LawS.quietR (h : LawS E sb rb S T w0 w) {f : FuncId} {args : Array Value} {Q : Ending → World → Prop}
    (hc : ∀ (lv : Value) (ovs : List OutV), RSnd w0.heap.size rb lv ovs T w → Calls Try.prog f args w fun e w' => Q e w' ∧ Mod NoB w w') :
    Calls Try.prog f args w fun e w' => Q e w' ∧ LawS E sb rb S T w0 w' ∧ Mod NoB w w' := by
  obtain ⟨s, lv, ovs, -, h2, -⟩ := h.ex
  refine (hc lv ovs h2).mono ?_
  rintro e w' ⟨q, m⟩
  exact ⟨q, h.later m, m⟩
theorem lawEnd (h : LawS E sb rb S T w0 w) (hok : SndOk S) (id st : Int) : Calls Try.prog 18 #[.pointer (some ⟨sb, 0, none⟩), .int .u64 id, .int .i64 st] w fun e w' => e = .returned (.int .i64 (S.endD id st).1) ∧ LawS E sb rb (S.endD id st).2 T w0 w' ∧ Mod (fun k => ¬ E k) w w' :=
  h.runS fun s hs _ => endU hs hok id st
theorem lawREnd (h : LawS E sb rb S T w0 w) (hok : SndOk T) (id st : Int) : Calls Try.prog 19 #[.pointer (some ⟨rb, 0, none⟩), .int .u64 id, .int .i64 st] w fun e w' => e = .returned (.int .i64 (T.endD id st).1) ∧ LawS E sb rb S (T.endD id st).2 w0 w' ∧ Mod (fun k => ¬ E k) w w' :=
  h.runR fun lv ovs hr => rendU hr hok id st
theorem lawFor (h : LawS E sb rb S T w0 w) (hok : SndOk S) (id : Int) : Calls Try.prog 20 #[.pointer (some ⟨sb, 0, none⟩), .int .u64 id] w fun e w' => e = .returned (.int .i64 (S.forD id).1) ∧ LawS E sb rb (S.forD id).2 T w0 w' ∧ Mod (fun k => ¬ E k) w w' :=
  h.runS fun s hs _ => forU hs hok id
theorem lawRFor (h : LawS E sb rb S T w0 w) (hok : SndOk T) (id : Int) : Calls Try.prog 21 #[.pointer (some ⟨rb, 0, none⟩), .int .u64 id] w fun e w' => e = .returned (.int .i64 (T.forD id).1) ∧ LawS E sb rb S (T.forD id).2 w0 w' ∧ Mod (fun k => ¬ E k) w w' :=
  h.runR fun lv ovs hr => rforU hr hok id
theorem lawSub (h : LawS E sb rb S T w0 w) (hok : SndOk S) (dst : Int) (d : List Int) (dv : Value) (hdv : Has w w0.heap.size 1 encB dv d) : Calls Try.prog 16 #[.pointer (some ⟨sb, 0, none⟩), .int .i64 dst, dv] w fun e w' => e = .returned (.tuple #[.int .u64 (S.subD dst d).1.1, .int .i64 (S.subD dst d).1.2]) ∧ LawS E sb rb (S.subD dst d).2 T w0 w' ∧ Mod (fun k => ¬ E k) w w' :=
  h.runS fun s hs hB => subU hs hok dst d dv (hdv.more h.mod.size) fun h0 k hk e => by
    have h1 := hdv.block h0 hk
    have h2 := hB k e
    omega
theorem lawRSub (h : LawS E sb rb S T w0 w) (hok : SndOk T) (dst : Int) (d : List Int) (dv : Value) (one : dv.oneCell' = true) (hdv : Has w w0.heap.size 1 encB dv d) : Calls Try.prog 17 #[.pointer (some ⟨rb, 0, none⟩), .int .i64 dst, dv] w fun e w' => e = .returned (.tuple #[.int .u64 (T.subD dst d).1.1, .int .i64 (T.subD dst d).1.2]) ∧ LawS E sb rb S (T.subD dst d).2 w0 w' ∧ Mod (fun k => ¬ E k) w w' :=
  h.runR fun lv ovs hr => rsubU hr hok dst d dv one hdv
theorem lawGet (h : LawS E sb rb S T w0 w) (hok : SndOk S) (id : Int) : Calls Try.prog 22 #[.pointer (some ⟨sb, 0, none⟩), .int .u64 id] w fun e w' => (∃ v, e = .returned (getV (S.getD id) v) ∧ Has w' w'.heap.size 1 encB v (datD (S.getD id))) ∧ LawS E sb rb S T w0 w' ∧ Mod NoB w w' :=
  h.quietS fun s hs => getU hs hok id
theorem lawRGet (h : LawS E sb rb S T w0 w) (hok : SndOk T) (id : Int) : Calls Try.prog 23 #[.pointer (some ⟨rb, 0, none⟩), .int .u64 id] w fun e w' => (∃ v, e = .returned (getR (T.getD id) v) ∧ Has w' w'.heap.size 1 encB v (datD (T.getD id))) ∧ LawS E sb rb S T w0 w' ∧ Mod NoB w w' :=
  h.quietR fun lv ovs hr => rgetU hr hok id
theorem lawLenS (h : LawS E sb rb S T w0 w) : Calls Try.prog 24 #[.pointer (some ⟨sb, 0, none⟩)] w fun e w' => e = .returned (.int .i64 (S.l.length : Nat)) ∧ w = w' := by
  obtain ⟨s, lv, ovs, ⟨ad, h1, h2⟩, -⟩ := h.ex
  exact slenW h1 h2
theorem lawOpen (h : LawS E sb rb S T w0 w) (hok : SndOk S) : Calls Try.prog 26 #[.pointer (some ⟨sb, 0, none⟩)] w fun e w' => (∃ v, e = .returned v ∧ Has w' w'.heap.size 1 (encN .u64) v (openA S.l)) ∧ LawS E sb rb S T w0 w' ∧ Mod NoB w w' :=
  h.quietS fun s ⟨ad, h1, h2⟩ => (openW h1 h2 hok.n).mono fun e w' ⟨⟨v, q1, q2⟩, m⟩ => ⟨⟨v, q1, q2.has⟩, m⟩
theorem lawROpen (h : LawS E sb rb S T w0 w) (hok : SndOk T) : Calls Try.prog 27 #[.pointer (some ⟨rb, 0, none⟩)] w fun e w' => (∃ v, e = .returned v ∧ Has w' w'.heap.size 1 (encN .u64) v (openA T.l)) ∧ LawS E sb rb S T w0 w' ∧ Mod NoB w w' :=
  h.quietR fun lv ovs hr => (ropenW hr hok.n).mono fun e w' ⟨⟨v, q1, q2⟩, m⟩ => ⟨⟨v, q1, q2.has⟩, m⟩
theorem lawLow (h : LawS E sb rb S T w0 w) (hok : SndOk S) (dst : Int) : Calls Try.prog 28 #[.pointer (some ⟨sb, 0, none⟩), .int .i64 dst] w fun e w' => e = .returned (.int .u64 (lowA S dst)) ∧ LawS E sb rb S T w0 w' ∧ Mod NoB w w' :=
  h.quietS fun s ⟨ad, h1, h2⟩ => lowestW h1 h2 dst hok.n hok.gl0 (by have := hok.glm; have := hok.gm; omega)
theorem lawRLow (h : LawS E sb rb S T w0 w) (hok : SndOk T) (dst : Int) : Calls Try.prog 29 #[.pointer (some ⟨rb, 0, none⟩), .int .i64 dst] w fun e w' => e = .returned (.int .u64 (lowA T dst)) ∧ LawS E sb rb S T w0 w' ∧ Mod NoB w w' :=
  h.quietR fun lv ovs hr => (rlowestW hr dst hok.n hok.gl0 (by have := hok.glm; have := hok.gm; omega)).mono fun e w' ⟨q, m⟩ => ⟨q, by subst m; exact Mod.refl _ _⟩
theorem LawS.rblk (h : LawS E sb rb S T w0 w) : ∃ (A : Option Addr) (c : Nat), w.cell? ⟨rb, 4, none⟩ = some (.slice A T.l.length c) ∧ rb < w.heap.size := by
  obtain ⟨s, lv, ovs, -, h2, -⟩ := h.ex
  obtain ⟨A, c, e, -, -⟩ := h2.row.form
  refine ⟨A, c, ?_, h2.blk.lt⟩
  rw [h2.len] at e
  rw [h2.blk.cell, ← e]
  rfl
end
end Go.Proofs.Ytddnlbkocmpffaa
