/- The evaluator's memory and the world: what writes and new blocks do to the relation between both. -/
import Derived.Test.YtcandpiafgicbaaGreatDoorEvD
import Derived.Laws.IdiomCopy
import Derived.Deep.MidRow
namespace Go.Proofs.YtcandpiafgicbaaGreatDoor.Ev
open Go hiding Obj
set_option linter.unusedVariables false
set_option linter.unusedSimpArgs false
set_option linter.unusedSectionVars false
variable [Gl]
theorem cell_of_heap {w w' : World} {b : Nat} (h : w'.heap[b]? = w.heap[b]?) (o : Nat) (s : Option Nat) : w'.cell? ⟨b, o, s⟩ = w.cell? ⟨b, o, s⟩ := by
  unfold World.cell?; rw [h]
theorem frozen_of_heap {w w' : World} {b : Nat} (h : w'.heap[b]? = w.heap[b]?) (o : Nat) (s : Option Nat) : w'.frozen? ⟨b, o, s⟩ = w.frozen? ⟨b, o, s⟩ := by
  unfold World.frozen?; rw [h]
/-- What a thing says stays true where its block stays. -/
theorem OR.keep {r r' : Ren} {S S' : St} {w w' : World} (hle : r.le r') (hsz : w.heap.size ≤ w'.heap.size) {i : Nat} {o : Obj} (hi : i < r.n) (h : OR r S w i o)
    (hb : o.owns = true → w'.heap[r.μ i]? = w.heap[r.μ i]?) : OR r' S' w' i o := by
  obtain ⟨a, b, c⟩ := hle.2 i hi
  cases o with
  | cells cs e sz =>
    obtain ⟨h0, h1, h2, h3⟩ := h
    have hb := hb rfl
    refine ⟨by rw [a]; exact h0.of_heap hb, fun j v hv => ?_, fun ho => ?_, fun he => ⟨by rw [b]; exact (h3 he).1, by rw [a, shape_of_heap hb]; exact (h3 he).2⟩⟩
    · obtain ⟨v', e1, e2, e3, e4⟩ := h1 j v hv
      exact ⟨v', by rw [a, b, cell_of_heap hb]; exact e1, e2.mono hle, e3, by rw [a, b, frozen_of_heap hb]; exact e4⟩
    · obtain ⟨g1, g2⟩ := h2 ho
      refine ⟨by rw [c]; exact g1, fun j hj => ?_⟩
      rw [c] at hj
      rw [a, b, cell_of_heap hb, frozen_of_heap hb]
      exact g2 j hj
  | map es cl =>
    obtain ⟨es', e1, e2⟩ := h
    exact ⟨es', by rw [a, hb rfl]; exact e1, e2.mono hle⟩
  | miter m s se st =>
    obtain ⟨e1, e0, e2⟩ := h
    obtain ⟨am, _, _⟩ := hle.2 m e1
    exact ⟨Nat.lt_of_lt_of_le e1 hle.1, b.trans e0, by rw [a, hb rfl, am]; exact e2⟩
  | siter s p =>
    exact ⟨b.trans h.1, by rw [a, hb rfl]; exact h.2⟩
/-- What is there afterwards was there, and stays; or is new. -/
theorem Rel.mk' {r r' : Ren} {S S' : St} {w w' : World} (h : Rel r S w) (hle : r.le r') (hn : r'.n = S'.next) (hev : S'.next % 2 = 0) (hsz : w.heap.size ≤ w'.heap.size)
    (hobj : ∀ i o, S'.get i = some o → (S.get i = some o ∧ (o.owns = true → w'.heap[r.μ i]? = w.heap[r.μ i]?)) ∨
      (i < r'.n ∧ OR r' S' w' i o ∧ (o.owns = true → ∀ j oj, j ≠ i → S'.get j = some oj → oj.owns = true → r'.μ j ≠ r'.μ i)))
    (hgl : ∀ p ∈ Gl.cells, p.1 < w'.heap.size ∧ ¬ Owned r' S' p.1 ∧ p.2 w'.heap[p.1]?) : Rel r' S' w' where
  gl := hgl
  n := hn
  even := hev
  objs := fun i o hi => by
    rcases hobj i o hi with ⟨h1, h2⟩ | ⟨h1, h2, _⟩
    · obtain ⟨g1, g2⟩ := h.objs i o h1
      exact ⟨Nat.lt_of_lt_of_le g1 hle.1, g2.keep hle hsz g1 h2⟩
    · exact ⟨h1, h2⟩
  inj := fun i j oi oj hi hj hoi hoj e => by
    rcases Nat.decEq i j with hne | heq
    case isTrue => exact heq
    rcases hobj i oi hi with ⟨h1, _⟩ | ⟨_, _, h3⟩
    · rcases hobj j oj hj with ⟨g1, _⟩ | ⟨_, _, g3⟩
      · rw [(hle.2 i (h.objs i oi h1).1).1, (hle.2 j (h.objs j oj g1).1).1] at e
        exact h.inj i j oi oj h1 g1 hoi hoj e
      · exact absurd e (g3 hoj i oi hne hi hoi)
    · exact absurd e.symm (h3 hoi j oj (fun x => hne x.symm) hj hoj)
/-- A step: what is there afterwards was there, and stays; or is new. -/
theorem Fr.mk' {r r' : Ren} {S S' : St} {w w' : World} (h : Rel r S w) (hle : r.le r') (hn : r'.n = S'.next) (hev : S'.next % 2 = 0) (hsz : w.heap.size ≤ w'.heap.size)
    (hobj : ∀ i o, S'.get i = some o → (S.get i = some o ∧ (o.owns = true → w'.heap[r.μ i]? = w.heap[r.μ i]?)) ∨
      (i < r'.n ∧ OR r' S' w' i o ∧ (o.owns = true → (Owned r S (r'.μ i) ∨ w.heap.size ≤ r'.μ i) ∧ ∀ j oj, j ≠ i → S'.get j = some oj → oj.owns = true → r'.μ j ≠ r'.μ i)))
    (hkept : ∀ b, b < w.heap.size → ¬ Owned r S b → w'.heap[b]? = w.heap[b]?) (hos : w'.os = w.os) (htape : w'.tape = w.tape) (hout : w'.output = w.output) : Fr r S w r' S' w' :=
  have hown : ∀ b, Owned r' S' b → Owned r S b ∨ w.heap.size ≤ b := by
    rintro b ⟨i, o, hi, how, rfl⟩
    rcases hobj i o hi with ⟨h1, _⟩ | ⟨_, _, h3⟩
    · exact .inl ⟨i, o, h1, how, ((hle.2 i (h.objs i o h1).1).1).symm⟩
    · exact (h3 how).1
  { le := hle
    size := hsz
    kept := hkept
    os := hos
    tape := htape
    output := hout
    own := hown
    rel := h.mk' hle hn hev hsz (fun i o hi => (hobj i o hi).imp id fun ⟨a, b, c⟩ => ⟨a, b, fun x => (c x).2⟩) fun p hp => by
      obtain ⟨g1, g2, g3⟩ := h.gl p hp
      refine ⟨by omega, fun ho => ?_, by rw [hkept p.1 g1 g2]; exact g3⟩
      rcases hown _ ho with x | x
      · exact g2 x
      · omega }
theorem Rel.of_heap {r : Ren} {S : St} {w w' : World} (h : Rel r S w) (hh : w'.heap = w.heap) : Rel r S w' :=
  { n := h.n, even := h.even, inj := h.inj
    gl := fun p hp => ⟨by rw [hh]; exact (h.gl p hp).1, (h.gl p hp).2.1, by rw [hh]; exact (h.gl p hp).2.2⟩
    objs := fun i o hi => ⟨(h.objs i o hi).1, (h.objs i o hi).2.keep r.le_refl (by rw [hh]; omega) (h.objs i o hi).1 (fun _ => by rw [hh])⟩ }
theorem Fr.drew {r : Ren} {S : St} {w : World} (h : Rel r S w) : Fr r S w r S w.drew :=
  ⟨r.le_refl, h.of_heap rfl, Nat.le_refl _, fun _ _ _ => rfl, fun _ h => .inl h, rfl, rfl, rfl⟩
/-- Things put in the place of others. -/
noncomputable def spl {α : Type} (c : List α) (o : Nat) (xs : List α) : List α := c.take o ++ xs ++ c.drop (o + xs.length)
theorem spl_length {α : Type} {c : List α} {o : Nat} {xs : List α} (h : o + xs.length ≤ c.length) : (spl c o xs).length = c.length := by
  simp [spl]; omega
theorem spl_get {α : Type} {c : List α} {o : Nat} {xs : List α} (h : o + xs.length ≤ c.length) {j : Nat} {v : α} (hj : (spl c o xs)[j]? = some v) :
    (o ≤ j ∧ j < o + xs.length ∧ xs[j - o]? = some v) ∨ ((j < o ∨ o + xs.length ≤ j) ∧ c[j]? = some v) := by
  unfold spl at hj
  rw [List.append_assoc] at hj
  have ht : (c.take o).length = o := by simp; omega
  by_cases h1 : j < o
  · rw [List.getElem?_append_left (by omega)] at hj
    rw [List.getElem?_take_of_lt h1] at hj
    exact .inr ⟨.inl h1, hj⟩
  · rw [List.getElem?_append_right (by omega), ht] at hj
    by_cases h2 : j < o + xs.length
    · rw [List.getElem?_append_left (by omega)] at hj
      exact .inl ⟨by omega, h2, hj⟩
    · rw [List.getElem?_append_right (by omega), List.getElem?_drop] at hj
      exact .inr ⟨.inr (by omega), by rw [← hj]; congr 1; omega⟩
theorem setCells_out {w : World} {b o : Nat} {vs : List Value} {b' o' : Nat} {s : Option Nat} (h : b' ≠ b ∨ o' < o ∨ o + vs.length ≤ o') : (w.setCells b o vs).cell? ⟨b', o', s⟩ = w.cell? ⟨b', o', s⟩ :=
  World.cell?_setCells_out b vs o w ⟨b', o', s⟩ fun e _ => by
    rcases h with h | h | h
    · exact absurd e h
    · exact .inl h
    · exact .inr h
theorem heap_setCells (b : Nat) : ∀ (vs : List Value) (o : Nat) (w : World) {i : Nat}, i ≠ b → (w.setCells b o vs).heap[i]? = w.heap[i]?
  | [], _, _, _, _ => rfl
  | v :: vs, o, w, i, h => by
    rw [World.setCells, heap_setCells b vs (o + 1) _ h]
    simp only [World.setCell]
    rw [Array.getElem?_modify]
    split
    · rename_i e; exact absurd e.symm h
    · rfl
theorem size_setCells' (b : Nat) : ∀ (vs : List Value) (o : Nat) (w : World), (w.setCells b o vs).heap.size = w.heap.size
  | [], _, _ => rfl
  | v :: vs, o, w => by rw [World.setCells, size_setCells' b vs]; simp [World.setCell]
theorem rest_setCells (b : Nat) : ∀ (vs : List Value) (o : Nat) (w : World), (w.setCells b o vs).os = w.os ∧ (w.setCells b o vs).tape = w.tape ∧ (w.setCells b o vs).output = w.output ∧ (w.setCells b o vs).drawn = w.drawn
  | [], _, _ => ⟨rfl, rfl, rfl, rfl⟩
  | v :: vs, o, w => by rw [World.setCells]; exact rest_setCells b vs _ _
theorem setCells_in {w : World} {b o : Nat} {vs : List Value} (ht : ∀ j, j < vs.length → (w.cell? ⟨b, o + j, none⟩).isSome = true ∧ w.frozen? ⟨b, o + j, none⟩ = false) {j : Nat} {v : Value} (hv : vs[j]? = some v) :
    (w.setCells b o vs).cell? ⟨b, o + j, none⟩ = some v := World.rangeAt_setCells_same w b o vs ht j v hv
/-- What is there of a row. -/
theorem Rel.cells {r : Ren} {S : St} {w : World} (h : Rel r S w) {b : Nat} {c : List Value} {e : TypeId} {sz : Nat} (hb : S.get b = some (.cells c e sz)) {j : Nat} {v : Value} (hj : c[j]? = some v) :
    ∃ v', w.cell? ⟨r.μ b, j + r.δ b, none⟩ = some v' ∧ VR r v v' ∧ v'.oneCell' = true ∧ w.frozen? ⟨r.μ b, j + r.δ b, none⟩ = false := (h.objs b _ hb).2.2.1 j v hj
theorem Rel.there {r : Ren} {S : St} {w : World} (h : Rel r S w) {b : Nat} {c : List Value} {e : TypeId} {sz : Nat} (hb : S.get b = some (.cells c e sz)) {j : Nat} (hj : j < c.length) :
    (w.cell? ⟨r.μ b, j + r.δ b, none⟩).isSome = true ∧ w.frozen? ⟨r.μ b, j + r.δ b, none⟩ = false := by
  obtain ⟨v', h1, _, _, h4⟩ := h.cells hb (List.getElem?_eq_getElem hj)
  exact ⟨by rw [h1]; rfl, h4⟩
/-- A write into a row. -/
theorem Rel.write {r : Ren} {S : St} {w : World} (h : Rel r S w) {b : Nat} {c : List Value} {e : TypeId} {sz : Nat} (hb : S.get b = some (.cells c e sz)) {o : Nat} {xs xs' : List Value} (hx : VRs r xs xs')
    (h1 : ∀ v ∈ xs', v.oneCell' = true) (hfit : o + xs.length ≤ c.length) : Fr r S w r (S.set b (.cells (spl c o xs) e sz)) (w.setCells (r.μ b) (o + r.δ b) xs') := by
  have hl := hx.length
  obtain ⟨hbn, hob⟩ := h.objs b _ hb
  obtain ⟨hm, hcs, hg, hev⟩ := hob
  have hown : Owned r S (r.μ b) := ⟨b, _, hb, rfl, rfl⟩
  obtain ⟨r1, r2, r3, _⟩ := rest_setCells (r.μ b) xs' (o + r.δ b) w
  have ht : ∀ j, j < xs'.length → (w.cell? ⟨r.μ b, (o + r.δ b) + j, none⟩).isSome = true ∧ w.frozen? ⟨r.μ b, (o + r.δ b) + j, none⟩ = false := fun j hj => by
    have := h.there hb (j := o + j) (by omega)
    rwa [show o + r.δ b + j = o + j + r.δ b by omega]
  refine Fr.mk' h r.le_refl h.n h.even (by rw [size_setCells']; exact Nat.le_refl _) ?_ ?_ r1 r2 r3
  · intro i ob hi
    rcases St.get_set hi with ⟨rfl, rfl⟩ | ⟨hne, hi⟩
    · refine .inr ⟨hbn, ⟨Mk.setCells _ _ _ hm, fun j v hj => ?_, fun ho => ?_, fun he => ⟨(hev he).1, by rw [shape_setCells, spl_length hfit]; exact (hev he).2⟩⟩, fun _ => ⟨.inl hown, fun j oj hj hgj hoj => ?_⟩⟩
      · rw [World.frozen?_setCells]
        rcases spl_get hfit hj with ⟨g1, g2, g3⟩ | ⟨g1, g3⟩
        · obtain ⟨v', e1, e2⟩ := hx.get g3
          have hin := setCells_in ht e1
          rw [show o + r.δ i + (j - o) = j + r.δ i by omega] at hin
          refine ⟨v', hin, e2, h1 v' (List.mem_of_getElem? e1), ?_⟩
          exact (h.there hb (j := j) (by omega)).2
        · obtain ⟨v', e1, e2, e3, e4⟩ := h.cells hb g3
          refine ⟨v', ?_, e2, e3, e4⟩
          rw [setCells_out (by right; omega)]; exact e1
      · rw [spl_length hfit]
        refine ⟨(hg ho).1, fun j hj => ?_⟩
        rw [World.frozen?_setCells]
        exact ⟨World.isSome_setCells _ _ _ _ _ ((hg ho).2 j hj).1, ((hg ho).2 j hj).2⟩
      · rcases St.get_set hgj with ⟨rfl, _⟩ | ⟨_, hgj⟩
        · exact absurd rfl hj
        · exact fun e => hj (h.inj _ _ _ _ hgj hb hoj rfl e)
    · refine .inl ⟨hi, fun ho => heap_setCells _ _ _ _ fun e => hne (h.inj _ _ _ _ hi hb ho rfl e)⟩
  · intro k hk ho
    exact heap_setCells _ _ _ _ fun e => ho (e ▸ hown)
/-- One more number. -/
noncomputable def Ren.ext (r : Ren) (i m d k : Nat) : Ren := { n := r.n + 2, μ := fun j => if j = i then m else r.μ j, δ := fun j => if j = i then d else r.δ j, κ := fun j => if j = i then k else r.κ j }
theorem Ren.le_ext (r : Ren) {i : Nat} (hi : r.n ≤ i) (m d k : Nat) : r.le (r.ext i m d k) :=
  ⟨by simp [Ren.ext], fun j hj => by have : j ≠ i := by omega
                                     simp [Ren.ext, this]⟩
@[simp] theorem Ren.ext_μ (r : Ren) (i m d k : Nat) : (r.ext i m d k).μ i = m := by simp [Ren.ext]
@[simp] theorem Ren.ext_δ (r : Ren) (i m d k : Nat) : (r.ext i m d k).δ i = d := by simp [Ren.ext]
@[simp] theorem Ren.ext_κ (r : Ren) (i m d k : Nat) : (r.ext i m d k).κ i = k := by simp [Ren.ext]
/-- A new block. 'i': the number that it is given. -/
theorem Rel.push {r : Ren} {S : St} {w : World} (h : Rel r S w) (g : Bool) {ob : Obj} (hob : ob.owns = true) {x : Go.Obj} {k : Nat} {S' : St} {i : Nat} (hi : i = S.next + (if g then 1 else 0)) (hS' : S' = if g then S.newG ob else S.new ob)
    (hor : ∀ r' S', r.le r' → r'.μ i = w.heap.size → r'.δ i = 0 → r'.κ i = k → OR r' S' (w.alloc x) i ob) :
    Fr r S w (r.ext i w.heap.size 0 k) S' (w.alloc x) := by
  have hn := h.n
  have hin : r.n ≤ i := by rw [hi, hn]; omega
  have hle := r.le_ext hin w.heap.size 0 k
  have hget : ∀ j o, S'.get j = some o → (j = i ∧ o = ob) ∨ (j ≠ i ∧ S.get j = some o) := fun j o hj => by
    subst hS' hi
    cases g
    · exact St.get_new (by simpa using hj)
    · exact St.get_newG (by simpa using hj)
  have hnext : S'.next = S.next + 2 := by subst hS'; cases g <;> rfl
  have hold : ∀ b, b < w.heap.size → (w.alloc x).heap[b]? = w.heap[b]? := fun b hb => by
    show (w.heap.push x)[b]? = _; rw [Array.getElem?_push_lt hb, Array.getElem?_eq_getElem hb]
  refine Fr.mk' h hle (by rw [hnext]; simp [Ren.ext, hn]) (by rw [hnext]; have := h.even; omega) (by rw [World.size_alloc]; omega) ?_ (fun b hb _ => hold b hb) rfl rfl rfl
  · intro j o hj
    rcases hget j o hj with ⟨rfl, rfl⟩ | ⟨hne, hj⟩
    · refine .inr ⟨by simp only [Ren.ext]; rw [hi, hn]; cases g <;> simp, hor _ _ hle (by simp) (by simp) (by simp), fun _ => ⟨.inr (by simp), fun q oq hq hgq hoq => ?_⟩⟩
      rcases hget q oq hgq with ⟨rfl, _⟩ | ⟨_, hgq⟩
      · exact absurd rfl hq
      · have := h.lt hgq hoq
        rw [Ren.ext_μ, (hle.2 q (h.objs q _ hgq).1).1]; omega
    · exact .inl ⟨hj, fun ho => hold _ (h.lt hj ho)⟩
/-- Taking over the array of a grown slice: what stands from place 'd' on is 'olds', and 'news' is written behind it. -/
theorem Rel.onto {r : Ren} {S : St} {w : World} (h : Rel r S w) {own : Nat} {c : List Value} {e : TypeId} {sz : Nat} (hb : S.get own = some (.cells c e sz)) (hodd : own % 2 = 1) {d K : Nat} (hd : r.δ own ≤ d)
    (hK : d + K * sz ≤ r.δ own + r.κ own * sz) {olds news news' : List Value} (hfit : olds.length + news.length ≤ K * sz)
    (ho : ∀ (j : Nat) v, olds[j]? = some v → ∃ v', w.cell? ⟨r.μ own, j + d, none⟩ = some v' ∧ VR r v v' ∧ v'.oneCell' = true) (hx : VRs r news news') (h1 : ∀ v ∈ news', v.oneCell' = true) :
    Fr r S w (r.ext (S.next + 1) (r.μ own) d K) ((S.del own).newG (.cells (olds ++ news) e sz)) (w.setCells (r.μ own) (olds.length + d) news') := by
  have hl := hx.length
  have hn := h.n
  obtain ⟨hbn, hm, hcs, hg, _⟩ := h.objs own _ hb
  obtain ⟨hg1, hg2⟩ := hg hodd
  have hown : Owned r S (r.μ own) := ⟨own, _, hb, rfl, rfl⟩
  obtain ⟨r1, r2, r3, _⟩ := rest_setCells (r.μ own) news' (olds.length + d) w
  have hle := r.le_ext (i := S.next + 1) (by omega) (r.μ own) d K
  have hreg : ∀ j, j < K * sz → (w.cell? ⟨r.μ own, j + d, none⟩).isSome = true ∧ w.frozen? ⟨r.μ own, j + d, none⟩ = false := fun j hj => by
    have := hg2 (j + d - r.δ own) (by omega)
    rwa [show j + d - r.δ own + r.δ own = j + d by omega] at this
  have ht : ∀ j, j < news'.length → (w.cell? ⟨r.μ own, (olds.length + d) + j, none⟩).isSome = true ∧ w.frozen? ⟨r.μ own, (olds.length + d) + j, none⟩ = false := fun j hj => by
    have := hreg (olds.length + j) (by omega)
    rwa [show olds.length + d + j = olds.length + j + d by omega]
  have hget : ∀ j o, ((S.del own).newG (.cells (olds ++ news) e sz)).get j = some o → (j = S.next + 1 ∧ o = .cells (olds ++ news) e sz) ∨ (j ≠ own ∧ S.get j = some o) := fun j o hj => by
    rcases St.get_newG hj with ⟨a, b⟩ | ⟨_, hj⟩
    · exact .inl ⟨a, b⟩
    · exact .inr (St.get_del hj)
  refine Fr.mk' h hle (by simp [Ren.ext, St.newG, St.del, hn]) (by simp only [St.newG, St.del]; have := h.even; omega) (by rw [size_setCells']; exact Nat.le_refl _) ?_ ?_ r1 r2 r3
  · intro i ob hi
    rcases hget i ob hi with ⟨rfl, rfl⟩ | ⟨hne, hi⟩
    · refine .inr ⟨by simp [Ren.ext, hn], ⟨by rw [Ren.ext_μ]; exact Mk.setCells _ _ _ hm, fun j v hj => ?_, fun _ => ?_, fun he => absurd he (by have := h.even; omega)⟩, fun _ => ⟨.inl (by rw [Ren.ext_μ]; exact hown), fun j oj hj hgj hoj => ?_⟩⟩
      · rw [Ren.ext_μ, Ren.ext_δ, World.frozen?_setCells]
        have hjl : j < olds.length + news.length := by
          have := (List.getElem?_eq_some_iff.1 hj).1
          simpa using this
        have hfz := (hreg j (by omega)).2
        by_cases h2 : j < olds.length
        · rw [List.getElem?_append_left h2] at hj
          obtain ⟨v', e1, e2, e3⟩ := ho j v hj
          exact ⟨v', by rw [setCells_out (by right; left; omega)]; exact e1, e2.mono hle, e3, hfz⟩
        · rw [List.getElem?_append_right (by omega)] at hj
          obtain ⟨v', e1, e2⟩ := hx.get hj
          have hin := setCells_in ht e1
          rw [show olds.length + d + (j - olds.length) = j + d by omega] at hin
          exact ⟨v', hin, e2.mono hle, h1 v' (List.mem_of_getElem? e1), hfz⟩
      · rw [Ren.ext_κ]
        refine ⟨by simpa using hfit, fun j hj => ?_⟩
        rw [Ren.ext_μ, Ren.ext_δ, World.frozen?_setCells]
        exact ⟨World.isSome_setCells _ _ _ _ _ (hreg j hj).1, (hreg j hj).2⟩
      · rcases hget j oj hgj with ⟨rfl, _⟩ | ⟨hne, hgj⟩
        · exact absurd rfl hj
        · rw [Ren.ext_μ, (hle.2 j (h.objs j _ hgj).1).1]
          exact fun e => hne (h.inj _ _ _ _ hgj hb hoj rfl e)
    · exact .inl ⟨hi, fun ho => heap_setCells _ _ _ _ fun e => hne (h.inj _ _ _ _ hi hb ho rfl e)⟩
  · intro k hk hno
    exact heap_setCells _ _ _ _ fun e => hno (e ▸ hown)
/-- Letting go. -/
theorem Rel.del {r : Ren} {S : St} {w : World} (h : Rel r S w) (i : Nat) : Fr r S w r (S.del i) w :=
  Fr.mk' h r.le_refl h.n h.even (Nat.le_refl _) (fun _ _ hj => .inl ⟨(St.get_del hj).2, fun _ => rfl⟩) (fun _ _ _ => rfl) rfl rfl rfl
/-- A block that lay ready is taken for a new row. -/
theorem Rel.adopt {r : Ren} {S : St} {w : World} (h : Rel r S w) {bf : Nat} {cs cs' : List Value} {e : TypeId} {sz : Nat} (hb : w.heap[bf]? = some (.cells ⟨cs'⟩ e (0, 0))) (hno : ¬ Owned r S bf) (hngl : ∀ p ∈ Gl.cells, p.1 ≠ bf) (hc : VRs r cs cs') (h1 : ∀ v ∈ cs', v.oneCell' = true) :
    Rel (r.ext S.next bf 0 0) (S.new (.cells cs e sz)) w ∧ ∀ b, Owned (r.ext S.next bf 0 0) (S.new (.cells cs e sz)) b → Owned r S b ∨ b = bf := by
  have hn := h.n
  have hle := r.le_ext (i := S.next) (by omega) bf 0 0
  have hlt := (Array.getElem?_eq_some_iff.1 hb).1
  have hown : ∀ b, Owned (r.ext S.next bf 0 0) (S.new (.cells cs e sz)) b → Owned r S b ∨ b = bf := by
    rintro b ⟨i, o, hi, how, rfl⟩
    rcases St.get_new hi with ⟨rfl, rfl⟩ | ⟨hne, hi⟩
    · right; rw [Ren.ext_μ]
    · left; exact ⟨i, o, hi, how, ((hle.2 i (h.objs i o hi).1).1).symm⟩
  refine ⟨h.mk' hle (by simp [Ren.ext, St.new, hn]) (by simp only [St.new]; have := h.even; omega) (Nat.le_refl _) (fun i o hi => ?_) fun p hp => ⟨(h.gl p hp).1, fun ho => (hown _ ho).elim (h.gl p hp).2.1 (hngl p hp), (h.gl p hp).2.2⟩, hown⟩
  · rcases St.get_new hi with ⟨rfl, rfl⟩ | ⟨hne, hi⟩
    · refine .inr ⟨by simp [Ren.ext, hn], ⟨by rw [Ren.ext_μ]; exact ⟨_, 0, 0, hb, .inl rfl⟩, fun j v hj => ?_, fun ho => ?_, fun _ => ⟨Ren.ext_δ _ _ _ _ _, by rw [Ren.ext_μ]; unfold World.shape?; rw [hb]; simp [hc.length]⟩⟩, fun _ j oj hj hgj hoj => ?_⟩
      · obtain ⟨v', e1, e2⟩ := hc.get hj
        rw [Ren.ext_μ, Ren.ext_δ]
        refine ⟨v', ?_, e2.mono hle, h1 v' (List.mem_of_getElem? e1), ?_⟩
        · unfold World.cell?; rw [hb]; simpa using e1
        · unfold World.frozen?; rw [hb]; simp
      · have := h.even; omega
      · rcases St.get_new hgj with ⟨rfl, _⟩ | ⟨_, hgj⟩
        · exact absurd rfl hj
        · rw [Ren.ext_μ, (hle.2 j (h.objs j _ hgj).1).1]
          exact fun e => hno ⟨j, oj, hgj, hoj, e⟩
    · exact .inl ⟨hi, fun _ => rfl⟩
/-- A new block that is nobody's. -/
theorem Fr.junk {r : Ren} {S : St} {w : World} (h : Rel r S w) (x : Go.Obj) : Fr r S w r S (w.alloc x) := by
  have hold : ∀ b, b < w.heap.size → (w.alloc x).heap[b]? = w.heap[b]? := fun b hb => by
    show (w.heap.push x)[b]? = _; rw [Array.getElem?_push_lt hb, Array.getElem?_eq_getElem hb]
  exact Fr.mk' h r.le_refl h.n h.even (by rw [World.size_alloc]; omega) (fun i o hi => .inl ⟨hi, fun ho => hold _ (h.lt hi ho)⟩) (fun b hb _ => hold b hb) rfl rfl rfl
end Go.Proofs.YtcandpiafgicbaaGreatDoor.Ev
