/- What mizzenlaw20.PeerSends is handed: steps. -/
import Derived.Test.YtddnlbkocmpffaaZPeeX
import Derived.Test.YtddnlbkocmpffaaZOpenR
namespace Go.Proofs.Ytddnlbkocmpffaa
open Go.RowKit Go.ChangeShapes Go.WideShapes Go.Deep
set_option linter.unusedVariables false
set_option maxRecDepth 100000
section
variable {H : Type} {enc : TypeId × Value → H} {P : Program} {w : World}
theorem open_cells0 (Q : Nat → Value → Prop) {t e : TypeId} {fs : Array Field} {v : Value} {d : DataW H} {p : List MemPlace} (ht : P.underlying t = some (.slice e)) (he : P.underlying e = some (.struct fs))
    (hone : oneCellFields P fs = true) (hC : P.cellsOf e = fs.size) (hsz : 0 < fs.size)
    (hint : ∀ (j : Nat) (f : Field), fs[j]? = some f → ∀ (fuel : Nat) (cs : List Value) (x : DataW H × List MemPlace), DataW.trod enc P w 0 (fun _ => true) true fuel f.type cs = some x → ∃ u, cs = [u] ∧ Q j u)
    (hv : Value.okWide P w .any 0 t v) (h : DataW.Trod enc P w 0 (fun _ => true) true t v d p) :
    ∃ (A : Option Addr) (n cap : Nat) (F : Nat → Nat → Value), v = .slice A n cap ∧ n ≤ cap ∧ n ≤ 9223372036854775807 ∧ (A = none → cap = 0) ∧ (0 < n → ∃ b off, A = some ⟨b, off, none⟩ ∧ b < w.heap.size ∧
      ∀ i j, i < n → j < fs.size → w.cell? ⟨b, off + (i * fs.size + j), none⟩ = some (F i j) ∧ Q j (F i j)) := by
  obtain ⟨a0, len, cap, rfl⟩ := okWide_slice ht hv
  obtain ⟨fuel, hf⟩ := h
  rcases open_slice ht hf with ⟨h0, _⟩ | ⟨a, len', cap', m, n, D, Pl, hcs, hb, hl, hm, hmm, hx, hi⟩
  · simp [Value.cells] at h0
    obtain ⟨rfl, rfl, rfl⟩ := h0
    exact ⟨none, 0, 0, fun _ _ => .bool false, rfl, Nat.le_refl _, by omega, fun _ => rfl, fun h => absurd h (by omega)⟩
  · simp [Value.cells] at hcs
    obtain ⟨rfl, rfl, rfl⟩ := hcs
    simp only [if_true] at hmm
    subst hmm
    have hmax : len ≤ 9223372036854775807 := by unfold maxLen at hm; omega
    have key : ∀ i, i < len → ∀ j, j < fs.size → ∃ z : Value, w.cell? (a.add (i * fs.size + j)) = some z ∧ Q j z := by
      intro i him j hj
      obtain ⟨cs', hc, ht'⟩ := hi i (by omega)
      rw [hC] at hc
      obtain ⟨ys, n', hn', hy, hlen, hyl, hf2⟩ := DataW.trod_struct he ht'
      obtain ⟨_, hcl, hat⟩ := World.cells?_some hc
      have hfj : fs[j]? = some (fs[j]) := Array.getElem?_eq_getElem hj
      obtain ⟨ho, hk⟩ := hone_of hone j _ hfj
      have hcell := hat j hj
      have h1 := hf2 j _ hfj
      rw [ho, hk] at h1
      have hone' : (cs'.drop j).take 1 = [cs'[j]'(by omega)] := by
        rw [List.drop_eq_getElem_cons (by omega)]
        rfl
      rw [hone'] at h1
      have hys : ys[j]? = some (ys[j]'(by omega)) := List.getElem?_eq_getElem (by omega)
      obtain ⟨z, hz, hq⟩ := hint j _ hfj _ _ _ (h1.trans hys)
      refine ⟨z, ?_, hq⟩
      rw [← Go.Deep.add_add, hcell, List.getElem?_eq_getElem (by omega)]
      congr 1
      simpa using hz
    rcases Nat.eq_zero_or_pos len with h0 | h0
    · exact ⟨some a, len, _, fun _ _ => .bool false, rfl, by omega, hmax, fun e => (by cases e), fun h => absurd h (by omega)⟩
    · have : ∃ b off, a = ⟨b, off, none⟩ := by
        obtain ⟨z, hz, _⟩ := key 0 h0 0 hsz
        obtain ⟨b, off, spot⟩ := a
        have hspot : spot = none := by simpa [Addr.add] using World.cell?_spot hz
        exact ⟨b, off, by rw [hspot]⟩
      obtain ⟨b, off, rfl⟩ := this
      let F : Nat → Nat → Value := fun i j => (w.cell? ⟨b, off + (i * fs.size + j), none⟩).getD (.bool false)
      refine ⟨some ⟨b, off, none⟩, len, _, F, rfl, by omega, hmax, fun e => (by cases e), fun _ => ⟨b, off, rfl, ?_, fun i j hi hj => ?_⟩⟩
      · obtain ⟨z, hz, _⟩ := key 0 h0 0 hsz
        have := World.block_lt_of_cell? _ _ hz
        simpa [Addr.add] using this
      · obtain ⟨z, hz, hq⟩ := key i hi j hj
        have e : (⟨b, off, none⟩ : Addr).add (i * fs.size + j) = ⟨b, off + (i * fs.size + j), none⟩ := by
          rw [Go.WideShapes.add_plain]
        rw [e] at hz
        have hF : F i j = z := by simp only [F, hz, Option.getD_some]
        rw [hF, hz]
        exact ⟨rfl, hq⟩
end
/-- A step. -/
structure SendV where
  kind : Int
  dst : Int
  id : Int
  n : Int
  dv : Value
  data : List Int
def encSd (s : SendV) : List Value := [.int .i64 s.kind, .int .i64 s.dst, .int .u64 s.id, .int .i64 s.n, s.dv]
theorem encSd_len (s : SendV) : (encSd s).length = 5 := rfl
def datSd (w : World) (v : Value) (d : List Int) : Prop := Has w w.heap.size 1 encB v d ∧ Byt d ∧ d.length ≤ 9223372036854775807
def fieldSd (w : World) (j : Nat) (u : Value) : Prop := if j = 2 then ∃ z, u = .int .u64 z else if j = 4 then ∃ d, datSd w u d else ∃ z, u = .int .i64 z
theorem open_peerSends_l {H : Type} {enc : TypeId × Value → H} {w : World} {v : Value} {d : DataW H} {p : List MemPlace}
    (hv : Value.okWide Try.prog w .any 0 37 v) (h : DataW.Trod enc Try.prog w 0 (fun _ => true) true 37 v d p) :
    ∃ ss : List SendV, Has w w.heap.size 5 encSd v ss ∧ ss.length ≤ 9223372036854775807 ∧ ∀ s ∈ ss, datSd w s.dv s.data := by
  obtain ⟨fs, hfs, hty, hone, hsz⟩ : ∃ fs, Try.prog.underlying 40 = some (.struct fs) ∧ fs.map (·.type) = #[3, 3, 29, 3, 30] ∧ oneCellFields Try.prog fs = true ∧ fs.size = 5 :=
    ⟨_, Try.underlying40, by kernel_rfl, by kernel_rfl, by kernel_rfl⟩
  obtain ⟨A, n, cap, F, rfl, hnc, hn9, hA, hk⟩ := open_cells0 (fieldSd w) Try.underlying37 hfs hone (by rw [hsz]; kernel_rfl) (by omega) (fun j f hf fuel cs x hx => by
    have hj : j < 5 := by
      have := (Array.getElem?_eq_some_iff.1 hf).1
      omega
    have hft : (fs.map (·.type))[j]? = some f.type := by rw [Array.getElem?_map, hf]; rfl
    rw [hty] at hft
    unfold fieldSd
    rcases (by omega : j = 0 ∨ j = 1 ∨ j = 2 ∨ j = 3 ∨ j = 4) with rfl | rfl | rfl | rfl | rfl
    · have e : 3 = f.type := by simpa using hft
      rw [← e] at hx
      obtain ⟨z, rfl, _⟩ := DataW.trod_int Try.underlying3 hx
      exact ⟨_, rfl, by rw [if_neg (by omega), if_neg (by omega)]; exact ⟨z, rfl⟩⟩
    · have e : 3 = f.type := by simpa using hft
      rw [← e] at hx
      obtain ⟨z, rfl, _⟩ := DataW.trod_int Try.underlying3 hx
      exact ⟨_, rfl, by rw [if_neg (by omega), if_neg (by omega)]; exact ⟨z, rfl⟩⟩
    · have e : 29 = f.type := by simpa using hft
      rw [← e] at hx
      obtain ⟨z, rfl, _⟩ := DataW.trod_int Try.underlying29 hx
      exact ⟨_, rfl, by rw [if_pos rfl]; exact ⟨z, rfl⟩⟩
    · have e : 3 = f.type := by simpa using hft
      rw [← e] at hx
      obtain ⟨z, rfl, _⟩ := DataW.trod_int Try.underlying3 hx
      exact ⟨_, rfl, by rw [if_neg (by omega), if_neg (by omega)]; exact ⟨z, rfl⟩⟩
    · have e : 30 = f.type := by simpa using hft
      rw [← e] at hx
      obtain ⟨v, xs, rfl, hh, hwf, hln⟩ := open_hasL Try.underlying30 Try.underlying5 (by kernel_rfl) hx
      exact ⟨_, rfl, by rw [if_neg (by omega), if_pos rfl]; exact ⟨xs, hh, byt_of_wf hwf, hln⟩⟩) hv h
  rw [hsz] at hk
  have hst : ∀ i, i < n → ∃ s : SendV, (∀ j, j < 5 → some (F i j) = (encSd s)[j]?) ∧ datSd w s.dv s.data := fun i hi => by
    obtain ⟨b, off, rfl, hb, hc⟩ := hk (by omega)
    obtain ⟨x0, h0⟩ := (show ∃ z, F i 0 = .int .i64 z from (hc i 0 hi (by omega)).2)
    obtain ⟨x1, h1⟩ := (show ∃ z, F i 1 = .int .i64 z from (hc i 1 hi (by omega)).2)
    obtain ⟨x2, h2⟩ := (show ∃ z, F i 2 = .int .u64 z from (hc i 2 hi (by omega)).2)
    obtain ⟨x3, h3⟩ := (show ∃ z, F i 3 = .int .i64 z from (hc i 3 hi (by omega)).2)
    obtain ⟨x4, h4⟩ := (show ∃ d, datSd w (F i 4) d from (hc i 4 hi (by omega)).2)
    refine ⟨⟨x0, x1, x2, x3, F i 4, x4⟩, fun j hj => ?_, h4⟩
    rcases (by omega : j = 0 ∨ j = 1 ∨ j = 2 ∨ j = 3 ∨ j = 4) with rfl | rfl | rfl | rfl | rfl
    · rw [h0]; rfl
    · rw [h1]; rfl
    · rw [h2]; rfl
    · rw [h3]; rfl
    · rfl
  let G : Nat → SendV := fun i => if hi : i < n then (hst i hi).choose else ⟨0, 0, 0, 0, .bool false, []⟩
  have hG : ∀ i, i < n → (∀ j, j < 5 → some (F i j) = (encSd (G i))[j]?) ∧ datSd w (G i).dv (G i).data := fun i hi => by
    simp only [G, dif_pos hi]
    exact (hst i hi).choose_spec
  have hl : ((List.range n).map G).length = n := by simp
  refine ⟨(List.range n).map G, has_of_cells encSd_len (by omega) hl hnc hA (fun h0 => ?_), by omega, fun s hs => ?_⟩
  · obtain ⟨b, off, rfl, hb, hc⟩ := hk h0
    refine ⟨b, off, rfl, hb, fun i j x hx hj => ?_⟩
    have hin : i < n := by
      have := (List.getElem?_eq_some_iff.1 hx).1
      rwa [hl] at this
    rw [List.getElem?_map, List.getElem?_range hin] at hx
    obtain rfl := Option.some.inj hx
    rw [(hc i j hin hj).1]
    exact (hG i hin).1 j hj
  · obtain ⟨i, hi, rfl⟩ := List.mem_map.1 hs
    exact (hG i (List.mem_range.1 hi)).2
end Go.Proofs.Ytddnlbkocmpffaa
