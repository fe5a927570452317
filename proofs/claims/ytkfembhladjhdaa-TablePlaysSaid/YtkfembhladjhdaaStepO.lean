/- Steps that came in. -/
import Derived.Test.YtkfembhladjhdaaOpenR
import Derived.Test.YtkfembhladjhdaaCellP
namespace Go.Proofs.Ytkfembhladjhdaa
open Go.ChangeShapes Go.WideShapes Go.RowKit Go.Deep
set_option linter.unusedVariables false
/-- A step. -/
structure St where
  kind : Int
  peer : Int
  id : Int
  v : ByteArray
def encS (s : St) : List Value := [.int .i64 s.kind, .int .i64 s.peer, .int .u64 s.id, .string s.v]
theorem encS_len (s : St) : (encS s).length = 4 := rfl
/-- What a field of a step holds. -/
def fieldS (j : Nat) (u : Value) : Prop := if j = 2 then ∃ z, u = .int .u64 z else if j = 3 then ∃ s : ByteArray, u = .string s ∧ s.size ≤ maxLen else ∃ z, u = .int .i64 z
theorem open_steps {H : Type} {enc : TypeId × Value → H} {P : Program} {w : World} {t e : TypeId} {fs : Array Field} {v : Value} {d : DataW H} {p : List MemPlace} (ht : P.underlying t = some (.slice e)) (he : P.underlying e = some (.struct fs))
    (hone : oneCellFields P fs = true) (hC : P.cellsOf e = fs.size) (hsz : fs.size = 4)
    (hint : ∀ (j : Nat) (f : Field), fs[j]? = some f → P.underlying f.type = some (if j = 2 then .int .u64 else if j = 3 then .string else .int .i64))
    (hv : Value.okWide P w .any 0 t v) (h : DataW.Trod enc P w 0 (fun _ => true) true t v d p) : ∃ ss : List St, Has w w.heap.size 4 encS v ss ∧ ss.length ≤ 9223372036854775807 ∧ ∀ s ∈ ss, s.v.size ≤ maxLen := by
  obtain ⟨A, n, cap, F, rfl, hnc, hn9, hA, hk⟩ := open_cells fieldS ht he hone hC (by omega) (fun j f hf base spare held fuel cs x hx => by
    have hu := hint j f hf
    unfold fieldS
    by_cases h2 : j = 2
    · rw [if_pos h2] at hu
      obtain ⟨z, rfl, _⟩ := DataW.trod_int hu hx
      refine ⟨_, rfl, ?_⟩
      rw [if_pos h2]
      exact ⟨z, rfl⟩
    · rw [if_neg h2] at hu
      by_cases h3 : j = 3
      · rw [if_pos h3] at hu
        obtain ⟨s, rfl, _, hs⟩ := DataW.trod_string hu hx
        refine ⟨_, rfl, ?_⟩
        rw [if_neg h2, if_pos h3]
        exact ⟨s, rfl, hs⟩
      · rw [if_neg h3] at hu
        obtain ⟨z, rfl, _⟩ := DataW.trod_int hu hx
        refine ⟨_, rfl, ?_⟩
        rw [if_neg h2, if_neg h3]
        exact ⟨z, rfl⟩) hv h
  rw [hsz] at hk
  have hst : ∀ i, i < n → ∃ s : St, (∀ j, j < 4 → some (F i j) = (encS s)[j]?) ∧ s.v.size ≤ maxLen := fun i hi => by
    obtain ⟨b, off, rfl, hb, hc⟩ := hk (by omega)
    obtain ⟨a, ha⟩ := (show ∃ z, F i 0 = .int .i64 z from (hc i 0 hi (by omega)).2)
    obtain ⟨b', hb'⟩ := (show ∃ z, F i 1 = .int .i64 z from (hc i 1 hi (by omega)).2)
    obtain ⟨c, hc'⟩ := (show ∃ z, F i 2 = .int .u64 z from (hc i 2 hi (by omega)).2)
    obtain ⟨s, hs, hs2⟩ := (show ∃ s : ByteArray, F i 3 = .string s ∧ s.size ≤ maxLen from (hc i 3 hi (by omega)).2)
    refine ⟨⟨a, b', c, s⟩, fun j hj => ?_, hs2⟩
    rcases (by omega : j = 0 ∨ j = 1 ∨ j = 2 ∨ j = 3) with rfl | rfl | rfl | rfl
    · rw [ha]; rfl
    · rw [hb']; rfl
    · rw [hc']; rfl
    · rw [hs]; rfl
  let G : Nat → St := fun i => if hi : i < n then (hst i hi).choose else ⟨0, 0, 0, ⟨#[]⟩⟩
  have hG : ∀ i, i < n → (∀ j, j < 4 → some (F i j) = (encS (G i))[j]?) ∧ (G i).v.size ≤ maxLen := fun i hi => by
    simp only [G, dif_pos hi]
    exact (hst i hi).choose_spec
  have hl : ((List.range n).map G).length = n := by simp
  refine ⟨(List.range n).map G, has_of_cells encS_len (by omega) hl hnc hA (fun h0 => ?_), by omega, fun s hs => ?_⟩
  · obtain ⟨b, off, rfl, hb, hc⟩ := hk h0
    refine ⟨b, off, rfl, hb, fun i j x hx hj => ?_⟩
    have hin : i < n := by
      have := (List.getElem?_eq_some_iff.1 hx).1
      rwa [hl] at this
    rw [List.getElem?_map, List.getElem?_range hin] at hx
    obtain rfl := Option.some.inj hx
    rw [(hc i j hin hj).1]
    exact (hG i hin).1 j hj
  · obtain ⟨i, hi, rfl⟩ := List.mem_map.1 hs
    exact (hG i (List.mem_range.1 hi)).2
end Go.Proofs.Ytkfembhladjhdaa
