/- The evaluator: functions of Go's library that are taken by their contracts. -/
import Derived.Test.YtcandpiafgicbaaGreatDoorEvX
import Derived.Laws.AppendOwn
namespace Go.Proofs.YtcandpiafgicbaaGreatDoor.Ev
open Go hiding Obj
set_option linter.unusedVariables false
set_option linter.unusedSimpArgs false
set_option linter.unusedSectionVars false
variable [Gl]
section
variable {P : Program}
theorem Fr.below {r : Ren} {S : St} {w w' : World} (h : Rel r S w) (hb : RowKit.Below w.heap.size w w') : Fr r S w r S w' :=
  Fr.mk' h r.le_refl h.n h.even hb.size (fun i o hi => .inl ⟨hi, fun ho => hb.block _ (h.lt hi ho)⟩) (fun b hbl _ => hb.block b hbl) hb.os hb.tape hb.output
/-- A row that a call made is taken for a grown one. -/
theorem Fr.row {r : Ren} {S : St} {w w' : World} (h : Rel r S w) (hb : RowKit.Below w.heap.size w w') {v' : Value} {n sz : Nat} {e : TypeId} {xs xs' : List Value} (hrow : w'.ownsRow w.heap.size e sz v' n xs') (hx : VRs r xs xs') (h1 : ∀ v ∈ xs', v.oneCell' = true) (hn : n ≠ 0) :
    ∃ r', Fr r S w r' (S.newG (.cells xs e sz)) w' ∧ VR r' (.slice (some ⟨S.next + 1, 0, none⟩) n 0) v' := by
  obtain ⟨hl, hr⟩ := hrow
  rcases hr with ⟨_, h0⟩ | ⟨g, cap, cur, rfl, hg, hhp, hncap, _, hsz, htake⟩
  · exact absurd h0 hn
  have hnn := h.n
  have hle := r.le_ext (i := S.next + 1) (by omega) g 0 cap
  have hlt := (Array.getElem?_eq_some_iff.1 hhp).1
  have hcell : ∀ j, w'.cell? ⟨g, j, none⟩ = cur[j]? := fun j => by unfold World.cell?; rw [hhp]; simp
  have hfz : ∀ j, w'.frozen? ⟨g, j, none⟩ = false := fun j => by unfold World.frozen?; rw [hhp]; simp
  have hmul : n * sz ≤ cap * sz := Nat.mul_le_mul_right _ hncap
  refine ⟨r.ext (S.next + 1) g 0 cap, ?_, VR.newO h g 0 cap n⟩
  refine Fr.mk' h hle (by simp [Ren.ext, St.newG, hnn]) (by simp only [St.newG]; have := h.even; omega) hb.size ?_ (fun b hbl _ => hb.block b hbl) hb.os hb.tape hb.output
  intro i o hi
  rcases St.get_newG hi with ⟨rfl, rfl⟩ | ⟨hne, hi⟩
  · refine .inr ⟨by simp [Ren.ext, hnn], ⟨by rw [Ren.ext_μ]; exact ⟨_, 0, 0, hhp, .inl rfl⟩, fun j v hj => ?_, fun _ => ⟨?_, fun j hj => ?_⟩, fun he => absurd he (by have := h.even; omega)⟩, fun _ => ⟨.inr (by rw [Ren.ext_μ]; exact hg), fun j oj hj hgj hoj => ?_⟩⟩
    · rw [Ren.ext_μ, Ren.ext_δ, Nat.add_zero, hcell, hfz]
      obtain ⟨v', e1, e2⟩ := hx.get hj
      have e3 : (cur.toList.take (n * sz))[j]? = some v' := by rw [htake]; exact e1
      have hjl : j < n * sz := by
        have := (List.getElem?_eq_some_iff.1 e1).1
        omega
      rw [List.getElem?_take_of_lt hjl] at e3
      exact ⟨v', by simpa using e3, e2.mono hle, h1 v' (List.mem_of_getElem? e1), rfl⟩
    · rw [Ren.ext_κ, hx.length, hl]; exact hmul
    · rw [Ren.ext_κ] at hj
      rw [Ren.ext_μ, Ren.ext_δ, Nat.add_zero, hcell, hfz, Array.getElem?_eq_getElem (by omega)]
      exact ⟨rfl, rfl⟩
    · rcases St.get_newG hgj with ⟨rfl, _⟩ | ⟨_, hgj⟩
      · exact absurd rfl hj
      · rw [Ren.ext_μ, (hle.2 j (h.objs j _ hgj).1).1]
        have := h.lt hgj hoj
        omega
  · exact .inl ⟨hi, fun ho => hb.block _ (h.lt hi ho)⟩
end
end Go.Proofs.YtcandpiafgicbaaGreatDoor.Ev
