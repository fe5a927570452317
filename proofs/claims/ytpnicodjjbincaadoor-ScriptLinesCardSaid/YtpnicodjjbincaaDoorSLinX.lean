/- The walk of ScriptLines, whatever lines come in. -/
import Derived.Test.YtpnicodjjbincaaDoorSOpE
import Derived.Test.YtpnicodjjbincaaDoorSLinW
import Derived.Test.YtpnicodjjbincaaDoorSTexW
import Derived.Test.YtpnicodjjbincaaDoorRowM
import Derived.SliceStrings
namespace Go.Proofs.YtpnicodjjbincaaDoor
open Go.RowKit Go.ChangeShapes Go.WideShapes Go.Deep
set_option linter.unusedVariables false
set_option maxHeartbeats 8000000
set_option maxRecDepth 100000
/-- Texts that came in. -/
def InL (w : World) (v : Value) (l : List Tx) : Prop := Has w w.heap.size 1 encT v l ∧ (∀ t ∈ l, t.length ≤ 9223372036854775807) ∧ l.length ≤ 9223372036854775807
theorem open_scriptLines_l {H : Type} {enc : TypeId × Value → H} {w : World} {v : Value} {d : DataW H} {p : List MemPlace}
    (hv : Value.okWide Tryd.prog w .any 0 39 v) (h : DataW.Trod enc Tryd.prog w 0 (fun _ => true) true 39 v d p) : ∃ l : List Tx, InL w v l := by
  obtain ⟨a0, len, cap, rfl⟩ := okWide_slice Tryd.underlying39 hv
  obtain ⟨fuel, hf⟩ := h
  rcases open_strings Tryd.underlying39 Tryd.underlying9 (by kernel_rfl) hf with ⟨h0, _⟩ | ⟨a, len', cap', ss, hcs, hb, hl, hm, hzl, hx, hcell, hwf⟩
  · simp [Value.cells] at h0
    obtain ⟨rfl, rfl, rfl⟩ := h0
    exact ⟨[], Has.nil, (fun z h => by cases h), by simp⟩
  · simp [Value.cells] at hcs
    obtain ⟨rfl, rfl, rfl⟩ := hcs
    simp only [if_true] at hzl
    have htl : (ss.take len).length = len := by rw [List.length_take]; omega
    have hml : ((ss.take len).map fun s => s.data.toList).length = len := by rw [List.length_map, htl]
    have hat : ∀ i, i < cap → w.cell? (a.add i) = some (.string (ss.getD i ByteArray.empty)) := fun i hi => hcell i (by omega)
    refine ⟨(ss.take len).map fun s => s.data.toList, ⟨some a, cap, by rw [hml], by omega, (fun e => by cases e), ?_, fun g e hn => ?_⟩, fun t ht => ?_, by rw [hml]; unfold maxLen at hm; omega⟩
    · have hid : (tb ∘ fun s : ByteArray => s.data.toList) = id := funext fun s => tb_of s
      rw [flatT, show ((ss.take len).map fun s => s.data.toList).map tb = ss.take len by rw [List.map_map, hid, List.map_id], hml]
      refine ⟨by simp; omega, fun hn => ⟨a, rfl, ?_, fun j u hu => ?_⟩⟩
      · have := World.block_lt_of_cell? _ _ (hat 0 (by omega))
        rwa [block_of_add] at this
      · rw [List.getElem?_map, List.getElem?_take] at hu
        by_cases hj : j < len
        · rw [if_pos hj, List.getElem?_eq_getElem (show j < ss.length by omega)] at hu
          have := hat j (by omega)
          rw [this]
          simp [List.getD, List.getElem?_eq_getElem (show j < ss.length by omega)] at hu ⊢
          exact hu
        · rw [if_neg hj] at hu; cases hu
    · obtain rfl := Option.some.inj e
      rw [hml] at hn
      have h0 := hat 0 (by omega)
      refine ⟨by simpa [Addr.add] using World.cell?_spot h0, ?_⟩
      have := World.block_lt_of_cell? _ _ h0
      rwa [block_of_add] at this
    · obtain ⟨s, hs, rfl⟩ := List.mem_map.1 ht
      have := hwf s (List.mem_of_mem_take hs)
      rw [data_len]
      unfold maxLen at this
      omega
/-- The first k lines, put together. -/
def joinT (l : List Tx) : Tx := l.flatMap (fun t => t ++ [10])
theorem join_snoc {l : List Tx} {k : Nat} {t : Tx} (h : l[k]? = some t) : joinT (l.take (k + 1)) = joinT (l.take k) ++ t ++ [10] := by
  unfold joinT
  rw [take_snoc h, List.flatMap_append]
  simp
theorem join_size {l : List Tx} {k : Nat} : (joinT (l.take k)).length ≤ (joinT l).length := by
  unfold joinT
  conv => rhs; rw [← List.take_append_drop k l, List.flatMap_append, List.length_append]
  omega
theorem join_at {l : List Tx} {k : Nat} {t : Tx} (h : l[k]? = some t) : t.length ≤ (joinT l).length := by
  have h1 := join_size (l := l) (k := k + 1)
  rw [join_snoc h] at h1
  simp at h1
  omega
theorem walk_out (v : Value) (ex big : Int) (w : World) (E : Env w) (h : ex < 0 ∨ 10100 < ex ∨ big < 0 ∨ 300000 < big) :
    Calls Tryd.prog 5 #[v, .int .i64 ex, .int .i64 big] w fun e w' => e = .returned (.bool true) ∧ Mod (fun _ => False) w w' := by
  have HA := Lib.hid (awakeW w E)
  have H := Lib.hid h
  clear h E
  by_cases c1 : ex < 0
  · have d1 : decide (ex < 0) = true := by simpa using c1
    go_enter Tryd.func5, Tryd.ntmps5
    go_wp2_with fail
    refine HA.out.mono ?_
    rintro e w2 ⟨rfl, m2⟩
    have HM2 := Lib.hid m2
    clear m2
    go_wp2_with fail
    go_ret
    exact ⟨rfl, HM2.out⟩
  · have d1 : decide (ex < 0) = false := by simpa using c1
    by_cases c2 : 10100 < ex
    · have d2 : decide ((10100 : Int) < ex) = true := by simpa using c2
      go_enter Tryd.func5, Tryd.ntmps5
      go_wp2_with fail
      refine HA.out.mono ?_
      rintro e w2 ⟨rfl, m2⟩
      have HM2 := Lib.hid m2
      clear m2
      go_wp2_with fail
      go_ret
      exact ⟨rfl, HM2.out⟩
    · have d2 : decide ((10100 : Int) < ex) = false := by simpa using c2
      by_cases c3 : big < 0
      · have d3 : decide (big < 0) = true := by simpa using c3
        go_enter Tryd.func5, Tryd.ntmps5
        go_wp2_with fail
        refine HA.out.mono ?_
        rintro e w2 ⟨rfl, m2⟩
        have HM2 := Lib.hid m2
        clear m2
        go_wp2_with fail
        go_ret
        exact ⟨rfl, HM2.out⟩
      · have d3 : decide (big < 0) = false := by simpa using c3
        have c4 : (300000 : Int) < big := by
          have := H.out
          omega
        have d4 : decide ((300000 : Int) < big) = true := by simpa using c4
        go_enter Tryd.func5, Tryd.ntmps5
        go_wp2_with fail
        refine HA.out.mono ?_
        rintro e w2 ⟨rfl, m2⟩
        have HM2 := Lib.hid m2
        clear m2
        go_wp2_with fail
        go_ret
        exact ⟨rfl, HM2.out⟩
end Go.Proofs.YtpnicodjjbincaaDoor
