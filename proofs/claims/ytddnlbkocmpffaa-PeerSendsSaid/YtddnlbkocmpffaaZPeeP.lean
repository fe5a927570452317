/- Cells of things: records, ranges, messages. -/
import Derived.Test.YtddnlbkocmpffaaZOpenI
namespace Go.Proofs.Ytddnlbkocmpffaa
set_option linter.unusedVariables false
abbrev encU (z : Int) : List Value := [.int .u64 z]
theorem encU_len (z : Int) : (encU z).length = 1 := rfl
theorem SlU.one_at (x : Int) : ∀ v ∈ encU x, v.oneCell' = true := fun v hv => by
  simp at hv
  rw [hv]
  rfl
theorem SlU.one_zero : ∀ v ∈ (Value.cells (.int .u64 0)).toList, v.oneCell' = true := fun v hv => by
  simp [Value.cells] at hv
  rw [hv]
  rfl
/-- A range's ends. -/
abbrev encR (r : Int × Int) : List Value := [.int .i64 r.1, .int .i64 r.2]
theorem encR_len (r : Int × Int) : (encR r).length = 2 := rfl
theorem SlR.one_at (r : Int × Int) : ∀ v ∈ encR r, v.oneCell' = true := fun v hv => by
  simp at hv
  rcases hv with rfl | rfl <;> rfl
theorem SlR.one_zero : ∀ v ∈ (Value.cells (.agg #[.int .i64 0, .int .i64 0])).toList, v.oneCell' = true := fun v hv => by
  simp [Value.cells] at hv
  rcases hv with rfl | rfl <;> rfl
/-- A message that was delivered: whom it is from, its number, its bytes' slice. -/
structure MsgV where
  src : Int
  id : Int
  dv : Value
  one : dv.oneCell' = true
abbrev encM (m : MsgV) : List Value := [.int .i64 m.src, .int .u64 m.id, m.dv]
theorem encM_len (m : MsgV) : (encM m).length = 3 := rfl
theorem SlM.one_at (m : MsgV) : ∀ v ∈ encM m, v.oneCell' = true := fun v hv => by
  simp at hv
  rcases hv with rfl | rfl | rfl
  · rfl
  · rfl
  · exact m.one
theorem SlM.one_zero : ∀ v ∈ (Value.cells (.agg #[.int .i64 0, .int .u64 0, .slice none 0 0])).toList, v.oneCell' = true := fun v hv => by
  simp [Value.cells] at hv
  rcases hv with rfl | rfl | rfl <;> rfl
end Go.Proofs.Ytddnlbkocmpffaa
