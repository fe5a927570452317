/- The contract of the reference's Split. -/
import Derived.Test.YtigkndbkaagboaaGreatDoorLSplW
import Derived.Lib.IndexBytes
namespace Go.Proofs.YtigkndbkaagboaaGreatDoor
open Go.RowKit
set_option linter.unusedVariables false
set_option maxHeartbeats 4000000
set_option maxRecDepth 100000
theorem str_info : (Tryz.prog.info? 9).map (fun i => (i.zero, i.size, i.bytes)) = some (some (.string ⟨#[]⟩), 1, 16) := by kernel_rfl
theorem one_T (l : List Tx) : ∀ y ∈ l.flatMap encT, y.oneCell' = true := fun y hy => by
  obtain ⟨c, _, hc⟩ := List.mem_flatMap.1 hy
  simp [encT] at hc
  rw [hc]
  rfl
theorem slice_tb (s : ByteArray) (a b : Nat) (h : a ≤ b) (h2 : b ≤ s.size) (w : World) :
    (Instr.slice 9 (.string s) (some (.int .i64 (a : Int))) (some (.int .i64 (b : Int))) none).run Tryz.prog w = .ok (.string (tb ((s.data.toList.drop a).take (b - a)))) w := by
  rw [run_slice_string (h := Tryz.underlying9) (h0 := by omega) (h1 := by omega) (h2 := by omega)]
  have : s.extract ((a : Int)).toNat ((b : Int)).toNat = tb ((s.data.toList.drop a).take (b - a)) := by
    apply data_inj
    rw [tb_data, Lib.extract_data]
    rfl
  rw [this]
theorem cut_piece (x : UInt8) (l : Tx) (n : Nat) (h : ∀ c ∈ l.take n, c ≠ x) (hn : l.drop n = [] ∨ ∃ r, l.drop n = x :: r) : cutT x l = l.take n :: (match l.drop n with
    | [] => []
    | _ :: r => cutT x r) := by
  have e := (List.take_append_drop n l).symm
  rcases hn with hn | ⟨r, hn⟩
  · rw [hn, List.append_nil] at e
    rw [hn]
    have := wordsT_one x (l.take n) h
    rw [← e] at this
    rw [this, ← e]
  · rw [hn] at e
    rw [hn]
    have := wordsT_app x (l.take n) r h
    rw [← e] at this
    exact this
theorem litOwn {w : World} {base n size : Nat} (T : TypeId) (cs : Array Value) (k : Nat) (hn : w.heap.size = n) (hb : base ≤ n) (hk : k ≤ maxLen) (hs : cs.size = k * size) :
    (w.alloc (.cells cs T)).ownsRow base T size (.slice (some ⟨n, 0, none⟩) k k) k cs.toList := by
  subst hn
  exact World.ownsRow_lit w cs k hb hk hs
theorem take_snocT {α : Type} {l : List α} {q : Nat} {c : α} (h : l[q]? = some c) : l.take (q + 1) = l.take q ++ [c] := by
  rw [List.take_add_one, h]
  rfl
def encB (c : UInt8) : List Value := [.int .u8 (c.toNat : Int)]
theorem encB_len (c : UInt8) : (encB c).length = 1 := rfl
theorem one_B (l : List UInt8) : ∀ y ∈ l.flatMap encB, y.oneCell' = true := fun y hy => by
  obtain ⟨c, _, hc⟩ := List.mem_flatMap.1 hy
  simp [encB] at hc
  rw [hc]
  rfl
end Go.Proofs.YtigkndbkaagboaaGreatDoor
