/- TopRates: its walks joined, and its slices opened. -/
import Derived.Test.YtigkndbkaagboaaGreatDoorZTrtY
import Derived.Test.YtigkndbkaagboaaGreatDoorZTrtN
import Derived.Test.YtigkndbkaagboaaGreatDoorOpenI
import Derived.WalkKit
namespace Go.Proofs.YtigkndbkaagboaaGreatDoor
open Go.ChangeShapes Go.WideShapes Go.RowKit
set_option linter.unusedVariables false
set_option linter.unusedSimpArgs false
set_option maxHeartbeats 2000000
set_option maxRecDepth 100000
theorem walk_trLong (A1 A2 : Option Addr) (ns c1 nl c2 : Nat) (most target peers : Int) (w : World) (hp : Pow w) (h : 60 < ns) :
    Calls Tryz.prog 4 #[.int .i64 most, .int .i64 target, .slice A1 ns c1, .slice A2 nl c2, .int .i64 peers] w fun e w' => e = .returned (.bool true) ∧ Mod (fun _ => False) w w' := by
  have hl' : (60 : Int) < (ns : Int) := by omega
  have HC := Lib.hid (awakeTop w hp)
  clear hp
  go_enter Tryz.func4, Tryz.ntmps4
  go_wp2_with fail
  refine HC.out.mono ?_
  rintro e w1 ⟨rfl, m1⟩
  go_wp2_with fail
  go_ret
  exact ⟨rfl, m1⟩
theorem walk_trFew (A1 A2 : Option Addr) (ns c1 nl c2 : Nat) (most target peers : Int) (w : World) (hp : Pow w) (h : ns ≤ 60) (h1 : peers < 1) :
    Calls Tryz.prog 4 #[.int .i64 most, .int .i64 target, .slice A1 ns c1, .slice A2 nl c2, .int .i64 peers] w fun e w' => e = .returned (.bool true) ∧ Mod (fun _ => False) w w' := by
  have hl' : ¬ (60 : Int) < (ns : Int) := by omega
  have HC := Lib.hid (awakeTop w hp)
  clear hp
  go_enter Tryz.func4, Tryz.ntmps4
  go_wp2_with fail
  refine HC.out.mono ?_
  rintro e w1 ⟨rfl, m1⟩
  go_wp2_with fail
  go_ret
  exact ⟨rfl, m1⟩
theorem walk_trMany (A1 A2 : Option Addr) (ns c1 nl c2 : Nat) (most target peers : Int) (w : World) (hp : Pow w) (h : ns ≤ 60) (h1 : 8 < peers) :
    Calls Tryz.prog 4 #[.int .i64 most, .int .i64 target, .slice A1 ns c1, .slice A2 nl c2, .int .i64 peers] w fun e w' => e = .returned (.bool true) ∧ Mod (fun _ => False) w w' := by
  have hl' : ¬ (60 : Int) < (ns : Int) := by omega
  have h2 : ¬ peers < 1 := by omega
  have HC := Lib.hid (awakeTop w hp)
  clear hp
  go_enter Tryz.func4, Tryz.ntmps4
  go_wp2_with fail
  refine HC.out.mono ?_
  rintro e w1 ⟨rfl, m1⟩
  go_wp2_with fail
  go_ret
  exact ⟨rfl, m1⟩
theorem walk_topRates {v1 v2 : Value} (w : World) (E : EnvT w) (most : Int) {p0 : Prop} (w0 : p0) (target : Int) {p1 : Prop} (w1 : p1) (sent : List Int) (hs : Has w w.heap.size 1 encI v1 sent) (lost : List Int) (hl : Has w w.heap.size 1 encI v2 lost) (peers : Int) {p4 : Prop} (w4 : p4) :
    Calls Tryz.prog 4 #[.int .i64 most, .int .i64 target, v1, v2, .int .i64 peers] w fun e w' => e = .returned (.bool true) ∧ Below w.heap.size w w' := by
  have key : Calls Tryz.prog 4 #[.int .i64 most, .int .i64 target, v1, v2, .int .i64 peers] w fun e w' => e = .returned (.bool true) ∧ Mod (fun _ => False) w w' := by
    obtain ⟨A1, c1, rfl, _⟩ := hs.form
    obtain ⟨A2, c2, rfl, _⟩ := hl.form
    by_cases h60 : sent.length ≤ 60
    · by_cases h1 : peers < 1
      · exact walk_trFew A1 A2 _ c1 _ c2 most target peers w E.pow h60 h1
      · by_cases h8 : 8 < peers
        · exact walk_trMany A1 A2 _ c1 _ c2 most target peers w E.pow h60 h8
        · obtain ⟨N, rfl⟩ : ∃ N : Nat, peers = (N : Int) := ⟨peers.toNat, by omega⟩
          by_cases ha : askC most target
          · exact walk_yes A1 A2 _ c1 _ c2 sent lost most target N w E hs hl rfl rfl h60 (by omega) (by omega) ha
          · exact walk_no A1 A2 _ c1 _ c2 sent lost most target N w E hs hl rfl rfl h60 (by omega) (by omega) ha
    · exact walk_trLong A1 A2 _ c1 _ c2 most target peers w E.pow (by omega)
  exact key.mono fun e w' ⟨he, hm⟩ => ⟨he, hm.below⟩
theorem open_topRates_sent {H : Type} {enc : TypeId × Value → H} {w : World} {v : Value} {d : DataW H} {p : List MemPlace}
    (hv : Value.okWide Tryz.prog w .any 0 36 v) (h : DataW.Trod enc Tryz.prog w 0 (fun _ => true) true 36 v d p) : ∃ xs : List Int, Has w w.heap.size 1 encI v xs := by
  obtain ⟨xs, hx, _⟩ := open_has (k := .i64) Tryz.underlying36 Tryz.underlying3 (by kernel_rfl) hv h
  exact ⟨xs, hx⟩
theorem open_topRates_lost {H : Type} {enc : TypeId × Value → H} {w : World} {v : Value} {d : DataW H} {p : List MemPlace}
    (hv : Value.okWide Tryz.prog w .any 0 36 v) (h : DataW.Trod enc Tryz.prog w 0 (fun _ => true) true 36 v d p) : ∃ xs : List Int, Has w w.heap.size 1 encI v xs := open_topRates_sent hv h
end Go.Proofs.YtigkndbkaagboaaGreatDoor
