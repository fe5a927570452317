/- The tables of ShellRefused, and what its calls answer, by number. -/
import Derived.Test.YtcandpiafgicbaaGreatDoorRefA
import Derived.Test.YtcandpiafgicbaaGreatDoorRefB
import Derived.Test.YtcandpiafgicbaaGreatDoorRefI
import Derived.Test.YtcandpiafgicbaaGreatDoorRefD
import Derived.Test.YtcandpiafgicbaaGreatDoorRefE
import Derived.Test.YtcandpiafgicbaaGreatDoorTeS
import Derived.Lib.SplitLaws
import Derived.HandedShaped
import Derived.Handed
import Derived.Lib.LaidTab
import Derived.Stop.LaidErr
import Derived.LaidMore
import Derived.Lay
import Derived.Great.Walk
import Derived.Deep.RegionHeld3
import Derived.WalkKit
section
namespace Go.Proofs.YtcandpiafgicbaaGreatDoor
open Go.Proofs.YtcandpiafgicbaaGreatDoor.Ev Go.RowKit
open Go hiding Obj
set_option linter.unusedVariables false
set_option maxRecDepth 100000
def rfLl : List (List UInt8) := [[115, 117, 98, 109, 105, 116, 32, 48, 32, 48, 32, 48, 48], [115, 117, 98, 109, 105, 116, 32, 48, 32, 53, 32, 48, 48], [115, 117, 98, 109, 105, 116, 32, 57, 32, 48, 32, 48, 48], [99, 97, 110, 99, 101, 108, 32, 48, 32, 55], [99, 97, 110, 99, 101, 108, 32, 57, 32, 49], [115, 116, 101, 112, 32, 57, 32, 48], [115, 101, 114, 118, 101, 32, 57, 57], [100, 114, 111, 112, 32, 48, 32, 48], [100, 111, 117, 98, 108, 101, 32, 57, 57, 32, 48], [103, 97, 114, 98, 108, 101, 32, 57, 32, 48, 48], [115, 117, 98, 109, 105, 116, 32, 48, 32, 49], [115, 117, 98, 109, 105, 116, 32, 32, 48, 32, 49, 32, 48, 48], [116, 105, 99, 107], [116, 105, 99, 107, 32, 45, 49], [105, 100, 108, 101, 32, 49], [112, 111, 108, 108, 32, 48, 48], [73, 100, 108, 101]]
def rfE : List Int := [1, 1, 5, 5, 5, 5, 5, 5, 5, 5, 2, 2, 2, 2, 2, 2, 2]
def rfCl : List (List UInt8) := [[99, 111, 110, 102, 105, 103, 32, 49, 32, 50, 32, 49, 32, 49, 48, 48, 32, 50, 48, 48, 32, 50, 32, 52, 48, 48, 32, 53, 48, 48, 48, 32, 52, 32, 54, 32, 50, 48, 32, 52, 48, 32, 48, 32, 49, 48, 48, 48, 10], [99, 111, 110, 102, 105, 103, 32, 50, 32, 50, 32, 49, 32, 49, 48, 48, 32, 51, 32, 50, 32, 48, 32, 53, 48, 48, 48, 32, 52, 32, 54, 32, 50, 48, 32, 52, 48, 32, 48, 32, 49, 48, 48, 48, 10], [99, 111, 110, 102, 105, 103, 32, 51, 32, 50, 32, 49, 32, 49, 48, 48, 32, 48, 32, 50, 32, 48, 32, 53, 48, 48, 48, 32, 52, 32, 54, 32, 50, 48, 32, 52, 48, 32, 48, 32, 49, 48, 48, 48, 10], [99, 111, 110, 102, 105, 103, 32, 49, 32, 50, 32, 49, 32, 49, 48, 48, 32, 50, 48, 48, 32, 50, 32, 52, 48, 48, 32, 53, 48, 48, 48, 32, 52, 32, 54, 32, 50, 48, 32, 52, 48, 32, 48, 32, 49, 48, 48, 48, 10], [99, 111, 110, 102, 105, 103, 32, 50, 32, 50, 32, 49, 32, 49, 48, 48, 32, 51, 32, 50, 32, 48, 32, 53, 48, 48, 48, 32, 52, 32, 54, 32, 50, 48, 32, 52, 48, 32, 48, 32, 49, 48, 48, 48, 10], [99, 111, 110, 102, 105, 103, 32, 51, 32, 50, 32, 49, 32, 49, 48, 48, 32, 48, 32, 50, 32, 48, 32, 53, 48, 48, 48, 32, 52, 32, 54, 32, 50, 48, 32, 52, 48, 32, 48, 32, 49, 48, 48, 48, 10], [99, 111, 110, 102, 105, 103, 32, 49, 32, 50, 32, 49, 32, 49, 48, 48, 32, 50, 48, 48, 32, 50, 32, 52, 48, 48, 32, 53, 48, 48, 48, 32, 52, 32, 54, 32, 50, 48, 32, 52, 48, 32, 48, 32, 49, 48, 48, 48, 10], [99, 111, 110, 102, 105, 103, 32, 50, 32, 50, 32, 49, 32, 49, 48, 48, 32, 51, 32, 50, 32, 48, 32, 53, 48, 48, 48, 32, 52, 32, 54, 32, 50, 48, 32, 52, 48, 32, 48, 32, 49, 48, 48, 48, 10], [99, 111, 110, 102, 105, 103, 32, 51, 32, 50, 32, 49, 32, 49, 48, 48, 32, 48, 32, 50, 32, 48, 32, 53, 48, 48, 48, 32, 52, 32, 54, 32, 50, 48, 32, 52, 48, 32, 48, 32, 49, 48, 48, 48, 10], [99, 111, 110, 102, 105, 103, 32, 49, 32, 50, 32, 49, 32, 49, 48, 48, 32, 50, 48, 48, 32, 50, 32, 52, 48, 48, 32, 53, 48, 48, 48, 32, 52, 32, 54, 32, 50, 48, 32, 52, 48, 32, 48, 32, 49, 48, 48, 48, 10], [99, 111, 110, 102, 105, 103, 32, 50, 32, 50, 32, 49, 32, 49, 48, 48, 32, 51, 32, 50, 32, 48, 32, 53, 48, 48, 48, 32, 52, 32, 54, 32, 50, 48, 32, 52, 48, 32, 48, 32, 49, 48, 48, 48, 10], [99, 111, 110, 102, 105, 103, 32, 51, 32, 50, 32, 49, 32, 49, 48, 48, 32, 48, 32, 50, 32, 48, 32, 53, 48, 48, 48, 32, 52, 32, 54, 32, 50, 48, 32, 52, 48, 32, 48, 32, 49, 48, 48, 48, 10], [99, 111, 110, 102, 105, 103, 32, 49, 32, 50, 32, 49, 32, 49, 48, 48, 32, 50, 48, 48, 32, 50, 32, 52, 48, 48, 32, 53, 48, 48, 48, 32, 52, 32, 54, 32, 50, 48, 32, 52, 48, 32, 48, 32, 49, 48, 48, 48, 10], [99, 111, 110, 102, 105, 103, 32, 50, 32, 50, 32, 49, 32, 49, 48, 48, 32, 51, 32, 50, 32, 48, 32, 53, 48, 48, 48, 32, 52, 32, 54, 32, 50, 48, 32, 52, 48, 32, 48, 32, 49, 48, 48, 48, 10], [99, 111, 110, 102, 105, 103, 32, 51, 32, 50, 32, 49, 32, 49, 48, 48, 32, 48, 32, 50, 32, 48, 32, 53, 48, 48, 48, 32, 52, 32, 54, 32, 50, 48, 32, 52, 48, 32, 48, 32, 49, 48, 48, 48, 10], [99, 111, 110, 102, 105, 103, 32, 49, 32, 50, 32, 49, 32, 49, 48, 48, 32, 50, 48, 48, 32, 50, 32, 52, 48, 48, 32, 53, 48, 48, 48, 32, 52, 32, 54, 32, 50, 48, 32, 52, 48, 32, 48, 32, 49, 48, 48, 48, 10], [99, 111, 110, 102, 105, 103, 32, 50, 32, 50, 32, 49, 32, 49, 48, 48, 32, 51, 32, 50, 32, 48, 32, 53, 48, 48, 48, 32, 52, 32, 54, 32, 50, 48, 32, 52, 48, 32, 48, 32, 49, 48, 48, 48, 10]]
def rfDl : List (List UInt8) := [[49], [49], [53], [53], [53], [53], [53], [53], [53], [53], [50], [50], [50], [50], [50], [50], [50]]
def rfLb (c : Nat) : List UInt8 := rfLl.getD c []
def rfLt (c : Nat) : ByteArray := ⟨(rfLb c).toArray⟩
def rfCb (c : Nat) : List UInt8 := rfCl.getD c []
def rfCt (c : Nat) : ByteArray := ⟨(rfCb c).toArray⟩
def rfDb (c : Nat) : List UInt8 := rfDl.getD c []
def rfDt (c : Nat) : ByteArray := ⟨(rfDb c).toArray⟩
def rfEt (c : Nat) : Int := rfE.getD c 0
def rfLv : Array Value := ⟨rfLl.map fun (x : List UInt8) => Value.string ⟨x.toArray⟩⟩
def rfEv : Array Value := ⟨rfE.map fun x => Value.int .i64 x⟩
theorem nth_map {α : Type} (f : α → Value) (d : α) : ∀ (l : List α) (c : Nat), c < l.length → (⟨l.map f⟩ : Array Value)[c]? = some (f (l.getD c d)) := by
  intro l c h
  rw [List.getElem?_toArray, List.getElem?_map, List.getElem?_eq_getElem h, List.getD, List.getElem?_eq_getElem h]
  exact Eq.refl _
theorem rfLv_at (c : Nat) (hc : c < 17) : rfLv[c]? = some (.string (rfLt c)) := nth_map (α := List UInt8) (fun x => Value.string ⟨x.toArray⟩) [] rfLl c hc
theorem rfEv_at (c : Nat) (hc : c < 17) : rfEv[c]? = some (.int .i64 (rfEt c)) := nth_map (fun x => Value.int .i64 x) 0 rfE c hc
theorem rfCfgK (c : Nat) (hc : c < 17) (w : World) (hw : Pow w) : Calls Tryz.prog 6 ⟨[.int .i64 (c : Int), .int .i64 2]⟩ w (ansP (rfCt c) w) := by
  rcases (show c = 0 ∨ c = 1 ∨ c = 2 ∨ c = 3 ∨ c = 4 ∨ c = 5 ∨ c = 6 ∨ c = 7 ∨ c = 8 ∨ c = 9 ∨ c = 10 ∨ c = 11 ∨ c = 12 ∨ c = 13 ∨ c = 14 ∨ c = 15 ∨ c = 16 by omega) with rfl | rfl | rfl | rfl | rfl | rfl | rfl | rfl | rfl | rfl | rfl | rfl | rfl | rfl | rfl | rfl | rfl
  · exact ans_cast (Eq.refl _) (ba_of (Eq.refl _)) (rfCfg0W w hw)
  · exact ans_cast (Eq.refl _) (ba_of (Eq.refl _)) (rfCfg1W w hw)
  · exact ans_cast (Eq.refl _) (ba_of (Eq.refl _)) (rfCfg2W w hw)
  · exact ans_cast (Eq.refl _) (ba_of (Eq.refl _)) (rfCfg3W w hw)
  · exact ans_cast (Eq.refl _) (ba_of (Eq.refl _)) (rfCfg4W w hw)
  · exact ans_cast (Eq.refl _) (ba_of (Eq.refl _)) (rfCfg5W w hw)
  · exact ans_cast (Eq.refl _) (ba_of (Eq.refl _)) (rfCfg6W w hw)
  · exact ans_cast (Eq.refl _) (ba_of (Eq.refl _)) (rfCfg7W w hw)
  · exact ans_cast (Eq.refl _) (ba_of (Eq.refl _)) (rfCfg8W w hw)
  · exact ans_cast (Eq.refl _) (ba_of (Eq.refl _)) (rfCfg9W w hw)
  · exact ans_cast (Eq.refl _) (ba_of (Eq.refl _)) (rfCfg10W w hw)
  · exact ans_cast (Eq.refl _) (ba_of (Eq.refl _)) (rfCfg11W w hw)
  · exact ans_cast (Eq.refl _) (ba_of (Eq.refl _)) (rfCfg12W w hw)
  · exact ans_cast (Eq.refl _) (ba_of (Eq.refl _)) (rfCfg13W w hw)
  · exact ans_cast (Eq.refl _) (ba_of (Eq.refl _)) (rfCfg14W w hw)
  · exact ans_cast (Eq.refl _) (ba_of (Eq.refl _)) (rfCfg15W w hw)
  · exact ans_cast (Eq.refl _) (ba_of (Eq.refl _)) (rfCfg16W w hw)
theorem rfDecK (c : Nat) (hc : c < 17) (w : World) (hw : Pow w) : Calls Tryz.prog 8 ⟨[.int .i64 (rfEt c)]⟩ w (ansP (rfDt c) w) := by
  rcases (show c = 0 ∨ c = 1 ∨ c = 2 ∨ c = 3 ∨ c = 4 ∨ c = 5 ∨ c = 6 ∨ c = 7 ∨ c = 8 ∨ c = 9 ∨ c = 10 ∨ c = 11 ∨ c = 12 ∨ c = 13 ∨ c = 14 ∨ c = 15 ∨ c = 16 by omega) with rfl | rfl | rfl | rfl | rfl | rfl | rfl | rfl | rfl | rfl | rfl | rfl | rfl | rfl | rfl | rfl | rfl
  · exact ans_cast (Eq.refl _) (ba_of (Eq.refl _)) (rfDec1W w hw)
  · exact ans_cast (Eq.refl _) (ba_of (Eq.refl _)) (rfDec1W w hw)
  · exact ans_cast (Eq.refl _) (ba_of (Eq.refl _)) (rfDec5W w hw)
  · exact ans_cast (Eq.refl _) (ba_of (Eq.refl _)) (rfDec5W w hw)
  · exact ans_cast (Eq.refl _) (ba_of (Eq.refl _)) (rfDec5W w hw)
  · exact ans_cast (Eq.refl _) (ba_of (Eq.refl _)) (rfDec5W w hw)
  · exact ans_cast (Eq.refl _) (ba_of (Eq.refl _)) (rfDec5W w hw)
  · exact ans_cast (Eq.refl _) (ba_of (Eq.refl _)) (rfDec5W w hw)
  · exact ans_cast (Eq.refl _) (ba_of (Eq.refl _)) (rfDec5W w hw)
  · exact ans_cast (Eq.refl _) (ba_of (Eq.refl _)) (rfDec5W w hw)
  · exact ans_cast (Eq.refl _) (ba_of (Eq.refl _)) (rfDec2W w hw)
  · exact ans_cast (Eq.refl _) (ba_of (Eq.refl _)) (rfDec2W w hw)
  · exact ans_cast (Eq.refl _) (ba_of (Eq.refl _)) (rfDec2W w hw)
  · exact ans_cast (Eq.refl _) (ba_of (Eq.refl _)) (rfDec2W w hw)
  · exact ans_cast (Eq.refl _) (ba_of (Eq.refl _)) (rfDec2W w hw)
  · exact ans_cast (Eq.refl _) (ba_of (Eq.refl _)) (rfDec2W w hw)
  · exact ans_cast (Eq.refl _) (ba_of (Eq.refl _)) (rfDec2W w hw)
theorem rfPlayK (c : Nat) (hc : c < 17) (w : World) (hw : Pow w) : Calls Tryz.prog 7 ⟨[.string ⟨(rfCb c ++ rfLb c ++ [10, 105, 100, 108, 101, 10]).toArray⟩]⟩ w (ansP ⟨([111, 107, 10, 101, 114, 114, 111, 114, 32] ++ rfDb c ++ [10, 111, 107, 32, 121, 101, 115, 10]).toArray⟩ w) := by
  rcases (show c = 0 ∨ c = 1 ∨ c = 2 ∨ c = 3 ∨ c = 4 ∨ c = 5 ∨ c = 6 ∨ c = 7 ∨ c = 8 ∨ c = 9 ∨ c = 10 ∨ c = 11 ∨ c = 12 ∨ c = 13 ∨ c = 14 ∨ c = 15 ∨ c = 16 by omega) with rfl | rfl | rfl | rfl | rfl | rfl | rfl | rfl | rfl | rfl | rfl | rfl | rfl | rfl | rfl | rfl | rfl
  · exact ans_cast (str_of (Eq.refl _)) (ba_of (Eq.refl _)) (rfPl0W w hw)
  · exact ans_cast (str_of (Eq.refl _)) (ba_of (Eq.refl _)) (rfPl1W w hw)
  · exact ans_cast (str_of (Eq.refl _)) (ba_of (Eq.refl _)) (rfPl2W w hw)
  · exact ans_cast (str_of (Eq.refl _)) (ba_of (Eq.refl _)) (rfPl3W w hw)
  · exact ans_cast (str_of (Eq.refl _)) (ba_of (Eq.refl _)) (rfPl4W w hw)
  · exact ans_cast (str_of (Eq.refl _)) (ba_of (Eq.refl _)) (rfPl5W w hw)
  · exact ans_cast (str_of (Eq.refl _)) (ba_of (Eq.refl _)) (rfPl6W w hw)
  · exact ans_cast (str_of (Eq.refl _)) (ba_of (Eq.refl _)) (rfPl7W w hw)
  · exact ans_cast (str_of (Eq.refl _)) (ba_of (Eq.refl _)) (rfPl8W w hw)
  · exact ans_cast (str_of (Eq.refl _)) (ba_of (Eq.refl _)) (rfPl9W w hw)
  · exact ans_cast (str_of (Eq.refl _)) (ba_of (Eq.refl _)) (rfPl10W w hw)
  · exact ans_cast (str_of (Eq.refl _)) (ba_of (Eq.refl _)) (rfPl11W w hw)
  · exact ans_cast (str_of (Eq.refl _)) (ba_of (Eq.refl _)) (rfPl12W w hw)
  · exact ans_cast (str_of (Eq.refl _)) (ba_of (Eq.refl _)) (rfPl13W w hw)
  · exact ans_cast (str_of (Eq.refl _)) (ba_of (Eq.refl _)) (rfPl14W w hw)
  · exact ans_cast (str_of (Eq.refl _)) (ba_of (Eq.refl _)) (rfPl15W w hw)
  · exact ans_cast (str_of (Eq.refl _)) (ba_of (Eq.refl _)) (rfPl16W w hw)
theorem rfOneK (c : Nat) (hc : c < 17) (w : World) (hw : Pow w) : Calls Tryz.prog 7 ⟨[.string ⟨(rfLb c ++ [10]).toArray⟩]⟩ w (ansP ⟨#[101, 114, 114, 111, 114, 32, 53, 10]⟩ w) := by
  rcases (show c = 0 ∨ c = 1 ∨ c = 2 ∨ c = 3 ∨ c = 4 ∨ c = 5 ∨ c = 6 ∨ c = 7 ∨ c = 8 ∨ c = 9 ∨ c = 10 ∨ c = 11 ∨ c = 12 ∨ c = 13 ∨ c = 14 ∨ c = 15 ∨ c = 16 by omega) with rfl | rfl | rfl | rfl | rfl | rfl | rfl | rfl | rfl | rfl | rfl | rfl | rfl | rfl | rfl | rfl | rfl
  · exact ans_cast (str_of (Eq.refl _)) (Eq.refl _) (rfOne0W w hw)
  · exact ans_cast (str_of (Eq.refl _)) (Eq.refl _) (rfOne1W w hw)
  · exact ans_cast (str_of (Eq.refl _)) (Eq.refl _) (rfOne2W w hw)
  · exact ans_cast (str_of (Eq.refl _)) (Eq.refl _) (rfOne3W w hw)
  · exact ans_cast (str_of (Eq.refl _)) (Eq.refl _) (rfOne4W w hw)
  · exact ans_cast (str_of (Eq.refl _)) (Eq.refl _) (rfOne5W w hw)
  · exact ans_cast (str_of (Eq.refl _)) (Eq.refl _) (rfOne6W w hw)
  · exact ans_cast (str_of (Eq.refl _)) (Eq.refl _) (rfOne7W w hw)
  · exact ans_cast (str_of (Eq.refl _)) (Eq.refl _) (rfOne8W w hw)
  · exact ans_cast (str_of (Eq.refl _)) (Eq.refl _) (rfOne9W w hw)
  · exact ans_cast (str_of (Eq.refl _)) (Eq.refl _) (rfOne10W w hw)
  · exact ans_cast (str_of (Eq.refl _)) (Eq.refl _) (rfOne11W w hw)
  · exact ans_cast (str_of (Eq.refl _)) (Eq.refl _) (rfOne12W w hw)
  · exact ans_cast (str_of (Eq.refl _)) (Eq.refl _) (rfOne13W w hw)
  · exact ans_cast (str_of (Eq.refl _)) (Eq.refl _) (rfOne14W w hw)
  · exact ans_cast (str_of (Eq.refl _)) (Eq.refl _) (rfOne15W w hw)
  · exact ans_cast (str_of (Eq.refl _)) (Eq.refl _) (rfOne16W w hw)
theorem rfTwoK (c : Nat) (hc : c < 17) (w : World) (hw : Pow w) : Calls Tryz.prog 7 ⟨[.string ⟨(rfCb c ++ [99, 111, 110, 102, 105, 103, 32, 52, 32, 50, 32, 49, 32, 49, 48, 48, 32, 48, 32, 49, 32, 48, 32, 53, 48, 48, 48, 32, 52, 32, 53, 32, 50, 48, 32, 52, 48, 32, 48, 32, 49, 48, 10, 105, 100, 108, 101, 10]).toArray⟩]⟩ w (ansP ⟨#[111, 107, 10, 101, 114, 114, 111, 114, 32, 49, 10, 101, 114, 114, 111, 114, 32, 53, 10]⟩ w) := by
  rcases (show c = 0 ∨ c = 1 ∨ c = 2 ∨ c = 3 ∨ c = 4 ∨ c = 5 ∨ c = 6 ∨ c = 7 ∨ c = 8 ∨ c = 9 ∨ c = 10 ∨ c = 11 ∨ c = 12 ∨ c = 13 ∨ c = 14 ∨ c = 15 ∨ c = 16 by omega) with rfl | rfl | rfl | rfl | rfl | rfl | rfl | rfl | rfl | rfl | rfl | rfl | rfl | rfl | rfl | rfl | rfl
  · exact ans_cast (str_of (Eq.refl _)) (Eq.refl _) (rfTwo0W w hw)
  · exact ans_cast (str_of (Eq.refl _)) (Eq.refl _) (rfTwo1W w hw)
  · exact ans_cast (str_of (Eq.refl _)) (Eq.refl _) (rfTwo2W w hw)
  · exact ans_cast (str_of (Eq.refl _)) (Eq.refl _) (rfTwo0W w hw)
  · exact ans_cast (str_of (Eq.refl _)) (Eq.refl _) (rfTwo1W w hw)
  · exact ans_cast (str_of (Eq.refl _)) (Eq.refl _) (rfTwo2W w hw)
  · exact ans_cast (str_of (Eq.refl _)) (Eq.refl _) (rfTwo0W w hw)
  · exact ans_cast (str_of (Eq.refl _)) (Eq.refl _) (rfTwo1W w hw)
  · exact ans_cast (str_of (Eq.refl _)) (Eq.refl _) (rfTwo2W w hw)
  · exact ans_cast (str_of (Eq.refl _)) (Eq.refl _) (rfTwo0W w hw)
  · exact ans_cast (str_of (Eq.refl _)) (Eq.refl _) (rfTwo1W w hw)
  · exact ans_cast (str_of (Eq.refl _)) (Eq.refl _) (rfTwo2W w hw)
  · exact ans_cast (str_of (Eq.refl _)) (Eq.refl _) (rfTwo0W w hw)
  · exact ans_cast (str_of (Eq.refl _)) (Eq.refl _) (rfTwo1W w hw)
  · exact ans_cast (str_of (Eq.refl _)) (Eq.refl _) (rfTwo2W w hw)
  · exact ans_cast (str_of (Eq.refl _)) (Eq.refl _) (rfTwo0W w hw)
  · exact ans_cast (str_of (Eq.refl _)) (Eq.refl _) (rfTwo1W w hw)
theorem rfCfg (c : Nat) (hc : c < 17) (w : World) (hw : Pow w) :
    Calls Tryz.prog 6 #[.int .i64 (c : Int), .int .i64 2] w fun e w' => e = .returned (.string (rfCt c)) ∧ Mod (fun _ => False) w w' := rfCfgK c hc w hw
theorem rfDec (c : Nat) (hc : c < 17) (w : World) (hw : Pow w) :
    Calls Tryz.prog 8 #[.int .i64 (rfEt c)] w fun e w' => e = .returned (.string (rfDt c)) ∧ Mod (fun _ => False) w w' := rfDecK c hc w hw
theorem cat3 (a b c : List UInt8) : (⟨a.toArray⟩ ++ ⟨b.toArray⟩ ++ ⟨c.toArray⟩ : ByteArray) = ⟨(a ++ b ++ c).toArray⟩ := by rw [bApp, bApp]
theorem rfPlay (c : Nat) (hc : c < 17) (w : World) (hw : Pow w) :
    Calls Tryz.prog 7 #[.string (rfCt c ++ rfLt c ++ ⟨#[10, 105, 100, 108, 101, 10]⟩)] w fun e w' => e = .returned (.string (⟨#[111, 107, 10, 101, 114, 114, 111, 114, 32]⟩ ++ rfDt c ++ ⟨#[10, 111, 107, 32, 121, 101, 115, 10]⟩)) ∧ Mod (fun _ => False) w w' := by
  have h := rfPlayK c hc w hw
  rw [← cat3, ← cat3] at h
  exact h
theorem rfOne (c : Nat) (hc : c < 17) (w : World) (hw : Pow w) :
    Calls Tryz.prog 7 #[.string (rfLt c ++ ⟨#[10]⟩)] w fun e w' => e = .returned (.string ⟨#[101, 114, 114, 111, 114, 32, 53, 10]⟩) ∧ Mod (fun _ => False) w w' := by
  have h := rfOneK c hc w hw
  rw [← bApp] at h
  exact h
theorem rfTwo (c : Nat) (hc : c < 17) (w : World) (hw : Pow w) :
    Calls Tryz.prog 7 #[.string (rfCt c ++ ⟨#[99, 111, 110, 102, 105, 103, 32, 52, 32, 50, 32, 49, 32, 49, 48, 48, 32, 48, 32, 49, 32, 48, 32, 53, 48, 48, 48, 32, 52, 32, 53, 32, 50, 48, 32, 52, 48, 32, 48, 32, 49, 48, 10, 105, 100, 108, 101, 10]⟩)] w fun e w' => e = .returned (.string ⟨#[111, 107, 10, 101, 114, 114, 111, 114, 32, 49, 10, 101, 114, 114, 111, 114, 32, 53, 10]⟩) ∧ Mod (fun _ => False) w w' := by
  have h := rfTwoK c hc w hw
  rw [← bApp] at h
  exact h
end Go.Proofs.YtcandpiafgicbaaGreatDoor
end
section
namespace Go.Proofs.YtcandpiafgicbaaGreatDoor
open Go.RowKit
set_option linter.unusedVariables false
set_option maxHeartbeats 4000000
set_option maxRecDepth 100000
theorem index_cons_ne {x c : UInt8} (h : c ≠ x) (l : Tx) : Lib.index (c :: l) [x] = if Lib.index l [x] == -1 then -1 else Lib.index l [x] + 1 := by
  have hp : ([x] : Tx).isPrefixOf (c :: l) = false := by simp [List.isPrefixOf, Ne.symm h]
  rw [Lib.index, hp]
  simp
theorem index_cons_eq (x : UInt8) (l : Tx) : Lib.index (x :: l) [x] = 0 := by
  rw [Lib.index]
  simp [List.isPrefixOf]
theorem splitK_cut (x : UInt8) : ∀ (l : Tx) (k : Nat), l.count x ≤ k → Lib.splitK [x] 0 k l = cutT x l
  | [], k, h => by
    cases k with
    | zero => rfl
    | succ k => rfl
  | c :: l, k, h => by
    by_cases hc : c = x
    · rw [hc] at h ⊢
      rw [wordsT_blank]
      simp only [List.count_cons_self] at h
      cases k with
      | zero => omega
      | succ k =>
        rw [Lib.splitK, index_cons_eq]
        have := splitK_cut x l k (by omega)
        simpa using this
    · have hcn : (c :: l).count x = l.count x := List.count_cons_of_ne (by simpa using hc)
      rw [hcn] at h
      have ih := splitK_cut x l k h
      rw [cutT, if_neg hc, ← ih]
      cases k with
      | zero => rfl
      | succ k =>
        have hge := Lib.index_ge l [x]
        rw [Lib.splitK, index_cons_ne hc]
        rw [Lib.splitK]
        by_cases hm : Lib.index l [x] = -1
        · simp [hm]
        · have hm' : (Lib.index l [x] == -1) = false := by simpa using hm
          obtain ⟨j, hj⟩ : ∃ j : Nat, Lib.index l [x] = j := ⟨(Lib.index l [x]).toNat, by omega⟩
          rw [hj] at hm' ⊢
          have h3 : ((j : Int) + 1 == -1) = false := by simp; omega
          have h4 : ((j : Int) + 1).toNat = j + 1 := by omega
          simp [hm', h3, h4]
theorem splitB_cut (s : ByteArray) (x : UInt8) : Lib.splitB (tb [x]) 0 (Lib.countB s (tb [x])) s = (cutT x s.data.toList).map tb := by
  have h := Lib.splitB_data (tb [x]) 0 (Lib.countB s (tb [x])) s
  rw [tb_data] at h
  have hc : Lib.countB s (tb [x]) = s.data.toList.count x := by
    show Lib.count s.data.toList (tb [x]).data.toList = _
    rw [tb_data, Lib.count_one]
  rw [splitK_cut x _ _ (by rw [hc]; exact Nat.le_refl _)] at h
  rw [← h, List.map_map]
  exact (List.map_congr_left (f := id) (fun b _ => (tb_of b).symm)).symm ▸ (List.map_id _).symm
/-- internal/bytealg.MaxLen holds some number. -/
def MaxL (w : World) : Prop := ∃ m, w.cell? ⟨Tryz.laysM146_ren.g 1, 0, none⟩ = some (.int .i64 m)
theorem MaxL.later {w w' : World} (h : MaxL w) (m : Mod (fun _ => False) w w') : MaxL w' := by
  obtain ⟨z, hz⟩ := h
  have hlt := block_lt_of_cell hz
  exact ⟨z, (m.cell (p := ⟨Tryz.laysM146_ren.g 1, 0, none⟩) hlt (fun e => e)).trans hz⟩
theorem MaxL.of {w : World} (h : w.ShapedOpen Tryz.prog) : MaxL w := Tryz.laysM146.s1_3 w h
/-- Texts as strings' cells. -/
def encT (t : Tx) : List Value := [.string (tb t)]
theorem encT_len (t : Tx) : (encT t).length = 1 := rfl
theorem flatT (l : List Tx) : l.flatMap encT = (l.map tb).map Value.string := by
  induction l with
  | nil => rfl
  | cons a l ih => rw [List.flatMap_cons, ih]; rfl
theorem splitW (s : ByteArray) (x : UInt8) (w : World) (hs : s.size ≤ 1000000) (hm : MaxL w) :
    Calls Tryz.prog 45 #[.string s, .string (tb [x])] w fun e w' => (∃ g, e = .returned (.slice (some ⟨g, 0, none⟩) (cutT x s.data.toList).length (cutT x s.data.toList).length) ∧ Own w' w.heap.size 9 1 encT (.slice (some ⟨g, 0, none⟩) (cutT x s.data.toList).length (cutT x s.data.toList).length) (cutT x s.data.toList)) ∧ Mod (fun _ => False) w w' := by
  obtain ⟨m, hm⟩ := hm
  have h := Any.strings_Split { Tryz.laysM146 with } Tryz.laysM146.i9 s (tb [x]) m w (by omega) hm (by rw [tb_size]; exact Nat.le_refl _)
  refine h.mono ?_
  rintro e w' ⟨rfl, rfl⟩
  have hc : Lib.countB s (tb [x]) + 1 = (cutT x s.data.toList).length := by
    rw [wordsT_len]
    show Lib.count s.data.toList (tb [x]).data.toList + 1 = _
    rw [tb_data, Lib.count_one]
  rw [splitB_cut, hc]
  refine ⟨⟨_, rfl, ?_⟩, (Mod.refl _ _).alloc _⟩
  unfold Own
  rw [flatT]
  have hl : (cutT x s.data.toList).length ≤ maxLen := by
    rw [wordsT_len]
    have := List.count_le_length (a := x) (l := s.data.toList)
    rw [data_len] at this
    unfold maxLen
    omega
  have := World.ownsRow_lit (base := w.heap.size) (size := 1) (e := 9) w (((cutT x s.data.toList).map tb).map Value.string).toArray (cutT x s.data.toList).length (Nat.le_refl _) hl (by simp)
  exact this
end Go.Proofs.YtcandpiafgicbaaGreatDoor
end
section
namespace Go.Proofs.YtcandpiafgicbaaGreatDoor
open Go.ChangeShapes Go.WideShapes Go.RowKit
set_option linter.unusedVariables false
set_option maxHeartbeats 2000000
set_option maxRecDepth 100000
theorem returnsInHanded_and_shaped {H : Type} {enc : TypeId × Value → H} {a : Assume} {C : Checked} {os : Os} {f : FuncId} {fn : Func} {s : ChangeSpec} {conds : List PathCond} {apart fresh handsOn again : Bool} {X : World → Array Value → Prop}
    (hX : ∀ (w w' : World) (args : Array Value), w.heap = w'.heap → X w args → X w' args)
    (own : ownKnob C.prog.godebug = none) (started : os.Started) (noInit : C.prog.inits.idxOf? f = none) (hfn : C.prog.funcs[f]? = some fn)
    (witness : ∃ (w : World) (tape : Tape) (i : Input), w.os = os ∧ (w.forCall tape i).Shaped C.prog ∧ i.vars = [] ∧ Input.okWide C.prog (w.forCall tape i) .any w.heap.size f i ∧
      ((s.pre enc C.prog fn conds apart (w.forCall tape i).memory i.args ∧ X (w.forCall tape i).memory i.args) ∧ sizedMet enc C.prog fn (OpenSpec.ofChange s) apart (w.forCall tape i).memory i.args) ∧ a.holds C.prog (lone (Frame.enter C.prog f i.args .normal) [] (w.forCall tape i)))
    (contract : ∀ (W : World) (base : Nat) (args : Array Value) (ds gs : List (DataW H)) (before : List MemPlace),
      (∀ (j : Nat) t v, fn.params[j]? = some t → args[j]? = some v → Value.okWide C.prog W .any base t v) →
      DataW.Whole enc C.prog fn.params.toList s.vars apart W args.toList ds gs before → X W args → W.ShapedOpen C.prog →
      Calls C.prog f args W fun e W' => ∃ v, e = .returned v ∧ s.post enc C.prog fn apart fresh handsOn again W args v W') :
    ReturnsInHanded a C os f .any (fun w args => (s.pre enc C.prog fn conds apart w args ∧ X w args) ∧ sizedMet enc C.prog fn (OpenSpec.ofChange s) apart w args) (s.post enc C.prog fn apart fresh handsOn again) := by
  refine returnsInHanded_of_calls own started noInit witness ?_
  intro w tape i _ hsh _ hok hpre hholds
  obtain ⟨_, _, _, fn', hfn', _, _, _, _, hval⟩ := hok
  have e : fn' = fn := Option.some.inj (hfn'.symm.trans hfn)
  subst e
  obtain ⟨⟨⟨ds, gs, before, hw, hc⟩, hx⟩, hz⟩ := hpre
  have hw' := DataW.Whole.of_heap (w' := w.forCall tape i) (by rfl) hw
  refine (contract (w.forCall tape i) w.heap.size i.args ds gs before hval hw' (hX _ _ _ (by rfl) hx) hsh).mono fun e W' ⟨v, he, hp⟩ => ?_
  subst he
  exact ChangeSpec.post_blind hp
structure EnvT (w : World) : Prop where
  pow : Pow w
  maxl : MaxL w
theorem env_shellRefused {W : World} (hL : laidMet Tryz.prog Rows.shellRefusedRow.laid W) (hsh : W.ShapedOpen Tryz.prog) : EnvT W :=
  ⟨Lib.tabIs_of_head (g := 3) (t := 308) (e := 36) (n := 20) (by kernel_rfl) (by kernel_rfl) (by kernel_rfl) (by kernel_rfl) (by kernel_rfl) (by kernel_rfl) (show laidMet Tryz.prog (_ :: _ :: _) W from hL).tail.tail, MaxL.of hsh⟩
theorem env_topPorts {W : World} (hL : laidMet Tryz.prog Rows.topPortsRow.laid W) (hsh : W.ShapedOpen Tryz.prog) : EnvT W :=
  ⟨Lib.tabIs_of_head (g := 3) (t := 308) (e := 36) (n := 20) (by kernel_rfl) (by kernel_rfl) (by kernel_rfl) (by kernel_rfl) (by kernel_rfl) (by kernel_rfl) (show laidMet Tryz.prog (_ :: _ :: _) W from hL).tail.tail, MaxL.of hsh⟩
theorem env_of {W : World} (hL : laidMet Tryz.prog Rows.shellRefusedRow.laid W) (hsh : W.ShapedOpen Tryz.prog) : EnvT W := env_shellRefused hL hsh
end Go.Proofs.YtcandpiafgicbaaGreatDoor
end
section
namespace Go.Proofs.YtcandpiafgicbaaGreatDoor
open Go.RowKit
set_option linter.unusedVariables false
set_option linter.unusedSimpArgs false
set_option maxHeartbeats 4000000
set_option maxRecDepth 100000
theorem rfCt_sz (c : Nat) (hc : c < 17) : (rfCt c).size ≤ 70 := by
  rcases (show c = 0 ∨ c = 1 ∨ c = 2 ∨ c = 3 ∨ c = 4 ∨ c = 5 ∨ c = 6 ∨ c = 7 ∨ c = 8 ∨ c = 9 ∨ c = 10 ∨ c = 11 ∨ c = 12 ∨ c = 13 ∨ c = 14 ∨ c = 15 ∨ c = 16 by omega) with rfl | rfl | rfl | rfl | rfl | rfl | rfl | rfl | rfl | rfl | rfl | rfl | rfl | rfl | rfl | rfl | rfl <;> exact Nat.le_of_ble_eq_true rfl
theorem rfLt_sz (c : Nat) (hc : c < 17) : (rfLt c).size ≤ 70 := by
  rcases (show c = 0 ∨ c = 1 ∨ c = 2 ∨ c = 3 ∨ c = 4 ∨ c = 5 ∨ c = 6 ∨ c = 7 ∨ c = 8 ∨ c = 9 ∨ c = 10 ∨ c = 11 ∨ c = 12 ∨ c = 13 ∨ c = 14 ∨ c = 15 ∨ c = 16 by omega) with rfl | rfl | rfl | rfl | rfl | rfl | rfl | rfl | rfl | rfl | rfl | rfl | rfl | rfl | rfl | rfl | rfl <;> exact Nat.le_of_ble_eq_true rfl
theorem rfDt_sz (c : Nat) (hc : c < 17) : (rfDt c).size ≤ 70 := by
  rcases (show c = 0 ∨ c = 1 ∨ c = 2 ∨ c = 3 ∨ c = 4 ∨ c = 5 ∨ c = 6 ∨ c = 7 ∨ c = 8 ∨ c = 9 ∨ c = 10 ∨ c = 11 ∨ c = 12 ∨ c = 13 ∨ c = 14 ∨ c = 15 ∨ c = 16 by omega) with rfl | rfl | rfl | rfl | rfl | rfl | rfl | rfl | rfl | rfl | rfl | rfl | rfl | rfl | rfl | rfl | rfl <;> exact Nat.le_of_ble_eq_true rfl
attribute [local irreducible] rfLv rfEv rfLt rfEt rfCt rfDt
theorem ref_round (k : Int) (h1 : -9223372036854775808 ≤ k) (h2 : k ≤ 9223372036854775807) (w : World) :
    Calls Tryz.prog 5 #[.int .i64 k, .int .i64 17] w fun e w' => e = .returned (.int .i64 (((k % 17).toNat : Nat) : Int)) ∧ w = w' := by
  have he : (((k % 17).toNat : Nat) : Int) = if k.tmod 17 < 0 then k.tmod 17 + 17 else k.tmod 17 := by
    rw [Int.toNat_of_nonneg (by omega)]
    by_cases hk : 0 ≤ k
    · rw [Int.tmod_eq_emod_of_nonneg hk]
      rw [if_neg (by omega)]
    · have e1 : k.tmod 17 = - ((-k) % 17) := by
        have := Int.neg_tmod (-k) 17
        rw [Int.neg_neg] at this
        rw [this, Int.tmod_eq_emod_of_nonneg (by omega)]
      rw [e1]
      by_cases h0 : (-k) % 17 = 0
      · rw [h0]; rw [if_neg (by omega)]; omega
      · rw [if_pos (by omega)]; omega
  rw [he]
  have hb : -17 < k.tmod 17 ∧ k.tmod 17 < 17 := by
    by_cases hk : 0 ≤ k
    · rw [Int.tmod_eq_emod_of_nonneg hk]; omega
    · have e1 : k.tmod 17 = - ((-k) % 17) := by
        have := Int.neg_tmod (-k) 17
        rw [Int.neg_neg] at this
        rw [this, Int.tmod_eq_emod_of_nonneg (by omega)]
      rw [e1]; omega
  generalize hq : k.tmod 17 = q at *
  clear he
  by_cases hc : q < 0
  · rw [if_pos hc]
    go_enter Tryz.func5, Tryz.ntmps5
    go_wp2
    go_ret
    exact ⟨rfl, rfl⟩
  · rw [if_neg hc]
    go_enter Tryz.func5, Tryz.ntmps5
    go_wp2
    go_ret
    exact ⟨rfl, rfl⟩
theorem walk_shellRefused (k : Int) (hk1 : -9223372036854775808 ≤ k) (hk2 : k ≤ 9223372036854775807) (w : World) (E : EnvT w) :
    Calls Tryz.prog 3 #[.int .i64 k] w fun e w' => e = .returned (.bool true) ∧ Mod (fun _ => False) w w' := by
  have HR := Lib.hid fun w' => ref_round k hk1 hk2 w'
  obtain ⟨c, hcd⟩ : ∃ c : Nat, (k % 17).toNat = c := ⟨_, rfl⟩
  have hc : c < 17 := by omega
  rw [hcd] at HR
  have HE := Lib.hid E.pow
  clear E hk1 hk2 hcd
  go_enter Tryz.func3, Tryz.ntmps3
  go_upto_region 1 with fail
  refine wp_region_lit ?_
  refine Go.Great.wpList_buildSliceTo rfl 22 9 17 _ rfl w.heap.size rfl (some 6) rfl Tryz.underlying22 rfLv (by kernel_rfl) ?_
  have b1 : Blk (w.alloc (.cells rfLv 9)) w.heap.size 9 rfLv := Blk.new _ _ _
  have m1 : Mod (fun _ => False) w (w.alloc (.cells rfLv 9)) := (Mod.refl _ _).alloc _
  generalize (w.alloc (.cells rfLv 9)) = w1 at *
  go_upto_region 2 with fail
  refine wp_region_lit ?_
  refine Go.Great.wpList_buildSliceTo rfl 23 3 17 _ rfl w1.heap.size rfl (some 7) rfl Tryz.underlying23 rfEv (by kernel_rfl) ?_
  have b2 : Blk (w1.alloc (.cells rfEv 3)) w1.heap.size 3 rfEv := Blk.new _ _ _
  have m2 : Mod (fun _ => False) w (w1.alloc (.cells rfEv 3)) := m1.alloc _
  have b1' : Blk (w1.alloc (.cells rfEv 3)) w.heap.size 9 rfLv := b1.mod ((Mod.refl (fun _ => False) w1).alloc _) (fun e => e)
  generalize (w1.alloc (.cells rfEv 3)) = w2 at *
  clear b1 m1
  have HB1 := Lib.hid b1'
  have HB2 := Lib.hid b2
  have HM := Lib.hid m2
  clear b1' b2 m2
  generalize w1.heap.size = B2 at *
  generalize hB1 : w.heap.size = B1 at *
  go_wp2_with fail
  refine (HR.out _).mono ?_
  rintro e w' ⟨rfl, rfl⟩
  go_wp2_with fail
  refine (rfCfg c hc _ (HE.out.later HM.out)).mono ?_
  rintro e w3 ⟨rfl, m3⟩
  have M3 := Lib.hid (HM.out.trans m3 (fun _ _ e => e))
  have BB1 := Lib.hid (HB1.out.mod m3 (fun e => e))
  have BB2 := Lib.hid (HB2.out.mod m3 (fun e => e))
  have q1 : B1 < w3.heap.size := BB1.out.lt
  have q2 : B2 < w3.heap.size := BB2.out.lt
  have k1 : w3.cell? ⟨B1, c, none⟩ = some (.string (rfLt c)) := (BB1.out.cell c).trans (rfLv_at c hc)
  have k2 : w3.cell? ⟨B2, c, none⟩ = some (.int .i64 (rfEt c)) := (BB2.out.cell c).trans (rfEv_at c hc)
  have q1d : B1 < w3.drew.heap.size := q1
  have q2d : B2 < w3.drew.heap.size := q2
  have k1d : w3.drew.cell? ⟨B1, c, none⟩ = some (.string (rfLt c)) := k1
  have k2d : w3.drew.cell? ⟨B2, c, none⟩ = some (.int .i64 (rfEt c)) := k2
  have P3 := Lib.hid (HE.out.later M3.out.drew)
  have x1 : decide ((c : Int) < 0) = false := by simp
  have x2 : decide (17 ≤ c) = false := by simp; omega
  have x3 : decide ((17 : Int) ≤ (c : Int)) = false := by simp; omega
  have x4 : (c : Int) < 17 := by omega
  have x5 : ¬ (c : Int) < 0 := by omega
  have sC := rfCt_sz c hc
  have sL := rfLt_sz c hc
  have sD := rfDt_sz c hc
  have f1 : ¬ ((9223372036854775807 : Int) < ((rfCt c).size : Int) + ((rfLt c).size : Int)) := by
    first | omega | (simp only [ByteArray.size_append]; omega)
  have g1 : ¬ ((rfCt c).size + (rfLt c).size > 9223372036854775807) := by omega
  have f2 : ¬ ((9223372036854775807 : Int) < ((rfCt c ++ rfLt c).size : Int) + ((⟨#[10, 105, 100, 108, 101, 10]⟩ : ByteArray).size : Int)) := by
    have z0 : (⟨#[10, 105, 100, 108, 101, 10]⟩ : ByteArray).size = 6 := rfl
    first | omega | (simp only [ByteArray.size_append]; omega)
  have g2 : ¬ ((rfCt c ++ rfLt c).size + (⟨#[10, 105, 100, 108, 101, 10]⟩ : ByteArray).size > 9223372036854775807) := by omega
  have f3 : ¬ ((9223372036854775807 : Int) < ((⟨#[111, 107, 10, 101, 114, 114, 111, 114, 32]⟩ : ByteArray).size : Int) + ((rfDt c).size : Int)) := by
    have z0 : (⟨#[111, 107, 10, 101, 114, 114, 111, 114, 32]⟩ : ByteArray).size = 9 := rfl
    first | omega | (simp only [ByteArray.size_append]; omega)
  have g3 : ¬ ((⟨#[111, 107, 10, 101, 114, 114, 111, 114, 32]⟩ : ByteArray).size + (rfDt c).size > 9223372036854775807) := by omega
  have f4 : ¬ ((9223372036854775807 : Int) < (((⟨#[111, 107, 10, 101, 114, 114, 111, 114, 32]⟩ : ByteArray) ++ rfDt c).size : Int) + ((⟨#[10, 111, 107, 32, 121, 101, 115, 10]⟩ : ByteArray).size : Int)) := by
    have z0 : (⟨#[111, 107, 10, 101, 114, 114, 111, 114, 32]⟩ : ByteArray).size = 9 := rfl
    have z1 : (⟨#[10, 111, 107, 32, 121, 101, 115, 10]⟩ : ByteArray).size = 8 := rfl
    first | omega | (simp only [ByteArray.size_append]; omega)
  have g4 : ¬ (((⟨#[111, 107, 10, 101, 114, 114, 111, 114, 32]⟩ : ByteArray) ++ rfDt c).size + (⟨#[10, 111, 107, 32, 121, 101, 115, 10]⟩ : ByteArray).size > 9223372036854775807) := by omega
  have f5 : ¬ ((9223372036854775807 : Int) < ((rfLt c).size : Int) + ((⟨#[10]⟩ : ByteArray).size : Int)) := by
    have z0 : (⟨#[10]⟩ : ByteArray).size = 1 := rfl
    first | omega | (simp only [ByteArray.size_append]; omega)
  have g5 : ¬ ((rfLt c).size + (⟨#[10]⟩ : ByteArray).size > 9223372036854775807) := by omega
  have f6 : ¬ ((9223372036854775807 : Int) < ((rfCt c).size : Int) + ((⟨#[99, 111, 110, 102, 105, 103, 32, 52, 32, 50, 32, 49, 32, 49, 48, 48, 32, 48, 32, 49, 32, 48, 32, 53, 48, 48, 48, 32, 52, 32, 53, 32, 50, 48, 32, 52, 48, 32, 48, 32, 49, 48, 10, 105, 100, 108, 101, 10]⟩ : ByteArray).size : Int)) := by
    have z0 : (⟨#[99, 111, 110, 102, 105, 103, 32, 52, 32, 50, 32, 49, 32, 49, 48, 48, 32, 48, 32, 49, 32, 48, 32, 53, 48, 48, 48, 32, 52, 32, 53, 32, 50, 48, 32, 52, 48, 32, 48, 32, 49, 48, 10, 105, 100, 108, 101, 10]⟩ : ByteArray).size = 48 := rfl
    first | omega | (simp only [ByteArray.size_append]; omega)
  have g6 : ¬ ((rfCt c).size + (⟨#[99, 111, 110, 102, 105, 103, 32, 52, 32, 50, 32, 49, 32, 49, 48, 48, 32, 48, 32, 49, 32, 48, 32, 53, 48, 48, 48, 32, 52, 32, 53, 32, 50, 48, 32, 52, 48, 32, 48, 32, 49, 48, 10, 105, 100, 108, 101, 10]⟩ : ByteArray).size > 9223372036854775807) := by omega
  have g2a : ¬ ((rfCt c).size + (rfLt c).size + (#[10, 105, 100, 108, 101, 10] : Array UInt8).size > 9223372036854775807) := by
    have z0 : (#[10, 105, 100, 108, 101, 10] : Array UInt8).size = 6 := rfl
    omega
  have g2b : ¬ ((rfCt c).size + (rfLt c).size + 6 > 9223372036854775807) := by omega
  have g3a : ¬ ((#[111, 107, 10, 101, 114, 114, 111, 114, 32] : Array UInt8).size + (rfDt c).size > 9223372036854775807) := by
    have z0 : (#[111, 107, 10, 101, 114, 114, 111, 114, 32] : Array UInt8).size = 9 := rfl
    omega
  have g3b : ¬ (9 + (rfDt c).size > 9223372036854775807) := by omega
  have g4a : ¬ ((#[111, 107, 10, 101, 114, 114, 111, 114, 32] : Array UInt8).size + (rfDt c).size + (#[10, 111, 107, 32, 121, 101, 115, 10] : Array UInt8).size > 9223372036854775807) := by
    have z0 : (#[111, 107, 10, 101, 114, 114, 111, 114, 32] : Array UInt8).size = 9 := rfl
    have z1 : (#[10, 111, 107, 32, 121, 101, 115, 10] : Array UInt8).size = 8 := rfl
    omega
  have g4b : ¬ (9 + (rfDt c).size + 8 > 9223372036854775807) := by omega
  have g5a : ¬ ((rfLt c).size + (#[10] : Array UInt8).size > 9223372036854775807) := by
    have z0 : (#[10] : Array UInt8).size = 1 := rfl
    omega
  have g5b : ¬ ((rfLt c).size + 1 > 9223372036854775807) := by omega
  have g6a : ¬ ((rfCt c).size + (#[99, 111, 110, 102, 105, 103, 32, 52, 32, 50, 32, 49, 32, 49, 48, 48, 32, 48, 32, 49, 32, 48, 32, 53, 48, 48, 48, 32, 52, 32, 53, 32, 50, 48, 32, 52, 48, 32, 48, 32, 49, 48, 10, 105, 100, 108, 101, 10] : Array UInt8).size > 9223372036854775807) := by
    have z0 : (#[99, 111, 110, 102, 105, 103, 32, 52, 32, 50, 32, 49, 32, 49, 48, 48, 32, 48, 32, 49, 32, 48, 32, 53, 48, 48, 48, 32, 52, 32, 53, 32, 50, 48, 32, 52, 48, 32, 48, 32, 49, 48, 10, 105, 100, 108, 101, 10] : Array UInt8).size = 48 := rfl
    omega
  have g6b : ¬ ((rfCt c).size + 48 > 9223372036854775807) := by omega
  clear m3 hB1 sC sL sD
  go_upto_region 5 with fail
  go_region_held3 (fun w' => w'.cell? ⟨B1, c, none⟩ = some (.string (rfLt c)) ∧ w'.cell? ⟨B2, c, none⟩ = some (.int .i64 (rfEt c))) (first | assumption | exact ⟨k1, k2⟩)
    (first
      | (go_at_call 7; with_reducible refine (rfPlay c hc _ P3.out).mono ?_; rintro e w4 ⟨rfl, m4⟩; have k14 : w4.cell? ⟨B1, c, none⟩ = some (.string (rfLt c)) := (m4.cell (p := ⟨B1, c, none⟩) q1d (fun e => e)).trans k1d; have k24 : w4.cell? ⟨B2, c, none⟩ = some (.int .i64 (rfEt c)) := (m4.cell (p := ⟨B2, c, none⟩) q2d (fun e => e)).trans k2d; have k4 := And.intro k14 k24; have q14 : B1 < w4.heap.size := Nat.lt_of_lt_of_le q1d m4.size; have q24 : B2 < w4.heap.size := Nat.lt_of_lt_of_le q2d m4.size; have M4 := Lib.hid (M3.out.drew.trans m4 (fun _ _ e => e)); have P4 := Lib.hid (HE.out.later M4.out); clear m4)
      | (go_at_call 8; with_reducible refine (rfDec c hc _ P4.out).mono ?_; rintro e w5 ⟨rfl, m5⟩; have k15 : w5.cell? ⟨B1, c, none⟩ = some (.string (rfLt c)) := (m5.cell (p := ⟨B1, c, none⟩) q14 (fun e => e)).trans k14; have k25 : w5.cell? ⟨B2, c, none⟩ = some (.int .i64 (rfEt c)) := (m5.cell (p := ⟨B2, c, none⟩) q24 (fun e => e)).trans k24; have k5 := And.intro k15 k25; have q15 : B1 < w5.heap.size := Nat.lt_of_lt_of_le q14 m5.size; have q25 : B2 < w5.heap.size := Nat.lt_of_lt_of_le q24 m5.size; have M5 := Lib.hid (M4.out.trans m5 (fun _ _ e => e)); have P5 := Lib.hid (HE.out.later M5.out); clear m5)
      | (go_at_call 7; with_reducible refine (rfOne c hc _ P5.out).mono ?_; rintro e w6 ⟨rfl, m6⟩; have k16 : w6.cell? ⟨B1, c, none⟩ = some (.string (rfLt c)) := (m6.cell (p := ⟨B1, c, none⟩) q15 (fun e => e)).trans k15; have k26 : w6.cell? ⟨B2, c, none⟩ = some (.int .i64 (rfEt c)) := (m6.cell (p := ⟨B2, c, none⟩) q25 (fun e => e)).trans k25; have k6 := And.intro k16 k26; have q16 : B1 < w6.heap.size := Nat.lt_of_lt_of_le q15 m6.size; have q26 : B2 < w6.heap.size := Nat.lt_of_lt_of_le q25 m6.size; have M6 := Lib.hid (M5.out.trans m6 (fun _ _ e => e)); have P6 := Lib.hid (HE.out.later M6.out); clear m6)
      | (go_at_call 7; with_reducible refine (rfTwo c hc _ P6.out).mono ?_; rintro e w7 ⟨rfl, m7⟩; have k17 : w7.cell? ⟨B1, c, none⟩ = some (.string (rfLt c)) := (m7.cell (p := ⟨B1, c, none⟩) q16 (fun e => e)).trans k16; have k27 : w7.cell? ⟨B2, c, none⟩ = some (.int .i64 (rfEt c)) := (m7.cell (p := ⟨B2, c, none⟩) q26 (fun e => e)).trans k26; have k7 := And.intro k17 k27; have q17 : B1 < w7.heap.size := Nat.lt_of_lt_of_le q16 m7.size; have q27 : B2 < w7.heap.size := Nat.lt_of_lt_of_le q26 m7.size; have M7 := Lib.hid (M6.out.trans m7 (fun _ _ e => e)); have P7 := Lib.hid (HE.out.later M7.out); clear m7)
      | (go_at_call 9; with_reducible refine (awakeShl _ P7.out).mono ?_; rintro e w8 ⟨rfl, m8⟩; have k18 : w8.cell? ⟨B1, c, none⟩ = some (.string (rfLt c)) := (m8.cell (p := ⟨B1, c, none⟩) q17 (fun e => e)).trans k17; have k28 : w8.cell? ⟨B2, c, none⟩ = some (.int .i64 (rfEt c)) := (m8.cell (p := ⟨B2, c, none⟩) q27 (fun e => e)).trans k27; have k8 := And.intro k18 k28; have M8 := Lib.hid (M7.out.trans m8 (fun _ _ e => e)); clear m8))
  all_goals
    go_wp2_with fail
    go_ret
    exact ⟨rfl, M8.out⟩
end Go.Proofs.YtcandpiafgicbaaGreatDoor
end
section
namespace Go.Proofs.YtcandpiafgicbaaGreatDoor
open Go.ChangeShapes Go.WideShapes Go.RowKit
set_option linter.unusedVariables false
theorem walk_shellRefusedF (w : World) (E : EnvT w) (k : Int) (w0 : (Lit.int .i64 k).wf = true) :
    Calls Tryz.prog 3 #[.int .i64 k] w fun e w' => e = .returned (.bool true) ∧ Below w.heap.size w w' := by
  simp [Lit.wf, IntKind.min, IntKind.max, IntKind.signed, IntKind.bits] at w0
  exact (walk_shellRefused k (by omega) (by omega) w E).mono fun e w' ⟨he, hm⟩ => ⟨he, hm.below⟩
end Go.Proofs.YtcandpiafgicbaaGreatDoor
end
