/- Lines as ops, ops as lines: plain. -/
import Derived.Test.YtigkndbkaagboaaGreatDoorScrP
namespace Go.Proofs.YtigkndbkaagboaaGreatDoor
set_option linter.unusedVariables false
open Go.Lib
/-- An op: its fields and its bytes. -/
structure OpT where
  kind : Int
  a : Int
  b : Int
  n : Int
  data : Tx
/-- The Kinds' words, and their fields (97 a, 98 b, 110 n, 100 the bytes). -/
def kindW : List (Tx × Tx) := [([], []), ([115, 117, 98, 109, 105, 116], [97, 98, 100]), ([99, 97, 110, 99, 101, 108], [97, 110]), ([115, 116, 97, 116, 117, 115], [97, 110]), ([112, 111, 108, 108], [97]), ([115, 116, 101, 112], [97, 98]),
  ([115, 101, 114, 118, 101], [97]), ([116, 105, 99, 107], [110]), ([100, 114, 111, 112], [97, 110]), ([100, 111, 117, 98, 108, 101], [97, 110]), ([103, 97, 114, 98, 108, 101], [97, 100]),
  ([102, 97, 105, 114], [110]), ([105, 100, 108, 101], []), ([119, 97, 105, 116, 105, 110, 103], []), ([98, 111, 117, 110, 100], [])]
def wordK (k : Nat) : Tx := (kindW.getD k ([], [])).1
def fieldsK (k : Nat) : Tx := (kindW.getD k ([], [])).2
def okNum (x : Int) : Bool := decide (0 ≤ x) && decide (x ≤ 1099511627776)
/-- A field's text; none: it is out of its range. -/
def fieldV (o : OpT) (c : UInt8) : Option Tx :=
  if c = 97 then (if okNum o.a then some (decDigits o.a.toNat) else none)
  else if c = 98 then (if okNum o.b then some (decDigits o.b.toNat) else none)
  else if c = 110 then (if okNum o.n then some (decDigits o.n.toNat) else none)
  else if o.data.length ≤ 20000 then some (hexL o.data) else none
def textF (o : OpT) : Tx → Tx → Tx
  | acc, [] => acc
  | acc, c :: r => match fieldV o c with
    | none => []
    | some t => textF o (acc ++ 32 :: t) r
def textO (o : OpT) : Tx := if 1 ≤ o.kind ∧ o.kind ≤ 14 then textF o (wordK o.kind.toNat) (fieldsK o.kind.toNat) else []
theorem textF_step (o : OpT) (acc : Tx) (c : UInt8) (r : Tx) : textF o acc (c :: r) = match fieldV o c with
    | none => []
    | some t => textF o (acc ++ 32 :: t) r := rfl
theorem fields_chars : ∀ k : Fin 15, ∀ c ∈ fieldsK k.val, c = 97 ∨ c = 98 ∨ c = 110 ∨ c = 100 := by decide +kernel
theorem fields_bd : ∀ k : Fin 15, (fieldsK k.val).length ≤ 3 ∧ (wordK k.val).length ≤ 7 := by decide +kernel
/-- A first word's place in a table; -1: none. -/
def placeF (x : Tx) : List (Tx × Tx) → Nat → Int
  | [], _ => -1
  | p :: r, i => if p.1 = x then (i : Int) else placeF x r (i + 1)
/-- One field, from its word. -/
def fill1 (o : OpT) (c : UInt8) (w : Tx) : OpT :=
  if c = 97 then { o with a := atoiV w } else if c = 98 then { o with b := atoiV w } else if c = 110 then { o with n := atoiV w } else if w = [45] then o else { o with data := unhexP w }
def fillP : OpT → Tx → List Tx → OpT
  | o, [], _ => o
  | o, _, [] => o
  | o, c :: f, w :: r => fillP (fill1 o c w) f r
def zeroO : OpT := ⟨0, 0, 0, 0, []⟩
/-- The program's op of a line. -/
def parO (s : Tx) : OpT := fillP { zeroO with kind := placeF ((wordsT s).headD []) kindW 0 } (fieldsK (placeF ((wordsT s).headD []) kindW 0).toNat) (wordsT s).tail
def parOk (s : Tx) : Bool := decide (1 ≤ placeF ((wordsT s).headD []) kindW 0) && decide ((wordsT s).length = 1 + (fieldsK (placeF ((wordsT s).headD []) kindW 0).toNat).length)
def parP (s : Tx) : OpT × Int := if parOk s = true ∧ textO (parO s) = s then (parO s, 0) else (zeroO, 2)
theorem placeF_bd (x : Tx) : ∀ (l : List (Tx × Tx)) (i : Nat), placeF x l i = -1 ∨ ((i : Int) ≤ placeF x l i ∧ placeF x l i < (i : Int) + l.length)
  | [], i => .inl rfl
  | p :: r, i => by
    unfold placeF
    split
    · right; simp; omega
    · rcases placeF_bd x r (i + 1) with h | h
      · left; exact h
      · right; simp only [List.length_cons]; omega
end Go.Proofs.YtigkndbkaagboaaGreatDoor
