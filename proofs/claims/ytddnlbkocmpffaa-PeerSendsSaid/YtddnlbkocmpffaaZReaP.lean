/- A message that comes in pieces: plain. -/
import Derived.Test.YtddnlbkocmpffaaZIvaA
import Derived.Test.YtddnlbkocmpffaaZG2
import Derived.Laws.BytesArg
namespace Go.Proofs.Ytddnlbkocmpffaa
set_option linter.unusedVariables false
/-- Numbers that are bytes. -/
def Byt (xs : List Int) : Prop := ∀ x ∈ xs, 0 ≤ x ∧ x < 256
theorem Byt.drop {xs : List Int} (h : Byt xs) (k : Nat) : Byt (xs.drop k) := fun x hx => h x (List.mem_of_mem_drop hx)
theorem Byt.take {xs : List Int} (h : Byt xs) (k : Nat) : Byt (xs.take k) := fun x hx => h x (List.mem_of_mem_take hx)
theorem Byt.append {xs ys : List Int} (h : Byt xs) (k : Byt ys) : Byt (xs ++ ys) := fun x hx => by
  rcases List.mem_append.1 hx with hx | hx
  · exact h x hx
  · exact k x hx
theorem Byt.zeros (n : Nat) : Byt (List.replicate n 0) := fun x hx => by rw [List.eq_of_mem_replicate hx]; omega
/-- Bytes put over bytes. -/
def overB (bs : List Int) (off : Nat) (d : List Int) : List Int := bs.take off ++ (d ++ bs.drop (off + d.length))
theorem overB_len {bs d : List Int} {off : Nat} (h : off + d.length ≤ bs.length) : (overB bs off d).length = bs.length := by
  unfold overB; simp; omega
theorem overB_get {bs d : List Int} {off : Nat} (h : off + d.length ≤ bs.length) (k : Nat) : (overB bs off d)[k]? = if off ≤ k ∧ k < off + d.length then d[k - off]? else bs[k]? := by
  unfold overB
  by_cases h1 : k < off
  · rw [List.getElem?_append_left (by simp; omega), List.getElem?_take, if_pos h1, if_neg (by omega)]
  · rw [List.getElem?_append_right (by simp; omega), List.length_take, show min off bs.length = off by omega]
    by_cases h2 : k < off + d.length
    · rw [List.getElem?_append_left (by omega), if_pos (by omega)]
    · rw [List.getElem?_append_right (by omega), if_neg (by omega), List.getElem?_drop]
      congr 1; omega
theorem Byt.over {bs d : List Int} {off : Nat} (h : Byt bs) (k : Byt d) : Byt (overB bs off d) := (h.take _).append (k.append (h.drop _))
/-- The bytes from a to ahead of b. -/
def cutB (bs : List Int) (a b : Nat) : List Int := (bs.drop a).take (b - a)
theorem cutB_get {bs : List Int} {a b : Nat} (k : Nat) : (cutB bs a b)[k]? = if k < b - a then bs[a + k]? else none := by
  unfold cutB
  rw [List.getElem?_take, List.getElem?_drop]
theorem cutB_len {bs : List Int} {a b : Nat} (h : b ≤ bs.length) : (cutB bs a b).length = b - a := by
  unfold cutB; simp; omega
theorem cutB_eq {xs ys : List Int} {a b c : Nat} (h1 : b ≤ xs.length) (h2 : b - c ≤ ys.length) (hc : c ≤ a) (hab : a ≤ b) : cutB xs a b = cutB ys (a - c) (b - c) ↔ ∀ k, a ≤ k → k < b → xs[k]? = ys[k - c]? := by
  constructor
  · intro h k h3 h4
    have := congrArg (fun l => l[k - a]?) h
    simp only [cutB_get] at this
    rw [if_pos (by omega), if_pos (by omega), show a + (k - a) = k by omega, show a - c + (k - a) = k - c by omega] at this
    exact this
  · intro h
    apply List.ext_getElem?
    intro k
    rw [cutB_get, cutB_get]
    by_cases hk : k < b - a
    · rw [if_pos hk, if_pos (by omega), h (a + k) (by omega) (by omega)]
      congr 1; omega
    · rw [if_neg hk, if_neg (by omega)]
theorem strOfNums_inj {xs ys : List Int} (h1 : Byt xs) (h2 : Byt ys) : strOfNums xs = strOfNums ys ↔ xs = ys := by
  constructor
  · intro h
    have h3 := congrArg (fun b : ByteArray => b.data.toList) h
    simp only [strOfNums_data] at h3
    induction xs generalizing ys with
    | nil => simpa using h3.symm
    | cons x xs ih =>
      cases ys with
      | nil => simp at h3
      | cons y ys =>
        simp only [List.map_cons, List.cons.injEq] at h3
        have hx := h1 x (List.mem_cons_self ..)
        have hy := h2 y (List.mem_cons_self ..)
        have hxy : x = y := by
          have := congrArg UInt8.toNat h3.1
          simp only [UInt8.toNat_ofNat'] at this
          omega
        rw [hxy, ih (fun z hz => h1 z (List.mem_cons_of_mem _ hz)) (fun z hz => h2 z (List.mem_cons_of_mem _ hz)) _ h3.2]
        unfold strOfNums
        rw [h3.2]
  · rintro rfl; rfl
/-- A message of which some came. -/
structure BufA where
  bs : List Int
  l : List (Int × Int)
structure BufOk (b : BufA) : Prop where
  byt : Byt b.bs
  ok : RsOk b.bs.length 0 b.l
  most : b.bs.length ≤ 20000
def newBuf (tot : Nat) : BufA := ⟨List.replicate tot 0, []⟩
theorem newBuf_ok {tot : Nat} (h : tot ≤ 20000) : BufOk (newBuf tot) := ⟨Byt.zeros _, by simp [newBuf, RsOk], by simpa [newBuf] using h⟩
/-- Does a run hold other bytes than those that come? -/
def clash1 (bs : List Int) (off : Nat) (d : List Int) (r : Int × Int) : Bool :=
  decide (max r.1 off < min r.2 ((off + d.length : Nat) : Int)) && !decide (cutB bs (max r.1 off).toNat (min r.2 ((off + d.length : Nat) : Int)).toNat = cutB d ((max r.1 off).toNat - off) ((min r.2 ((off + d.length : Nat) : Int)).toNat - off))
def clash (bs : List Int) (off : Nat) (d : List Int) (l : List (Int × Int)) : Bool := l.any (clash1 bs off d)
theorem clash_no {bs d : List Int} {off tot : Nat} {l : List (Int × Int)} (hok : RsOk bs.length 0 l) (ho : off + d.length ≤ bs.length) :
    clash bs off d l = false ↔ ∀ k, off ≤ k → k < off + d.length → inR l (k : Int) → bs[k]? = d[k - off]? := by
  unfold clash
  rw [List.any_eq_false]
  constructor
  · intro h k h1 h2 ⟨r, hr, h3, h4⟩
    have := h r hr
    unfold clash1 at this
    have hm := hok.mem r hr
    rw [Bool.and_eq_true, not_and, decide_eq_true_eq] at this
    have h5 := this (by omega)
    rw [Bool.not_eq_true', Bool.not_eq_false, decide_eq_true_eq, cutB_eq (by omega) (by omega) (by omega) (by omega)] at h5
    exact h5 k (by omega) (by omega)
  · intro h r hr
    unfold clash1
    have hm := hok.mem r hr
    rw [Bool.and_eq_true, not_and, decide_eq_true_eq]
    intro h1
    rw [Bool.not_eq_true', Bool.not_eq_false, decide_eq_true_eq, cutB_eq (by omega) (by omega) (by omega) (by omega)]
    exact fun k h2 h3 => h k (by omega) (by omega) ⟨r, hr, by omega, by omega⟩
/-- .. behind a piece. -/
def putBuf (b : BufA) (off : Nat) (d : List Int) : BufA := ⟨overB b.bs off d, putR b.l off ((off + d.length : Nat) : Int)⟩
theorem putBuf_ok {b : BufA} {off : Nat} {d : List Int} (h : BufOk b) (hd : Byt d) (ho : off + d.length ≤ b.bs.length) : BufOk (putBuf b off d) :=
  ⟨h.byt.over hd, by
    have := (putR_ok (a := (off : Int)) (b := ((off + d.length : Nat) : Int)) h.ok (by omega) (by omega) (by omega)).1
    unfold putBuf
    rw [overB_len ho]
    exact this, by
    unfold putBuf
    rw [overB_len ho]
    exact h.most⟩
theorem putBuf_len {b : BufA} {off : Nat} {d : List Int} (ho : off + d.length ≤ b.bs.length) : (putBuf b off d).bs.length = b.bs.length := overB_len ho
def fullBuf (b : BufA) : Bool := decide (sumR b.l = b.bs.length)
/-- Did this byte come? -/
def cameB (b : BufA) (k : Nat) : Prop := inR b.l (k : Int)
theorem putBuf_came {b : BufA} {off : Nat} {d : List Int} (h : BufOk b) (ho : off + d.length ≤ b.bs.length) (k : Nat) : cameB (putBuf b off d) k ↔ (off ≤ k ∧ k < off + d.length) ∨ cameB b k := by
  have := (putR_ok (a := (off : Int)) (b := ((off + d.length : Nat) : Int)) h.ok (by omega) (by omega) (by omega)).2 (k : Int)
  unfold cameB putBuf
  rw [this]
  exact or_congr (by omega) Iff.rfl
theorem putBuf_get {b : BufA} {off : Nat} {d : List Int} (ho : off + d.length ≤ b.bs.length) (k : Nat) : (putBuf b off d).bs[k]? = if off ≤ k ∧ k < off + d.length then d[k - off]? else b.bs[k]? := overB_get ho k
theorem fullBuf_iff {b : BufA} (h : BufOk b) : fullBuf b = true ↔ ∀ k, k < b.bs.length → cameB b k := by
  unfold fullBuf cameB
  have := sumR_full h.ok
  rw [Int.sub_zero] at this
  rw [decide_eq_true_eq, this]
  constructor
  · intro h k hk
    exact h k (by omega) (by omega)
  · intro h x h1 h2
    have := h x.toNat (by omega)
    rwa [Int.toNat_of_nonneg h1] at this
theorem newBuf_came (tot k : Nat) : ¬ cameB (newBuf tot) k := inR_nil _
end Go.Proofs.Ytddnlbkocmpffaa
