/- A law's own Receivers, and one block of the law's beside them. -/
import Derived.Test.YtddnlbkocmpffaaZPeeL
namespace Go.Proofs.Ytddnlbkocmpffaa
open Go.RowKit
set_option linter.unusedVariables false
set_option maxHeartbeats 4000000
set_option maxRecDepth 100000
/-- What is a law's own since w0, but for block g. -/
abbrev mineG (g : Nat) (w0 w : World) : Nat → Prop := fun k => (w0.heap.size ≤ k ∧ k < w.heap.size) ∧ k ≠ g
structure LawG (g : Nat) (rb : Nat) (R : RecA) (w0 w : World) : Prop where
  own : RecO rb R w (mineG g w0 w)
  mod : Mod NoB w0 w
  lt : g < w.heap.size
section
variable {g rb : Nat} {R : RecA} {w0 w w' : World}
theorem LawG.keep {Z : Nat → Prop} (h : LawG g rb R w0 w) (m : Mod Z w w') (hz : ∀ k, Z k → k = g) (hg : w0.heap.size ≤ g) : LawG g rb R w0 w' :=
  ⟨(h.own.keep m fun k hk hz' => hk.2 (hz k hz')).up fun k hk => ⟨⟨hk.1.1, Nat.lt_of_lt_of_le hk.1.2 m.size⟩, hk.2⟩, h.mod.trans m fun k hk e => by have := hz k e; omega, Nat.lt_of_lt_of_le h.lt m.size⟩
theorem LawG.later (h : LawG g rb R w0 w) (m : Mod NoB w w') : LawG g rb R w0 w' :=
  ⟨(h.own.later m).up fun k hk => ⟨⟨hk.1.1, Nat.lt_of_lt_of_le hk.1.2 m.size⟩, hk.2⟩, h.mod.trans m fun _ _ e => e, Nat.lt_of_lt_of_le h.lt m.size⟩
theorem LawG.step (h : LawG g rb R w0 w) {R' : RecA} (hr : RecO rb R' w' (Ext (mineG g w0 w) w w')) (m : Mod (mineG g w0 w) w w') : LawG g rb R' w0 w' ∧ Mod (fun k => k ≠ g) w w' :=
  ⟨⟨hr.up fun k hk => by
    have := m.size
    have := h.mod.size
    have := h.lt
    rcases hk with hk | hk
    · exact ⟨⟨hk.1.1, by omega⟩, hk.2⟩
    · exact ⟨⟨by omega, hk.2⟩, by omega⟩, h.mod.trans m fun k hk e => by have := e.1.1; omega, Nat.lt_of_lt_of_le h.lt m.size⟩, m.mono fun k _ hk => hk.2⟩
theorem LawG.ofR (h : LawR rb R w0 w) (m : Mod NoB w w') (hg : w.heap.size ≤ g) (hg' : g < w'.heap.size) : LawG g rb R w0 w' :=
  ⟨(h.own.later m).up fun k hk => ⟨⟨hk.1, Nat.lt_of_lt_of_le hk.2 m.size⟩, by omega⟩, h.mod.trans m fun _ _ e => e, hg'⟩
theorem lawDataG (h : LawG g rb R w0 w) (hok : RecOk R) (i : Nat) (hi : i < 8) (id : Int) (hid1 : 1 ≤ id) (hid2 : id ≤ 1152921504606846976) (tot off : Nat) (d : List Int) (dv : Value) (hd : Has w w.heap.size 1 encB dv d) (hot : off + d.length ≤ tot) (htm : (tot : Int) ≤ 9223372036854775807)
    (hap : 0 < d.length → ∀ k, dv.ownBlock = some k → ¬ (w0.heap.size ≤ k ∧ k < w.heap.size)) (hbt : Byt d) (hout : R.out.length ≤ 1000000) :
    Calls Try.prog 9 #[.pointer (some ⟨rb, 0, none⟩), .int .i64 i, .int .u64 id, .int .i64 tot, .int .i64 off, dv] w fun e w' => e = .returned (.tuple #[.int .i64 (R.data i id tot off d).2.1, .bool (R.data i id tot off d).2.2.1, .int .i64 (R.data i id tot off d).2.2.2]) ∧ LawG g rb (R.data i id tot off d).1 w0 w' ∧ Mod (fun k => k ≠ g) w w' := by
  refine (dataW h.own hok i hi id hid1 hid2 tot off d dv hd hot htm (fun h0 k hk e => hap h0 k hk e.1) hbt hout).mono ?_
  rintro e w' ⟨rfl, hr, m⟩
  exact ⟨rfl, h.step hr m⟩
theorem lawPollNoG (h : LawG g rb R w0 w) (ho : R.out = []) : Calls Try.prog 11 #[.pointer (some ⟨rb, 0, none⟩)] w fun e w' => e = .returned (.tuple #[.agg #[.int .i64 0, .int .u64 0, .slice none 0 0], .bool false]) ∧ LawG g rb R w0 w' ∧ Mod (fun k => k ≠ g) w w' := by
  obtain ⟨ad, hx, hl⟩ := h.own
  refine (pollNo hx hl ho).mono ?_
  rintro e w' ⟨rfl, m⟩
  exact ⟨rfl, h.later m, m.mono fun _ _ e => e.elim⟩
theorem lawPollG (h : LawG g rb R w0 w) (src id : Int) (d : List Int) (out : List (Int × Int × List Int)) (ho : R.out = (src, id, d) :: out) (hn : R.out.length ≤ 1000000) : Calls Try.prog 11 #[.pointer (some ⟨rb, 0, none⟩)] w fun e w' => ∃ A c, e = .returned (.tuple #[.agg #[.int .i64 src, .int .u64 id, .slice A d.length c], .bool true]) ∧ Own w' 0 5 1 encB (.slice A d.length c) d ∧ LawG g rb { R with out := out } w0 w' ∧ Mod (fun k => k ≠ g) w w' := by
  refine (pollW h.own src id d out ho hn).mono ?_
  rintro e w' ⟨dv, rfl, h1, h2, h3, m⟩
  obtain ⟨A, c, rfl, -, -⟩ := h1.form
  exact ⟨A, c, rfl, h1, h.step (h3.up fun k hk => hk.1) m⟩
theorem lawRetireG (h : LawG g rb R w0 w) (hok : RecOk R) (i : Nat) (hi : i < 8) (below : Int) (hb0 : 0 ≤ below) (ks : List (Int × Int)) (hks : KeysOf R ks) :
    Calls Try.prog 31 #[.pointer (some ⟨rb, 0, none⟩), .int .i64 i, .int .u64 below] w fun e w' => (∃ n : Int, e = .returned (.int .i64 n)) ∧ LawG g rb (R.retire i below (ks.countP (goneK i below))) w0 w' ∧ Mod (fun k => k ≠ g) w w' := by
  refine (recRetireW h.own hok i hi below hb0 ks hks).mono ?_
  rintro e w' ⟨rfl, hr, m⟩
  exact ⟨⟨_, rfl⟩, h.step hr m⟩
end
end Go.Proofs.Ytddnlbkocmpffaa
