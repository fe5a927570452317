/- A law's own Receivers: what each call does, all that the law made being its own. -/
import Derived.Test.YtddnlbkocmpffaaZPeeA
namespace Go.Proofs.Ytddnlbkocmpffaa
open Go.RowKit
set_option linter.unusedVariables false
set_option maxHeartbeats 4000000
set_option maxRecDepth 100000
/-- Receivers that a law made since w0. -/
structure LawR (rb : Nat) (R : RecA) (w0 w : World) : Prop where
  own : RecO rb R w (fun k => w0.heap.size ≤ k ∧ k < w.heap.size)
  mod : Mod NoB w0 w
section
variable {rb : Nat} {R : RecA} {w0 w w' : World}
theorem LawR.later (h : LawR rb R w0 w) (m : Mod NoB w w') : LawR rb R w0 w' :=
  ⟨(h.own.later m).up fun k hk => ⟨hk.1, Nat.lt_of_lt_of_le hk.2 m.size⟩, h.mod.trans m fun _ _ e => e⟩
theorem LawR.step (h : LawR rb R w0 w) {R' : RecA} (hr : RecO rb R' w' (Ext (fun k => w0.heap.size ≤ k ∧ k < w.heap.size) w w')) (m : Mod (fun k => w0.heap.size ≤ k ∧ k < w.heap.size) w w') : LawR rb R' w0 w' :=
  ⟨hr.up fun k hk => by
    have := m.size
    have := h.mod.size
    rcases hk with hk | hk
    · exact ⟨hk.1, by omega⟩
    · exact ⟨by omega, hk.2⟩, h.mod.trans m fun k hk e => by omega⟩
theorem LawR.new (rb : Nat) (R : RecA) (w1 : World) (hm : Mod NoB w0 w1) (hr : RecO rb R w' (Ext NoB w1 w')) (m : Mod NoB w1 w') : LawR rb R w0 w' :=
  ⟨hr.up fun k hk => hk.elim (fun e => e.elim) fun e => ⟨Nat.le_trans hm.size e.1, e.2⟩, hm.trans m fun _ _ e => e⟩
/-- 'Data' with bytes of anybody else's. -/
theorem lawDataH (h : LawR rb R w0 w) (hok : RecOk R) (i : Nat) (hi : i < 8) (id : Int) (hid1 : 1 ≤ id) (hid2 : id ≤ 1152921504606846976) (tot off : Nat) (d : List Int) (dv : Value) (hd : Has w w.heap.size 1 encB dv d) (hot : off + d.length ≤ tot) (htm : (tot : Int) ≤ 9223372036854775807)
    (hap : 0 < d.length → ∀ k, dv.ownBlock = some k → ¬ (w0.heap.size ≤ k ∧ k < w.heap.size)) (hbt : Byt d) (hout : R.out.length ≤ 1000000) :
    Calls Try.prog 9 #[.pointer (some ⟨rb, 0, none⟩), .int .i64 i, .int .u64 id, .int .i64 tot, .int .i64 off, dv] w fun e w' => e = .returned (.tuple #[.int .i64 (R.data i id tot off d).2.1, .bool (R.data i id tot off d).2.2.1, .int .i64 (R.data i id tot off d).2.2.2]) ∧ LawR rb (R.data i id tot off d).1 w0 w' := by
  refine (dataW h.own hok i hi id hid1 hid2 tot off d dv hd hot htm hap hbt hout).mono ?_
  rintro e w' ⟨rfl, hr, m⟩
  exact ⟨rfl, h.step hr m⟩
/-- 'Data' with bytes of a literal. -/
theorem lawData (h : LawR rb R w0 w) (hok : RecOk R) (i : Nat) (hi : i < 8) (id : Int) (hid1 : 1 ≤ id) (hid2 : id ≤ 1152921504606846976) (tot off : Nat) (d : List Int) (m : Nat × Nat) (hot : off + d.length ≤ tot) (htm : (tot : Int) ≤ 9223372036854775807) (hbt : Byt d) (hout : R.out.length ≤ 1000000) :
    Calls Try.prog 9 #[.pointer (some ⟨rb, 0, none⟩), .int .i64 i, .int .u64 id, .int .i64 tot, .int .i64 off, .slice (some ⟨w.heap.size, 0, none⟩) d.length d.length] (w.alloc (.cells (d.map (Value.int .u8)).toArray 5 m)) fun e w' =>
      e = .returned (.tuple #[.int .i64 (R.data i id tot off d).2.1, .bool (R.data i id tot off d).2.2.1, .int .i64 (R.data i id tot off d).2.2.2]) ∧ LawR rb (R.data i id tot off d).1 w0 w' := by
  have ha := (Mod.refl NoB w).alloc (.cells (d.map (Value.int .u8)).toArray 5 m)
  refine (dataW (h.own.later ha) hok i hi id hid1 hid2 tot off d _ (lit_has w d m) hot htm (fun _ k hk e => ?_) hbt hout).mono ?_
  · have : w.heap.size = k := Option.some.inj hk
    omega
  · rintro e w' ⟨rfl, hr, m'⟩
    have hs := ha.size
    refine ⟨rfl, (h.later ha).step ?_ (m'.mono (fun k _ hk => ⟨hk.1, Nat.lt_of_lt_of_le hk.2 hs⟩))⟩
    exact hr.up fun k hk => hk.elim (fun e => .inl ⟨e.1, Nat.lt_of_lt_of_le e.2 hs⟩) .inr
theorem lawPollNo (h : LawR rb R w0 w) (ho : R.out = []) : Calls Try.prog 11 #[.pointer (some ⟨rb, 0, none⟩)] w fun e w' => e = .returned (.tuple #[.agg #[.int .i64 0, .int .u64 0, .slice none 0 0], .bool false]) ∧ LawR rb R w0 w' := by
  obtain ⟨ad, hx, hl⟩ := h.own
  refine (pollNo hx hl ho).mono ?_
  rintro e w' ⟨rfl, m⟩
  exact ⟨rfl, h.later m⟩
theorem lawPoll (h : LawR rb R w0 w) (src id : Int) (d : List Int) (out : List (Int × Int × List Int)) (ho : R.out = (src, id, d) :: out) (hn : R.out.length ≤ 1000000) : Calls Try.prog 11 #[.pointer (some ⟨rb, 0, none⟩)] w fun e w' => ∃ A c, e = .returned (.tuple #[.agg #[.int .i64 src, .int .u64 id, .slice A d.length c], .bool true]) ∧ Own w' 0 5 1 encB (.slice A d.length c) d ∧ LawR rb { R with out := out } w0 w' := by
  refine (pollW h.own src id d out ho hn).mono ?_
  rintro e w' ⟨dv, rfl, h1, h2, h3, m⟩
  obtain ⟨A, c, rfl, -, -⟩ := h1.form
  exact ⟨A, c, rfl, h1, h.step (h3.up fun k hk => hk.1) m⟩
theorem lawLen (h : LawR rb R w0 w) : Calls Try.prog 10 #[.pointer (some ⟨rb, 0, none⟩)] w fun e w' => e = .returned (.int .i64 R.n) ∧ w = w' := by
  obtain ⟨ad, hx, hl⟩ := h.own
  exact recLenW hx
theorem lawWaiting (h : LawR rb R w0 w) : Calls Try.prog 12 #[.pointer (some ⟨rb, 0, none⟩)] w fun e w' => e = .returned (.int .i64 (R.out.length : Nat)) ∧ w = w' := by
  obtain ⟨ad, hx, hl⟩ := h.own
  exact waitingW hx hl
theorem lawRetire (h : LawR rb R w0 w) (hok : RecOk R) (i : Nat) (hi : i < 8) (below : Int) (hb0 : 0 ≤ below) (ks : List (Int × Int)) (hks : KeysOf R ks) :
    Calls Try.prog 31 #[.pointer (some ⟨rb, 0, none⟩), .int .i64 i, .int .u64 below] w fun e w' => e = .returned (.int .i64 (ks.countP (goneK i below) : Nat)) ∧ LawR rb (R.retire i below (ks.countP (goneK i below))) w0 w' := by
  refine (recRetireW h.own hok i hi below hb0 ks hks).mono ?_
  rintro e w' ⟨rfl, hr, m⟩
  exact ⟨rfl, h.step hr m⟩
end
end Go.Proofs.Ytddnlbkocmpffaa
