/- A memory that the evaluator knows, from a block on: two hosts, and what calls on them make of it. -/
import Derived.Test.YtjlooeaffbnjgaaGreatRunS
import Derived.Test.YtjlooeaffbnjgaaGreatFoot
namespace Go.Proofs.YtjlooeaffbnjgaaGreat
open Go.Proofs.YtjlooeaffbnjgaaGreat.Ev Go.RowKit
open Go hiding Obj
set_option linter.unusedVariables false
set_option linter.unusedSimpArgs false
/-- What the evaluator knows lies in blocks from B on. -/
structure Kn (B : Nat) (r : Ren) (S : St) (w : World) : Prop where
  rel : Rel r S w
  own : ∀ b, Owned r S b → B ≤ b
  le : B ≤ w.heap.size
theorem Kn.later {B : Nat} {r : Ren} {S : St} {w w' : World} (h : Kn B r S w) (m : Mod (fun _ => False) w w') : Kn B r S w' :=
  ⟨(Fr.below h.rel m.below).rel, h.own, Nat.le_trans h.le m.size⟩
theorem Kn.start (w : World) : Kn w.heap.size r0 S0 w := ⟨rel0 w (gl_any w), fun b hb => absurd hb own0, Nat.le_refl _⟩
/-- A call whose run the evaluator knows. -/
theorem Kn.run {B : Nat} {r : Ren} {S S' : St} {w : World} {f : FuncId} {args args' : List Value} {v : Value} (h : Kn B r S w) (hrun : runF f args S = some (v, S')) (ha : VRs r args args') :
    Calls Tryz.prog f ⟨args'⟩ w fun e w' => ∃ r' v', e = .returned v' ∧ VR r' v v' ∧ r.le r' ∧ Kn B r' S' w' ∧ Mod (fun k => B ≤ k) w w' :=
  (callF_sound (Checked.mixed Tryz.checked) prE_ok tab_ok 5000 hrun h.rel ha).mono fun e w' ⟨r', v', h1, f, h2⟩ =>
    ⟨r', v', h1, h2, f.le, ⟨f.rel, fun b hb => (f.own b hb).elim (h.own b) (fun e => Nat.le_trans h.le e), Nat.le_trans h.le f.size⟩,
      ⟨f.os, f.tape, f.output, f.size, fun k hk hn => f.kept k hk (fun ho => hn (h.own k ho))⟩⟩
/-- Cell j of thing i is v. -/
noncomputable def pinB (S : St) (i j : Nat) (v : Value) : Bool := match S.get i with
  | some (.cells c _ _) => (match c[j]? with | some u => veq u v | none => false)
  | _ => false
theorem Kn.pin {B : Nat} {r : Ren} {S : St} {w : World} (h : Kn B r S w) {i j : Nat} {v : Value} (hp : pinB S i j v = true) (he : i % 2 = 0) :
    ∃ v', w.cell? ⟨r.μ i, j, none⟩ = some v' ∧ VR r v v' ∧ i < r.n ∧ r.δ i = 0 ∧ r.μ i < w.heap.size := by
  unfold pinB at hp
  split at hp
  · rename_i c t1 t2 hg
    split at hp
    · rename_i u hu
      obtain rfl := veq_eq hp
      obtain ⟨hlt, hm, hcs, _, hev⟩ := h.rel.objs _ _ hg
      obtain ⟨v', h1, h2, _, _⟩ := hcs _ _ hu
      have hd := (hev he).1
      rw [hd] at h1
      exact ⟨v', h1, h2, hlt, hd, hm.lt⟩
    · cases hp
  · cases hp
/-- Numbers of two hosts' things: the two, each host, each core. -/
structure Ids where
  t : Nat
  h0 : Nat
  h1 : Nat
  c0 : Nat
  c1 : Nat
noncomputable def ptrAt (S : St) (i j : Nat) : Option Nat := match S.get i with
  | some (.cells c _ _) => (match c[j]? with | some (.pointer (some ⟨b, 0, none⟩)) => some b | _ => none)
  | _ => none
noncomputable def idsOf (S : St) (t : Nat) : Option Ids := ob (ptrAt S t 0) fun h0 => ob (ptrAt S t 1) fun h1 => ob (ptrAt S h0 0) fun c0 => ob (ptrAt S h1 0) fun c1 => some ⟨t, h0, h1, c0, c1⟩
abbrev ptrV (b : Nat) : Value := .pointer (some ⟨b, 0, none⟩)
def evB (n : Nat) : Bool := Nat.beq (Nat.mod n 2) 0
noncomputable def idsB (S : St) (q : Ids) : Bool :=
  evB q.t && evB q.h0 && evB q.h1 && evB q.c0 && evB q.c1 && pinB S q.t 0 (ptrV q.h0) && pinB S q.t 1 (ptrV q.h1) && pinB S q.h0 0 (ptrV q.c0) && pinB S q.h1 0 (ptrV q.c1) &&
    pinB S q.c1 14 (.int .i64 1) && pinB S q.c1 1 (.int .i64 2) && pinB S q.c0 14 (.int .i64 0)
/-- Blocks of two hosts' things. -/
structure Adr where
  t : Nat
  h0 : Nat
  h1 : Nat
  c0 : Nat
  c1 : Nat
/-- Two hosts that the evaluator knows, in the world. -/
structure TwoAt (B : Nat) (S : St) (q : Ids) (a : Adr) (w : World) : Prop where
  ex : ∃ r, Kn B r S w ∧ r.μ q.t = a.t ∧ r.μ q.h0 = a.h0 ∧ r.μ q.h1 = a.h1 ∧ r.μ q.c0 = a.c0 ∧ r.μ q.c1 = a.c1
  ok : idsB S q = true
theorem evB_eq {n : Nat} (h : evB n = true) : n % 2 = 0 := Nat.eq_of_beq_eq_true h
theorem ptr_eq {r : Ren} {b : Nat} {v : Value} (h : VR r (ptrV b) v) (hd : r.δ b = 0) : v = .pointer (some ⟨r.μ b, 0, none⟩) := by
  cases h with
  | sc _ hs => simp [scalar] at hs
  | ptr _ _ _ => simp [hd]
section
variable {B : Nat} {S S' : St} {q : Ids} {a : Adr} {w w' : World}
theorem TwoAt.later (h : TwoAt B S q a w) (m : Mod (fun _ => False) w w') : TwoAt B S q a w' := by
  obtain ⟨⟨r, h1, h2⟩, h3⟩ := h
  exact ⟨⟨r, h1.later m, h2⟩, h3⟩
structure TwoCells (w : World) (a : Adr) : Prop where
  t0 : w.cell? ⟨a.t, 0, none⟩ = some (.pointer (some ⟨a.h0, 0, none⟩))
  t1 : w.cell? ⟨a.t, 1, none⟩ = some (.pointer (some ⟨a.h1, 0, none⟩))
  h0 : w.cell? ⟨a.h0, 0, none⟩ = some (.pointer (some ⟨a.c0, 0, none⟩))
  h1 : w.cell? ⟨a.h1, 0, none⟩ = some (.pointer (some ⟨a.c1, 0, none⟩))
  me : w.cell? ⟨a.c1, 14, none⟩ = some (.int .i64 1)
  hosts : w.cell? ⟨a.c1, 1, none⟩ = some (.int .i64 2)
  tl : a.t < w.heap.size
  h0l : a.h0 < w.heap.size
  h1l : a.h1 < w.heap.size
  c0l : a.c0 < w.heap.size
  c1l : a.c1 < w.heap.size
theorem TwoAt.cells (h : TwoAt B S q a w) : TwoCells w a := by
  obtain ⟨⟨r, hk, e1, e2, e3, e4, e5⟩, ho⟩ := h
  unfold idsB at ho
  simp only [Bool.and_eq_true] at ho
  obtain ⟨⟨⟨⟨⟨⟨⟨⟨⟨⟨⟨v1, v2⟩, v3⟩, v4⟩, v5⟩, p1⟩, p2⟩, p3⟩, p4⟩, p5⟩, p6⟩, p7⟩ := ho
  obtain ⟨u1, c1, r1, -, -, l1⟩ := hk.pin p1 (evB_eq v1)
  obtain ⟨u2, c2, r2, -, -, -⟩ := hk.pin p2 (evB_eq v1)
  obtain ⟨u3, c3, r3, -, d3, l3⟩ := hk.pin p3 (evB_eq v2)
  obtain ⟨u4, c4, r4, -, d4, l4⟩ := hk.pin p4 (evB_eq v3)
  obtain ⟨u5, c5, r5, -, d5, l5⟩ := hk.pin p5 (evB_eq v5)
  obtain ⟨u6, c6, r6, -, -, -⟩ := hk.pin p6 (evB_eq v5)
  obtain ⟨u7, c7, r7, -, d7, l7⟩ := hk.pin p7 (evB_eq v4)
  obtain rfl := ptr_eq r1 d3
  obtain rfl := ptr_eq r2 d4
  obtain rfl := ptr_eq r3 d7
  obtain rfl := ptr_eq r4 d5
  obtain rfl := r5.sc_eq rfl
  obtain rfl := r6.sc_eq rfl
  rw [e1, e2] at c1
  rw [e1, e3] at c2
  rw [e2, e4] at c3
  rw [e3, e5] at c4
  rw [e5] at c5 c6 l5
  rw [e1] at l1
  rw [e2] at l3
  rw [e3] at l4
  rw [e4] at l7
  exact ⟨c1, c2, c3, c4, c5, c6, l1, l3, l4, l7, l5⟩
/-- Values that hold such that lead nowhere. -/
def plain2 : Value → Bool
  | .tuple cs => cs.toList.all plain
  | v => plain v
theorem vrs_plain {r : Ren} : ∀ {xs ys : List Value}, VRs r xs ys → (xs.all plain) = true → ys = xs
  | _, _, .nil, _ => rfl
  | _, _, .cons h hs, e => by simp at e; rw [h.plain_eq e.1, vrs_plain hs (by simpa using e.2)]
theorem vr_plain2 {r : Ren} {v v' : Value} (h : VR r v v') (hs : plain2 v = true) : v' = v := by
  cases h with
  | tuple h => rw [vrs_plain h hs]
  | sc v h => rfl
  | agg h => exact (VR.agg h).plain_eq hs
  | iface t h => exact (VR.iface t h).plain_eq hs
  | _ => simp [plain2, plain, scalar] at hs
/-- A call on two hosts whose run the evaluator knows: the things that it is handed first. -/
inductive Arg | t | c0 | c1
def Arg.id (q : Ids) : Arg → Nat
  | .t => q.t
  | .c0 => q.c0
  | .c1 => q.c1
def Arg.at (a : Adr) : Arg → Nat
  | .t => a.t
  | .c0 => a.c0
  | .c1 => a.c1
theorem TwoAt.run (h : TwoAt B S q a w) (g : Arg) {f : FuncId} {args : List Value} {v : Value} (hrun : runF f (ptrV (g.id q) :: args) S = some (v, S')) (hok : idsB S' q = true) (hp : args.all plain = true) (hv : plain2 v = true) :
    Calls Tryz.prog f ⟨.pointer (some ⟨g.at a, 0, none⟩) :: args⟩ w fun e w' => e = .returned v ∧ TwoAt B S' q a w' ∧ Mod (fun k => B ≤ k) w w' := by
  have ho := h.ok
  obtain ⟨⟨r, hk, e1, e2, e3, e4, e5⟩, -⟩ := h
  unfold idsB at ho
  simp only [Bool.and_eq_true] at ho
  obtain ⟨⟨⟨⟨⟨⟨⟨⟨⟨⟨⟨v1, v2⟩, v3⟩, v4⟩, v5⟩, p1⟩, p2⟩, p3⟩, p4⟩, p5⟩, p6⟩, p7⟩ := ho
  obtain ⟨-, -, -, n1, d1, l1⟩ := hk.pin p1 (evB_eq v1)
  obtain ⟨-, -, -, n2, d2, -⟩ := hk.pin p3 (evB_eq v2)
  obtain ⟨-, -, -, n3, d3, -⟩ := hk.pin p4 (evB_eq v3)
  obtain ⟨-, -, -, n5, d5, -⟩ := hk.pin p5 (evB_eq v5)
  obtain ⟨-, -, -, n7, d7, -⟩ := hk.pin p7 (evB_eq v4)
  have key : ∀ i A', i < r.n → r.δ i = 0 → r.μ i = A' → VR r (ptrV i) (.pointer (some ⟨A', 0, none⟩)) := fun i A' hn hd hm => by
    have := VR.ptr (r := r) i 0 hn
    rw [hd, hm] at this
    exact this
  have harg : VR r (ptrV (g.id q)) (.pointer (some ⟨g.at a, 0, none⟩)) := by
    cases g with
    | t => exact key _ _ n1 d1 e1
    | c0 => exact key _ _ n7 d7 e4
    | c1 => exact key _ _ n5 d5 e5
  refine (hk.run hrun (.cons harg (VRs.pl hp))).mono ?_
  rintro e w' ⟨r', v', rfl, hvr, hle, hk', hm⟩
  refine ⟨by rw [vr_plain2 hvr hv], ⟨⟨r', hk', ?_, ?_, ?_, ?_, ?_⟩, hok⟩, hm⟩
  · rw [(hle.2 _ n1).1, e1]
  · rw [(hle.2 _ n2).1, e2]
  · rw [(hle.2 _ n3).1, e3]
  · rw [(hle.2 _ n7).1, e4]
  · rw [(hle.2 _ n5).1, e5]
/-- Two hosts are made. -/
theorem fresh_of {f : FuncId} {cfg : Value} (hrun : runF f [cfg] S0 = some (.tuple #[.pointer (some ⟨q.t, 0, none⟩), .bool true], S)) (hok : idsB S q = true) (hc : [cfg].all plain = true) (w : World) :
    Calls Tryz.prog f ⟨[cfg]⟩ w fun e w' => ∃ a : Adr, e = .returned (.tuple #[.pointer (some ⟨a.t, 0, none⟩), .bool true]) ∧ TwoAt w.heap.size S q a w' ∧ Mod (fun _ => False) w w' := by
  refine ((Kn.start w).run hrun (VRs.pl hc)).mono ?_
  rintro e w' ⟨r', v', rfl, hvr, hle, hk', hm⟩
  have ho := hok
  unfold idsB at ho
  simp only [Bool.and_eq_true] at ho
  obtain ⟨⟨⟨⟨⟨⟨⟨⟨⟨⟨⟨v1, v2⟩, v3⟩, v4⟩, v5⟩, p1⟩, p2⟩, p3⟩, p4⟩, p5⟩, p6⟩, p7⟩ := ho
  obtain ⟨-, -, -, n1, d1, l1⟩ := hk'.pin p1 (evB_eq v1)
  refine ⟨⟨r'.μ q.t, r'.μ q.h0, r'.μ q.h1, r'.μ q.c0, r'.μ q.c1⟩, ?_, ⟨⟨r', hk', rfl, rfl, rfl, rfl, rfl⟩, hok⟩, hm.mono (fun k hk e => by omega)⟩
  cases hvr with
  | sc _ h => simp [scalar] at h
  | tuple h =>
    cases h with
    | cons h1 h2 =>
      cases h2 with
      | cons h2 h3 =>
        cases h3
        obtain rfl := ptr_eq h1 d1
        obtain rfl := h2.sc_eq rfl
        rfl
end
end Go.Proofs.YtjlooeaffbnjgaaGreat
