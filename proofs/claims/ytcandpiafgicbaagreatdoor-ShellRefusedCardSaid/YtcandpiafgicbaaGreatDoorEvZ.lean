/- The evaluator once more, in the shape in which the kernel runs it fast: raw recursors, small bodies, closed arms. -/
import Derived.Test.YtcandpiafgicbaaGreatDoorEvX
namespace Go.Proofs.YtcandpiafgicbaaGreatDoor.Ev
open Go hiding Obj
set_option linter.unusedVariables false
set_option linter.unusedSimpArgs false
set_option linter.unusedSectionVars false
variable [Gl]
noncomputable def ob {α β : Type} (x : Option α) (f : α → Option β) : Option β := @Option.rec α (fun _ => Option β) none f x
theorem ob_some {α β : Type} {x : Option α} {f : α → Option β} {b : β} (h : ob x f = some b) : ∃ a, x = some a ∧ f a = some b := by
  cases x with
  | none => cases h
  | some a => exact ⟨a, rfl, h⟩
/-- A number, laid bare. -/
noncomputable def forceN {β : Type} (n : Nat) (k : Nat → β) : β := @Nat.rec (fun _ => β) (k 0) (fun m _ => k (Nat.succ m)) n
theorem forceN_eq {β : Type} (n : Nat) (k : Nat → β) : forceN n k = k n := by cases n <;> rfl
noncomputable def Env.upF (e : Env) (d : Option Tmp) (v : Value) : Env :=
  @Option.rec Tmp (fun _ => Env → Value → Env) (fun e _ => e) (fun t e v => @Env.rec (fun _ => Nat → Value → Env) (fun tr sz t v => ⟨ifB (Nat.ble (Nat.succ t) sz) (Tr.ins tr t v) Tr.nil, sz⟩) e t v) d e v
theorem Env.upF_eq (e : Env) (d : Option Tmp) (v : Value) : e.upF d v = e.up d v := by
  cases d with
  | none => rfl
  | some t =>
    obtain ⟨tr, sz⟩ := e
    have : (⟨tr, sz⟩ : Env).upF (some t) v = ⟨ifB (Nat.ble (Nat.succ t) sz) (Tr.ins tr t v) Tr.nil, sz⟩ := rfl
    rw [this, ifB_eq]; rfl
/- values -/
noncomputable def constV (v : Value) : Option Value := bif plain v then some v else none
noncomputable def opdF (e : Env) (x : Operand) : Option Value :=
  @Operand.rec (fun _ => Env → Option Value) (fun t e => e.at t) (fun v _ => constV v) (fun _ _ => none) (fun f _ => some (.func (.func f) #[] #[])) x e
theorem opdF_eq (e : Env) (x : Operand) : opdF e x = opd e x := by cases x <;> rfl
/-- The place that a pointer leads to. -/
noncomputable def ptrOf (v : Value) : Option (Nat × Nat) :=
  @Value.rec (fun _ => Option (Nat × Nat)) (fun _ => PUnit) (fun _ => PUnit) (fun _ => none) (fun _ _ => none) (fun _ _ => none) (fun _ _ _ => none) (fun _ => none)
    (fun a => @Option.rec Addr (fun _ => Option (Nat × Nat)) none (fun a => @Option.rec Nat (fun _ => Option (Nat × Nat)) (some (a.block, a.off)) (fun _ => none) a.spot) a)
    (fun _ _ _ => none) (fun _ => none) (fun _ => none) (fun _ _ _ _ _ => none) none (fun _ _ _ => none) none (fun _ _ => none) (fun _ _ => none) (fun _ _ => ⟨⟩) ⟨⟩ (fun _ _ _ _ => ⟨⟩) v
theorem ptrOf_some {v : Value} {q : Nat × Nat} (h : ptrOf v = some q) : v = .pointer (some ⟨q.1, q.2, none⟩) := by
  cases v with
  | pointer a =>
    cases a with
    | none => cases h
    | some a =>
      obtain ⟨b, o, s⟩ := a
      cases s with
      | none =>
        have h : some (b, o) = some q := h
        injection h with h
        subst h; rfl
      | some s => cases h
  | _ => cases h
noncomputable def cellsOf (S : St) (b : Nat) : Option (List Value × TypeId × Nat) :=
  ob (S.get b) fun o => @Obj.rec (fun _ => Option (List Value × TypeId × Nat)) (fun c e z => some (c, e, z)) (fun _ _ => none) (fun _ _ _ _ => none) (fun _ _ => none) o
theorem cellsOf_some {S : St} {b : Nat} {q : List Value × TypeId × Nat} (h : cellsOf S b = some q) : S.get b = some (.cells q.1 q.2.1 q.2.2) := by
  obtain ⟨o, h1, h2⟩ := ob_some h
  cases o with
  | cells c e z =>
    have h2 : some (c, e, z) = some q := h2
    injection h2 with h2
    subst h2; exact h1
  | _ => cases h2
noncomputable def dropF {α : Type} (n : Nat) (l : List α) : List α := @Nat.rec (fun _ => List α → List α) (fun l => l) (fun _ ih l => @List.rec α (fun _ => List α) [] (fun _ t _ => ih t) l) n l
theorem dropF_eq {α : Type} : ∀ (n : Nat) (l : List α), dropF n l = l.drop n
  | 0, l => rfl
  | n + 1, [] => rfl
  | n + 1, x :: t => by
    have : dropF (n + 1) (x :: t) = dropF n t := rfl
    rw [this, dropF_eq n t]; simp
/-- Just so many. -/
noncomputable def takeF {α : Type} (n : Nat) (l : List α) : Option (List α) :=
  @Nat.rec (fun _ => List α → Option (List α)) (fun _ => some []) (fun _ ih l => @List.rec α (fun _ => Option (List α)) none (fun x t _ => ob (ih t) fun r => some (x :: r)) l) n l
theorem takeF_some {α : Type} : ∀ {n : Nat} {l r : List α}, takeF n l = some r → r = l.take n ∧ r.length = n
  | 0, l, r, h => by
    have h : some [] = some r := h
    injection h with h; subst h; simp
  | n + 1, [], r, h => by cases h
  | n + 1, x :: t, r, h => by
    have h : ob (takeF n t) (fun r => some (x :: r)) = some r := h
    obtain ⟨q, h1, h2⟩ := ob_some h
    injection h2 with h2
    obtain ⟨h3, h4⟩ := takeF_some h1
    subst h2
    subst h3
    simpa using h4
noncomputable def nthF {α : Type} (n : Nat) (l : List α) : Option α :=
  @Nat.rec (fun _ => List α → Option α) (fun l => @List.rec α (fun _ => Option α) none (fun x _ _ => some x) l) (fun _ ih l => @List.rec α (fun _ => Option α) none (fun _ t _ => ih t) l) n l
theorem nthF_eq {α : Type} : ∀ (n : Nat) (l : List α), nthF n l = l[n]?
  | 0, [] => rfl
  | 0, x :: t => rfl
  | n + 1, [] => rfl
  | n + 1, x :: t => by
    have : nthF (n + 1) (x :: t) = nthF n t := rfl
    rw [this, nthF_eq n t]; simp
/-- Other things in the place of some. -/
noncomputable def overF {α : Type} (xs c : List α) : Option (List α) :=
  @List.rec α (fun _ => List α → Option (List α)) (fun c => some c) (fun x _ ih c => @List.rec α (fun _ => Option (List α)) none (fun _ t _ => ob (ih t) fun r => some (x :: r)) c) xs c
noncomputable def splF {α : Type} (o : Nat) (xs c : List α) : Option (List α) :=
  @Nat.rec (fun _ => List α → List α → Option (List α)) (fun xs c => overF xs c) (fun _ ih xs c => @List.rec α (fun _ => Option (List α)) none (fun y t _ => ob (ih xs t) fun r => some (y :: r)) c) o xs c
theorem overF_some {α : Type} : ∀ {xs c r : List α}, overF xs c = some r → xs.length ≤ c.length ∧ r = xs ++ c.drop xs.length
  | [], c, r, h => by
    have h : some c = some r := h
    injection h with h; subst h; simp
  | x :: xs, [], r, h => by cases h
  | x :: xs, y :: c, r, h => by
    have h : ob (overF xs c) (fun r => some (x :: r)) = some r := h
    obtain ⟨q, h1, h2⟩ := ob_some h
    injection h2 with h2
    obtain ⟨h3, h4⟩ := overF_some h1
    subst h2
    simp [h4, h3]
theorem splF_some {α : Type} : ∀ {o : Nat} {xs c r : List α}, splF o xs c = some r → o + xs.length ≤ c.length ∧ r = spl c o xs
  | 0, xs, c, r, h => by
    have h : overF xs c = some r := h
    obtain ⟨h1, h2⟩ := overF_some h
    simp [spl, h1, h2]
  | o + 1, xs, [], r, h => by cases h
  | o + 1, xs, y :: c, r, h => by
    have h : ob (splF o xs c) (fun r => some (y :: r)) = some r := h
    obtain ⟨q, h1, h2⟩ := ob_some h
    injection h2 with h2
    obtain ⟨h3, h4⟩ := splF_some h1
    subst h2
    refine ⟨by simp; omega, ?_⟩
    rw [h4]
    simp [spl, show o + 1 + xs.length = (o + xs.length) + 1 by omega]
/-- Rows of a table as a tree. -/
noncomputable def Hp.ofL {α : Type} (l : List α) (i : Nat) (t : Hp α) : Hp α := @List.rec α (fun _ => Nat → Hp α → Hp α) (fun _ t => t) (fun x _ ih i t => forceN i fun i => ih (Nat.add i 1) (Hp.ins t i x)) l i t
theorem Hp.get_ofL {α : Type} : ∀ {l : List α} {i : Nat} {t : Hp α} {k : Nat} {x : α}, (Hp.ofL l i t).get k = some x → (i ≤ k ∧ l[k - i]? = some x) ∨ (t.get k = some x)
  | [], i, t, k, x, h => .inr h
  | y :: l, i, t, k, x, h => by
    have h : (forceN i fun i => Hp.ofL l (i + 1) (Hp.ins t i y)).get k = some x := h
    rw [forceN_eq] at h
    rcases Hp.get_ofL h with ⟨h1, h2⟩ | h
    · refine .inl ⟨by omega, ?_⟩
      rw [show k - i = (k - (i + 1)) + 1 by omega]
      simpa using h2
    · rcases Hp.get_ins h with ⟨rfl, rfl⟩ | ⟨_, h⟩
      · exact .inl ⟨Nat.le_refl _, by simp⟩
      · exact .inr h
noncomputable def tyT (P : Program) : Hp TypeInfo := Hp.ofL P.types.toList 0 Hp.nil
noncomputable def infoF (P : Program) (t : TypeId) : Option TypeInfo := match (tyT P).get t with | some i => some i | none => P.info? t
theorem infoF_eq (P : Program) (t : TypeId) : infoF P t = P.info? t := by
  unfold infoF
  split
  · rename_i i h
    rcases Hp.get_ofL h with ⟨_, h⟩ | h
    · have h1 : P.types[t]? = some i := by simpa using h
      have h2 : t < P.types.size := (Array.getElem?_eq_some_iff.1 h1).1
      show some i = Tables.info? _ t
      unfold Tables.info?
      rw [if_pos h2]
      exact h1.symm
    · rw [Hp.get_nil] at h; cases h
  · rfl
noncomputable def undF (P : Program) (t : TypeId) : Option TypeDesc :=
  match infoF P t with
  | some { desc := .named _ u, .. } => (infoF P u).map (·.desc)
  | some i => some i.desc
  | none => none
theorem undF_eq (P : Program) (t : TypeId) : undF P t = P.underlying t := by
  unfold undF Program.underlying
  simp only [infoF_eq]
  rfl
noncomputable def fnT (P : Program) : Hp Func := Hp.ofL P.funcs.toList 0 Hp.nil
noncomputable def funcF (P : Program) (f : FuncId) : Option Func := match (fnT P).get f with | some i => some i | none => P.funcs[f]?
theorem funcF_eq (P : Program) (t : FuncId) : funcF P t = P.funcs[t]? := by
  unfold funcF
  split
  · rename_i i h
    rcases Hp.get_ofL h with ⟨_, h⟩ | h
    · have : P.funcs[t]? = some i := by simpa using h
      exact this.symm
    · rw [Hp.get_nil] at h; cases h
  · rfl
section
variable {P : Program}
/-- How a value of a type lies: of so many cells; of one. -/
noncomputable def tyAcc (P : Program) (t : TypeId) : Option (Option Nat) :=
  match undF P t with
  | some (.struct _) | some (.array _ _) => match infoF P t with
    | some i => some (some i.size)
    | none => none
  | some _ => some none
  | none => none
noncomputable def ldF (P : Program) (S : St) (t : TypeId) (v : Value) : Option Value :=
  ob (ptrOf v) fun q => ob (cellsOf S q.1) fun c => ob (tyAcc P t) fun a =>
    @Option.rec Nat (fun _ => List Value → Nat → Option Value) (fun c o => nthF o c) (fun n c o => ob (takeF n (dropF o c)) fun xs => some (.agg ⟨xs⟩)) a c.1 q.2
theorem ldF_some {S : St} {t : TypeId} {v x : Value} (h0 : ldF P S t v = some x) : ld P S t v = some x := by
  obtain ⟨q, h1, h⟩ := ob_some h0
  obtain ⟨c, h2, h⟩ := ob_some h
  obtain ⟨a, h3, h⟩ := ob_some h
  obtain rfl := ptrOf_some h1
  have h2 := cellsOf_some h2
  simp only [ld, h2]
  unfold tyAcc at h3
  simp only [infoF_eq, undF_eq] at h3
  cases a with
  | none =>
    have h : nthF q.2 c.1 = some x := h
    rw [nthF_eq] at h
    split at h3
    · split at h3 <;> cases h3
    · split at h3 <;> cases h3
    · rename_i d hns hna hu
      rw [hu]
      cases d <;> first | exact h | exact absurd rfl (hns _) | exact absurd rfl (hna _ _)
    · cases h3
  | some n =>
    have h : ob (takeF n (dropF q.2 c.1)) (fun xs => some (.agg ⟨xs⟩)) = some x := h
    obtain ⟨xs, h4, h5⟩ := ob_some h
    injection h5 with h5
    subst h5
    rw [dropF_eq] at h4
    obtain ⟨h6, h7⟩ := takeF_some h4
    split at h3
    · rename_i fs hu
      split at h3
      · rename_i i hi
        injection h3 with h3
        injection h3 with h3
        subst h3
        simp only [hu, hi, ← h6, h7, Nat.beq_refl, cond_true]
      · cases h3
    · rename_i n' e hu
      split at h3
      · rename_i i hi
        injection h3 with h3
        injection h3 with h3
        subst h3
        simp only [hu, hi, ← h6, h7, Nat.beq_refl, cond_true]
      · cases h3
    · cases h3
    · cases h3
/-- The cells of a value that is stored, if they are so many. -/
def oneB : Value → Bool := Value.oneCell'
noncomputable def allF (xs : List Value) : Bool := @List.rec Value (fun _ => Bool) true (fun x _ ih => ifB (oneB x) ih false) xs
theorem allF_eq : ∀ xs : List Value, allF xs = xs.all (·.oneCell')
  | [] => rfl
  | x :: xs => by
    have : allF (x :: xs) = ifB (oneB x) (allF xs) false := rfl
    rw [this, ifB_eq, allF_eq xs]
    simp only [List.all_cons, oneB]
    cases x.oneCell' <;> rfl
noncomputable def lenF {α : Type} (xs : List α) (n : Nat) : Nat := @List.rec α (fun _ => Nat → Nat) (fun n => n) (fun _ _ ih n => ih (Nat.add n 1)) xs n
theorem lenF_eq {α : Type} : ∀ (xs : List α) (n : Nat), lenF xs n = n + xs.length
  | [], n => rfl
  | x :: xs, n => by
    have : lenF (x :: xs) n = lenF xs (n + 1) := rfl
    rw [this, lenF_eq xs (n + 1)]; simp; omega
noncomputable def tySize (P : Program) (t : TypeId) : Option Nat := match infoF P t with | some i => some i.size | none => none
noncomputable def stoF (P : Program) (S : St) (t : TypeId) (v x : Value) : Option St :=
  ob (ptrOf v) fun q => ob (cellsOf S q.1) fun c => ob (tySize P t) fun n =>
    ifB (Nat.beq (lenF x.cells.toList 0) n) (ifB (allF x.cells.toList) (ob (splF q.2 x.cells.toList c.1) fun c' => some (S.set q.1 (.cells c' c.2.1 c.2.2))) none) none
theorem stoF_some {S S' : St} {t : TypeId} {v x : Value} (h0 : stoF P S t v x = some S') : sto P S t v x = some S' := by
  obtain ⟨q, h1, h⟩ := ob_some h0
  obtain ⟨c, h2, h⟩ := ob_some h
  obtain ⟨n, h3, h⟩ := ob_some h
  obtain rfl := ptrOf_some h1
  have h2 := cellsOf_some h2
  rw [ifB_eq, ifB_eq, lenF_eq, allF_eq, Nat.zero_add] at h
  unfold tySize at h3
  simp only [infoF_eq, undF_eq] at h3
  split at h3
  case h_2 => cases h3
  rename_i i hi
  injection h3 with h3
  subst h3
  simp only [sto, h2, hi]
  cases hb : Nat.beq x.cells.toList.length i.size with
  | false => rw [hb] at h; simp at h
  | true =>
    rw [hb] at h
    simp only [cond_true] at h
    cases ha : x.cells.toList.all (·.oneCell') with
    | false => rw [ha] at h; simp at h
    | true =>
      rw [ha] at h
      simp only [cond_true] at h
      obtain ⟨c', h4, h5⟩ := ob_some h
      obtain ⟨h6, h7⟩ := splF_some h4
      injection h5 with h5
      rw [Nat.ble_eq_true_of_le h6]
      simp only [Bool.and_true, cond_true]
      rw [← h7, h5]
noncomputable def fldOff (P : Program) (s : TypeId) (f : Nat) : Option Nat :=
  match undF P s with
  | some (.struct fs) => match fs[f]? with
    | some f => match infoF P f.type with
      | some i => bif Nat.beq i.size 0 then none else some f.offset
      | none => none
    | none => none
  | _ => none
noncomputable def flaF (P : Program) (s : TypeId) (x : Value) (f : Nat) : Option Value := ob (fldOff P s f) fun k => ob (ptrOf x) fun q => some (.pointer (some ⟨q.1, Nat.add q.2 k, none⟩))
theorem flaF_some {s : TypeId} {x v : Value} {f : Nat} (h : flaF P s x f = some v) : fla P s x f = some v := by
  obtain ⟨k, h1, h⟩ := ob_some h
  obtain ⟨q, h2, h⟩ := ob_some h
  obtain rfl := ptrOf_some h2
  injection h with h
  subst h
  unfold fldOff at h1
  simp only [infoF_eq, undF_eq] at h1
  split at h1
  case h_2 => cases h1
  rename_i fs hu
  split at h1
  case h_2 => cases h1
  rename_i fl hf
  split at h1
  case h_2 => cases h1
  rename_i i hi
  simp only [fla, hu, hf, hi]
  cases hb : Nat.beq i.size 0 with
  | true => rw [hb] at h1; simp at h1
  | false =>
    rw [hb] at h1
    simp only [cond_false, Option.some.injEq] at h1
    subst h1
    rfl
/-- How things lie in a slice or an array: of so many, of so many cells. -/
noncomputable def elemOf (P : Program) (t : TypeId) : Option (Option Nat × Nat) :=
  match undF P t with
  | some (.array n e) => match infoF P e with | some ie => some (some n, ie.size) | none => none
  | some (.slice e) => match infoF P e with | some ie => some (none, ie.size) | none => none
  | _ => none
/-- The number, if it is none below nought. -/
noncomputable def natOf (v : Value) : Option Nat :=
  @Value.rec (fun _ => Option Nat) (fun _ => PUnit) (fun _ => PUnit) (fun _ => none) (fun _ n => @Int.rec (fun _ => Option Nat) (fun n => some n) (fun _ => none) n) (fun _ _ => none) (fun _ _ _ => none) (fun _ => none)
    (fun _ => none) (fun _ _ _ => none) (fun _ => none) (fun _ => none) (fun _ _ _ _ _ => none) none (fun _ _ _ => none) none (fun _ _ => none) (fun _ _ => none) (fun _ _ => ⟨⟩) ⟨⟩ (fun _ _ _ _ => ⟨⟩) v
theorem natOf_some {v : Value} {n : Nat} (h : natOf v = some n) : ∃ k, v = .int k (.ofNat n) := by
  cases v with
  | int k m =>
    cases m with
    | ofNat m =>
      have h : some m = some n := h
      injection h with h
      subst h; exact ⟨k, rfl⟩
    | negSucc m => cases h
  | _ => cases h
/-- The row that a slice leads to: its block, its offset, its length. -/
noncomputable def sliOf (v : Value) : Option (Nat × Nat × Nat) :=
  @Value.rec (fun _ => Option (Nat × Nat × Nat)) (fun _ => PUnit) (fun _ => PUnit) (fun _ => none) (fun _ _ => none) (fun _ _ => none) (fun _ _ _ => none) (fun _ => none) (fun _ => none)
    (fun a l _ => @Option.rec Addr (fun _ => Option (Nat × Nat × Nat)) none (fun a => @Option.rec Nat (fun _ => Option (Nat × Nat × Nat)) (some (a.block, a.off, l)) (fun _ => none) a.spot) a)
    (fun _ => none) (fun _ => none) (fun _ _ _ _ _ => none) none (fun _ _ _ => none) none (fun _ _ => none) (fun _ _ => none) (fun _ _ => ⟨⟩) ⟨⟩ (fun _ _ _ _ => ⟨⟩) v
theorem sliOf_some {v : Value} {q : Nat × Nat × Nat} (h : sliOf v = some q) : ∃ c, v = .slice (some ⟨q.1, q.2.1, none⟩) q.2.2 c := by
  cases v with
  | slice a l c =>
    cases a with
    | none => cases h
    | some a =>
      obtain ⟨b, o, s⟩ := a
      cases s with
      | none =>
        have h : some (b, o, l) = some q := h
        injection h with h
        subst h; exact ⟨c, rfl⟩
      | some s => cases h
  | _ => cases h
noncomputable def ixaF (P : Program) (t : TypeId) (x i : Value) : Option Value :=
  ob (elemOf P t) fun q => ob (natOf i) fun i =>
    @Option.rec Nat (fun _ => Value → Nat → Nat → Option Value)
      (fun x i sz => ob (sliOf x) fun a => ifB (Nat.ble (Nat.succ i) a.2.2) (some (.pointer (some ⟨a.1, Nat.add a.2.1 (Nat.mul i sz), none⟩))) none)
      (fun n x i sz => ob (ptrOf x) fun a => ifB (Nat.ble (Nat.succ i) n) (some (.pointer (some ⟨a.1, Nat.add a.2 (Nat.mul i sz), none⟩))) none) q.1 x i q.2
theorem ifB_some {α : Type} {b : Bool} {x : Option α} {y : α} (h : ifB b x none = some y) : b = true ∧ x = some y := by
  cases b with
  | true => exact ⟨rfl, h⟩
  | false => cases h
theorem ixaF_some {t : TypeId} {x i v : Value} (h : ixaF P t x i = some v) : ixa P t x i = some v := by
  obtain ⟨q, h1, h⟩ := ob_some h
  obtain ⟨j, h2, h⟩ := ob_some h
  obtain ⟨k, rfl⟩ := natOf_some h2
  obtain ⟨q1, q2⟩ := q
  unfold elemOf at h1
  simp only [infoF_eq, undF_eq] at h1
  split at h1
  · rename_i n e hu
    split at h1
    · rename_i ie hi
      injection h1 with h1
      injection h1 with h1 h1'
      subst h1; subst h1'
      have h : ob (ptrOf x) (fun a => ifB (Nat.ble (Nat.succ j) n) (some (.pointer (some ⟨a.1, Nat.add a.2 (Nat.mul j ie.size), none⟩))) none) = some v := h
      obtain ⟨a, h3, h⟩ := ob_some h
      obtain rfl := ptrOf_some h3
      obtain ⟨h4, h5⟩ := ifB_some h
      simp only [ixa, hu, hi]
      rw [show Nat.blt j n = true from h4]
      exact h5
    · cases h1
  · rename_i e hu
    split at h1
    · rename_i ie hi
      injection h1 with h1
      injection h1 with h1 h1'
      subst h1; subst h1'
      have h : ob (sliOf x) (fun a => ifB (Nat.ble (Nat.succ j) a.2.2) (some (.pointer (some ⟨a.1, Nat.add a.2.1 (Nat.mul j ie.size), none⟩))) none) = some v := h
      obtain ⟨a, h3, h⟩ := ob_some h
      obtain ⟨c, rfl⟩ := sliOf_some h3
      obtain ⟨h4, h5⟩ := ifB_some h
      simp only [ixa, hu, hi]
      rw [show Nat.blt j a.2.2 = true from h4]
      exact h5
    · cases h1
  · cases h1
/-- The cells of a struct's value. -/
noncomputable def aggOf (v : Value) : Option (List Value) :=
  @Value.rec (fun _ => Option (List Value)) (fun _ => PUnit) (fun _ => PUnit) (fun _ => none) (fun _ _ => none) (fun _ _ => none) (fun _ _ _ => none) (fun _ => none) (fun _ => none)
    (fun _ _ _ => none) (fun _ => none) (fun _ => none) (fun _ _ _ _ _ => none) none (fun _ _ _ => none) none (fun c _ => some c.toList) (fun _ _ => none) (fun _ _ => ⟨⟩) ⟨⟩ (fun _ _ _ _ => ⟨⟩) v
theorem aggOf_some {v : Value} {c : List Value} (h : aggOf v = some c) : ∃ a, v = .agg a ∧ a.toList = c := by
  cases v with
  | agg a =>
    have h : some a.toList = some c := h
    injection h with h
    exact ⟨a, rfl, h⟩
  | _ => cases h
noncomputable def tupOf (v : Value) : Option (List Value) :=
  @Value.rec (fun _ => Option (List Value)) (fun _ => PUnit) (fun _ => PUnit) (fun _ => none) (fun _ _ => none) (fun _ _ => none) (fun _ _ _ => none) (fun _ => none) (fun _ => none)
    (fun _ _ _ => none) (fun _ => none) (fun _ => none) (fun _ _ _ _ _ => none) none (fun _ _ _ => none) none (fun _ _ => none) (fun c _ => some c.toList) (fun _ _ => ⟨⟩) ⟨⟩ (fun _ _ _ _ => ⟨⟩) v
theorem tupOf_some {v : Value} {c : List Value} (h : tupOf v = some c) : ∃ a, v = .tuple a ∧ a.toList = c := by
  cases v with
  | tuple a =>
    have h : some a.toList = some c := h
    injection h with h
    exact ⟨a, rfl, h⟩
  | _ => cases h
/-- A field: where it lies, of how many cells (one, or a part). -/
noncomputable def fldAt (P : Program) (t : TypeId) (f : Nat) : Option (Nat × Option Nat) :=
  match undF P t with
  | some (.struct fs) => match fs[f]? with
    | some f => match tyAcc P f.type with | some a => some (f.offset, a) | none => none
    | none => none
  | _ => none
noncomputable def fldF (P : Program) (t : TypeId) (x : Value) (f : Nat) : Option Value :=
  ob (fldAt P t f) fun q => ob (aggOf x) fun c =>
    @Option.rec Nat (fun _ => List Value → Nat → Option Value) (fun c o => nthF o c) (fun n c o => ob (takeF n (dropF o c)) fun xs => some (.agg ⟨xs⟩)) q.2 c q.1
theorem fldF_some {t : TypeId} {x v : Value} {f : Nat} (h : fldF P t x f = some v) : fld P t x f = some v := by
  obtain ⟨q, h1, h⟩ := ob_some h
  obtain ⟨c, h2, h⟩ := ob_some h
  obtain ⟨a, rfl, rfl⟩ := aggOf_some h2
  unfold fldAt at h1
  simp only [infoF_eq, undF_eq] at h1
  split at h1
  case h_2 => cases h1
  rename_i fs hu
  split at h1
  case h_2 => cases h1
  rename_i fl hf
  split at h1
  case h_2 => cases h1
  rename_i acc h3
  injection h1 with h1
  subst h1
  simp only [fld, hu, hf, prt]
  unfold tyAcc at h3
  simp only [infoF_eq, undF_eq] at h3
  cases acc with
  | none =>
    have h : nthF fl.offset a.toList = some v := h
    rw [nthF_eq] at h
    split at h3
    · split at h3 <;> cases h3
    · split at h3 <;> cases h3
    · rename_i d hns hna hu'
      rw [hu']
      cases d <;> first | exact h | exact absurd rfl (hns _) | exact absurd rfl (hna _ _)
    · cases h3
  | some n =>
    have h : ob (takeF n (dropF fl.offset a.toList)) (fun xs => some (.agg ⟨xs⟩)) = some v := h
    obtain ⟨xs, h4, h5⟩ := ob_some h
    injection h5 with h5
    subst h5
    rw [dropF_eq] at h4
    obtain ⟨h6, h7⟩ := takeF_some h4
    split at h3
    · rename_i fs hu'
      split at h3
      · rename_i i hi
        injection h3 with h3
        injection h3 with h3
        subst h3
        simp only [hu', hi, ← h6]
      · cases h3
    · rename_i n' e hu'
      split at h3
      · rename_i i hi
        injection h3 with h3
        injection h3 with h3
        subst h3
        simp only [hu', hi, ← h6]
      · cases h3
    · cases h3
    · cases h3
end
end Go.Proofs.YtcandpiafgicbaaGreatDoor.Ev
