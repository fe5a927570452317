/- The evaluator: regions, code, calls: definitions. -/
import Derived.Test.YtcandpiafgicbaaGreatDoorEvQ
namespace Go.Proofs.YtcandpiafgicbaaGreatDoor.Ev
open Go hiding Obj
set_option linter.unusedVariables false
set_option linter.unusedSimpArgs false
set_option linter.unusedSectionVars false
variable [Gl]
/-- The slots of a call, so many. -/
structure Env where
  t : Tr Value
  sz : Nat
noncomputable def Env.at (env : Env) (t : Nat) : Option Value := @Env.rec (fun _ => Nat → Option Value) (fun tr _ t => Tr.get tr t) env t
noncomputable def Env.up (env : Env) (d : Option Tmp) (v : Value) : Env := match d with | some t => ⟨bif Nat.blt t env.sz then Tr.ins env.t t v else Tr.nil, env.sz⟩ | none => env
noncomputable def opd (env : Env) : Operand → Option Value
  | .tmp t => env.at t
  | .const v => bif plain v then some v else none
  | .global _ => none
  | .func f => some (.func (.func f) #[] #[])
/-- Is an operation wanted? -/
noncomputable def want (ops : Array Oper) (env : Env) (o : Oper) : Option Bool :=
  match o.guard with
  | none => some true
  | some (j, w) =>
    match (ops[j]?).bind (·.dst) with
    | some d => match env.at d with
      | some (.bool b) => some (b == w)
      | some _ => some false
      | none => none
    | none => some false
abbrev CallF := FuncId → List Value → St → Option (Value × St)
noncomputable def stepOp (P : Program) (call : CallF) (ops : Array Oper) (env : Env) (S : St) (o : Oper) : Option (Value × St) :=
  match want ops env o with
  | some true =>
    match aop P S (opd env) o with
    | some (.val v S') => some (v, S')
    | some (.call f args) => call f args S
    | none => none
  | some false => some (undef, S)
  | none => none
noncomputable def evOps (P : Program) (call : CallF) (ops : Array Oper) : List Oper → Env → St → Option (Env × St)
  | [], env, S => some (env, S)
  | o :: os, env, S =>
    match stepOp P call ops env S o with
    | some (v, S') => evOps P call ops os (env.up o.dst v) S'
    | none => none
/-- Operations that leave the memory as it is (if they make no new number). -/
def isQ : Op → Bool
  | .move _ | .assign _ | .pick .. | .build .. | .load .. | .nilCheck _ | .binOp .. | .unOp .. | .convert .. | .makeInterface .. | .makeFunc .. | .slice .. | .fieldAddr .. | .field .. | .indexAddr .. | .index .. | .lookup .. | .extract .. => true
  | .call { callee := .builtin .len, .. } | .call { callee := .builtin .cap, .. } | .call { callee := .builtin .min, .. } | .call { callee := .builtin .max, .. } => true
  | _ => false
/-- .. and do not look at it. -/
def isN : Op → Bool
  | .move _ | .assign _ | .pick .. | .build .. | .nilCheck _ | .binOp .. | .unOp .. | .makeInterface .. | .makeFunc .. | .fieldAddr .. | .field .. | .indexAddr .. | .index .. | .extract .. => true
  | _ => false
def isF (o : Oper) : Bool := match o.op, o.guard with
  | .alloc _, none => true
  | _, _ => false
def bit (b : List Nat) (i j : Nat) : Bool := (b.getD i 0).testBit j
def reads (ops : Array Oper) (o : Oper) : List Tmp := Oper.looksAt ops o
structure TE where
  i : Nat
  env : Env
  S : St
  v : Value
  S' : St
  k : Nat
def isSeq (ops : Array Oper) (i : Nat) : Bool := match ops[i]? with | some o => !isQ o.op | none => false
noncomputable def runT (P : Program) (call : CallF) (ops : Array Oper) : List Nat → Nat → Env → St → Option (List TE × Env × St)
  | [], _, env, S => some ([], env, S)
  | i :: is, k, env, S =>
    match ops[i]? with
    | some o =>
      match stepOp P call ops env S o with
      | some (v, S') =>
        bif isQ o.op && !(Nat.beq S'.next S.next) then none else
        match runT P call ops is (bif isQ o.op then k else k + 1) (env.up o.dst v) S' with
        | some (T, e, s) => some (⟨i, env, S, v, S', k⟩ :: T, e, s)
        | none => none
      | none => none
    | none => none
def seqOf (ops : Array Oper) (ord : List Nat) : List Nat := ord.filter (isSeq ops)
def posOf (ord : List Nat) (i : Nat) : Nat := ord.idxOf i
def nodupB (ord : List Nat) : Bool := ord.zipIdx.all fun (i, k) => Nat.beq (posOf ord i) k
def planOk (ops : Array Oper) (b ord : List Nat) : Bool :=
  let n := ops.size
  let idx := List.range n
  let sq := seqOf ops ord
  Nat.beq ord.length n && idx.all (ord.contains ·) && ord.all (fun i => Nat.blt i n) && nodupB ord &&
  idx.all (fun i =>
    match ops[i]? with
    | none => false
    | some o =>
      o.after.all (fun e => !(Region.binds .any e) || (Nat.blt e.on n && Nat.blt (posOf ord e.on) (posOf ord i))) &&
      idx.all (fun j =>
        match ops[j]? with
        | none => false
        | some p =>
          (!(bit b i j) || (o.after.any (fun e => Region.binds .any e && (Nat.beq e.on j || bit b e.on j)) && Nat.blt (posOf ord j) (posOf ord i))) &&
          (Nat.beq i j || (match o.dst, p.dst with | some d, some e => !(Nat.beq d e) | _, _ => true)) &&
          (match p.dst with | some d => !((reads ops o).contains d) || Nat.beq i j || bit b i j || bit b j i | none => true)) &&
      (isQ o.op || isF o || sq.all (fun s => !(Nat.blt (posOf ord s) (posOf ord i)) || bit b i s)) &&
      sq.all (fun s => !(bit b i s) || sq.all (fun s' => !(Nat.blt (posOf ord s') (posOf ord s)) || bit b i s'))) &&
  Nat.ble (sq.filter (fun i => match ops[i]? with | some o => isF o | none => false)).length 1
def veqS : Value → Value → Bool
  | .bool a, .bool b => a == b
  | .int k a, .int l b => decide (k = l) && decide (a = b)
  | .string a, .string b => decide (a.data.toList = b.data.toList)
  | .pointer none, .pointer none => true
  | .pointer (some ⟨b, o, none⟩), .pointer (some ⟨b', o', none⟩) => Nat.beq b b' && Nat.beq o o'
  | .slice none l c, .slice none l' c' => Nat.beq l l' && Nat.beq c c'
  | .slice (some ⟨b, o, none⟩) l c, .slice (some ⟨b', o', none⟩) l' c' => Nat.beq b b' && Nat.beq o o' && Nat.beq l l' && Nat.beq c c'
  | .map none, .map none => true
  | .map (some a), .map (some b) => Nat.beq a b
  | .nilFunc, .nilFunc => true
  | .nilIface, .nilIface => true
  | _, _ => false
def veqL : List Value → List Value → Bool
  | [], [] => true
  | a :: x, b :: y => veqS a b && veqL x y
  | _, _ => false
def veq : Value → Value → Bool
  | .agg a, .agg b => veqL a.toList b.toList
  | .tuple a, .tuple b => veqL a.toList b.toList
  | .iface t a, .iface u b => Nat.beq t u && veqS a b
  | a, b => veqS a b
theorem veqS_eq : ∀ {a b : Value}, veqS a b = true → a = b := by
  intro a b h
  unfold veqS at h
  split at h <;> simp_all
  · rename_i x y
    obtain ⟨x⟩ := x
    obtain ⟨y⟩ := y
    have : x = y := h
    subst this; rfl
theorem veqL_eq : ∀ {a b : List Value}, veqL a b = true → a = b
  | [], [], _ => rfl
  | a :: x, b :: y, h => by
    simp only [veqL, Bool.and_eq_true] at h
    rw [veqS_eq h.1, veqL_eq h.2]
  | [], _ :: _, h => by simp [veqL] at h
  | _ :: _, [], h => by simp [veqL] at h
theorem veq_eq {a b : Value} (h : veq a b = true) : a = b := by
  unfold veq at h
  split at h
  · rw [Array.ext' (veqL_eq h)]
  · rw [Array.ext' (veqL_eq h)]
  · simp only [Bool.and_eq_true] at h
    rw [beq0 h.1, veqS_eq h.2]
  · exact veqS_eq h
/-- May 'q' be done when the first 'p' of the others are? -/
def mayBe (b sq : List Nat) (q p : Nat) : Bool := sq.zipIdx.all fun (s, j) => bif Nat.blt j p then !(bit b s q) else !(bit b q s)
noncomputable def recheck (P : Program) (call : CallF) (ops : Array Oper) (b sq : List Nat) (stg : List St) (t : TE) : Bool :=
  match ops[t.i]? with
  | some o =>
    !(isQ o.op) || isN o.op || stg.zipIdx.all fun (Sp, p) => Nat.beq p t.k || !(mayBe b sq t.i p) ||
      (match stepOp P call ops t.env Sp o with
      | some (v, S') => veq v t.v && Nat.beq S'.next Sp.next
      | none => false)
  | none => false
noncomputable def stages (ops : Array Oper) (S0 : St) (T : List TE) : List St := S0 :: (T.filter fun t => isSeq ops t.i).map (·.S')
/-- The masks of what must be done ahead. -/
def masks (ops : Array Oper) : List Nat := (Region.before ops).toList
/-- The order: as it stands, but new variables as late as may be. -/
def sink (ops : Array Oper) (b : List Nat) (fs : List Nat) : List Nat → List Nat
  | [] => fs
  | i :: is =>
    match ops[i]? with
    | some o => bif isF o then sink ops b (fs ++ [i]) is else bif fs.any (fun f => bit b i f) then fs ++ (i :: sink ops b [] is) else i :: sink ops b fs is
    | none => i :: sink ops b fs is
def ordOf (ops : Array Oper) : List Nat := sink ops (masks ops) [] (List.range ops.size)
noncomputable def evDraw (P : Program) (call : CallF) (ops : Array Oper) (env : Env) (S : St) : Option (Env × St) :=
  bif planOk ops (masks ops) (ordOf ops) then
    match runT P call ops (ordOf ops) 0 env S with
    | some (T, e, s) => bif T.all (recheck P call ops (masks ops) (seqOf ops (ordOf ops)) (stages ops S T)) then some (e, s) else none
    | none => none
  else none
inductive Ex where
  | normal
  | exit (id : Nat)
  | goto (l : Nat)
  | ret
noncomputable def envOf : List Value → Nat → Tr Value
  | [], _ => Tr.nil
  | v :: vs, i => Tr.ins (envOf vs (i + 1)) i v
noncomputable def resV (P : Program) (S : St) (env : Env) : List ResultVar → Option (List Value)
  | [] => some []
  | .tmp t :: rs => match env.at t, resV P S env rs with | some v, some vs => some (v :: vs) | _, _ => none
  | .cell a t :: rs => match env.at a with
    | some x => match ld P S t x, resV P S env rs with | some v, some vs => some (v :: vs) | _, _ => none
    | none => none
abbrev Prims := FuncId → Option (List Value → St → Option (Value × St))
noncomputable def callE (P : Program) (pr : Prims) (ih : Code → Env → St → Option (Ex × Env × St)) : CallF := fun f args S =>
  match pr f with
  | some g => g args S
  | none =>
    match P.funcs[f]? with
    | some fn =>
      match fn.body with
      | some c =>
        match ih c ⟨envOf args 0, args.length + (fn.ntmps - args.length)⟩ S with
        | some (.normal, env, S') | some (.ret, env, S') => match resV P S' env fn.results.toList with
          | some [v] => some (v, S')
          | some vs => some (.tuple ⟨vs⟩, S')
          | none => none
        | _ => none
      | none => none
    | none => none
noncomputable def evStep (P : Program) (pr : Prims) (ih : Code → Env → St → Option (Ex × Env × St)) (c : Code) (env : Env) (S : St) : Option (Ex × Env × St) :=
  match c with
  | .skip | .label _ => some (.normal, env, S)
  | .region _ ops draw => bif draw then (match evDraw P (callE P pr ih) ops env S with | some (e, s) => some (.normal, e, s) | none => none)
    else (match evOps P (callE P pr ih) ops ops.toList env S with | some (e, s) => some (.normal, e, s) | none => none)
  | .seq a b => match ih a env S with
    | some (.normal, e, s) => ih b e s
    | r => r
  | .cond x a b => match opd env x with
    | some (.bool true) => ih a env S
    | some (.bool false) => ih b env S
    | _ => none
  | .block id a => match ih a env S with
    | some (.exit i, e, s) => bif Nat.beq i id then some (.normal, e, s) else some (.exit i, e, s)
    | r => r
  | .loop a => match ih a env S with
    | some (.normal, e, s) => ih (.loop a) e s
    | r => r
  | .exit id => some (.exit id, env, S)
  | .goto l => some (.goto l, env, S)
  | .ret => some (.ret, env, S)
  | _ => none
noncomputable def ev (P : Program) (pr : Prims) (n : Nat) : Code → Env → St → Option (Ex × Env × St) := Nat.rec (fun _ _ _ => none) (fun _ ih => evStep P pr ih) n
end Go.Proofs.YtcandpiafgicbaaGreatDoor.Ev
