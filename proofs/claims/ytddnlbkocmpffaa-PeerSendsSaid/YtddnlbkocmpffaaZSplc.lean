/- Rows of the call's own: cells copied in, cleared, appended in place. -/
import Derived.Test.YtddnlbkocmpffaaZRow2
import Derived.Lib.Overlaps
import Derived.Lib.AppendZeros
import Derived.Lib.AppendZerosOnto
import Derived.Laws.Externs
namespace Go.Proofs.Ytddnlbkocmpffaa
open Go.RowKit
set_option linter.unusedVariables false
set_option linter.unusedSectionVars false
/-- The cells from o on put in place of what stood there. -/
def splc (l : List Value) (o : Nat) (vs : List Value) : List Value := l.take o ++ vs ++ l.drop (o + vs.length)
theorem splc_len {l : List Value} {o : Nat} {vs : List Value} (h : o + vs.length ≤ l.length) : (splc l o vs).length = l.length := by
  unfold splc
  simp only [List.length_append, List.length_take, List.length_drop]
  omega
theorem splc_of {A B C vs : List Value} (h : vs.length = B.length) : splc (A ++ (B ++ C)) A.length vs = A ++ (vs ++ C) := by
  unfold splc
  rw [List.take_left, h, ← List.drop_drop, List.drop_left, List.drop_left, List.append_assoc]
section
variable {P : Program} (w : World)
theorem run_copy_rowK (dT sT ty elem : TypeId) (g o dLen dCap : Nat) (a : Addr) (sLen sCap : Nat) (cur : Array Value) (t : TypeId) (sz : Nat) (cs : List Value)
    (hu : P.underlying dT = some (.slice elem)) (hs : (P.info? elem).map (·.size) = some sz)
    (hg : w.heap[g]? = some (.cells cur t (0, 0))) (hn : cs.length = Nat.min sLen dLen * sz)
    (hsrc : ∀ j v, cs[j]? = some v → w.cell? (a.add j) = some v) (hfit : o + cs.length ≤ cur.size) (h1 : ∀ v ∈ cs, v.oneCell' = true) :
    (Builtin.copy_ #[dT, sT] ty #[.slice (some ⟨g, o, none⟩) dLen dCap, .slice (some a) sLen sCap]).run P w =
      .ok (goInt (Nat.min sLen dLen : Nat)) (w.setRow g (splc cur.toList o cs).toArray) := by
  have hl := run_loadCells_list (P := P) w a cs hsrc
  have hst := run_storeCells_at P g o t cs 0 cur w hg (by simpa using hfit) h1
  cases hq : P.info? elem with
  | none => simp [hq] at hs
  | some i =>
    have hi : i.size = sz := by simpa [hq] using hs
    unfold splc
    simp [Builtin.copy_, run_underlying hu, Builtin.lenOf, Builtin.firstCells, sizeOf, typeInfo, hq, hi, ← hn, hl, hst]
theorem zeros_len {z : Value} {sz : Nat} (hz : z.cells.size = sz) (n : Nat) : (Builtin.zeroCells z.cells n).toList.length = n * sz := by rw [Array.length_toList, size_zeroCells, hz]
theorem run_clear_rowK (t e ty : TypeId) (z : Value) (sz : Nat) (ht : P.underlying t = some (.slice e)) (hv : ∀ w, (zeroValue e).run P w = .ok z w) (hz : z.cells.size = sz) (h1 : ∀ v ∈ z.cells.toList, v.oneCell' = true) (g o n c : Nat)
    (cur : Array Value) (tt : TypeId) (hg : w.heap[g]? = some (.cells cur tt (0, 0))) (hfit : o + n * sz ≤ cur.size) :
    (Builtin.clear_ #[t] ty #[.slice (some ⟨g, o, none⟩) n c]).run P w = .ok (.tuple #[]) (w.setRow g (splc cur.toList o (Builtin.zeroCells z.cells n).toList).toArray) := by
  have hsz : (Builtin.zeroCells z.cells n).toList.length = n * sz := by rw [Array.length_toList, size_zeroCells, hz]
  have hone : ∀ v ∈ (Builtin.zeroCells z.cells n).toList, v.oneCell' = true := fun v hv' => by
    unfold Builtin.zeroCells at hv'
    simp only [Array.toList_map, List.mem_map] at hv'
    obtain ⟨i, hi, rfl⟩ := hv'
    have hi' : i < n * z.cells.size := by simpa using hi
    refine h1 _ ?_
    have hlt : i % z.cells.size < z.cells.size := Nat.mod_lt _ (by
      rcases Nat.eq_zero_or_pos z.cells.size with h | h
      · rw [h, Nat.mul_zero] at hi'; omega
      · exact h)
    rw [getElem!_pos z.cells _ hlt]
    exact Array.getElem_mem_toList hlt
  have hst := run_storeCells_at P g o tt (Builtin.zeroCells z.cells n).toList 0 cur w hg (by rw [hsz]; simpa using hfit) hone
  simp only [Nat.add_zero] at hst
  unfold splc
  cases n with
  | zero =>
    have h0 : (Builtin.zeroCells z.cells 0).toList = [] := List.eq_nil_of_length_eq_zero (by rw [hsz]; simp)
    rw [h0] at hst ⊢
    simp only [storeCells, Sem.run_pure] at hst
    injection hst with _ hst
    rw [← hst]
    simp [Builtin.clear_, run_underlying ht]
  | succ n => simp [Builtin.clear_, run_underlying ht, hv, hst]
theorem wp_builtin_run {o : Oper} {a : Act} {K : Act → World → Prop} {Q : Exit → Act → World → Prop} (d s : Operand) (t t' : TypeId)
    (ho : o.op = .call { callee := .builtin .copy, args := #[d, s], argTypes := #[t, t'] }) (v u : Value) (hd : a.eval d = v) (hs : a.eval s = u) {v' : Value} {w' : World}
    (hr : (Builtin.copy_ #[t, t'] o.type #[v, u]).run P w = .ok v' w') (h : K (a.put o.dst v') w') : o.wp P a w K Q := by
  unfold Oper.wp execOp
  simp only [ho, resolve, invoke, builtin, Sem.run_bind, Sem.run_pure, Result.andThen_ok, List.map_toArray, List.map_cons, List.map_nil, hd, hs, hr]
  exact h
theorem wpList_copy_run {ops : Array Oper} {rest : List Oper} {o : Oper} {a : Act} {Q : Exit → Act → World → Prop} (hgd : o.guard = none) (d s : Operand) (t t' : TypeId)
    (ho : o.op = .call { callee := .builtin .copy, args := #[d, s], argTypes := #[t, t'] }) (v u : Value) (hd : a.eval d = v) (hs : a.eval s = u) {v' : Value} {w' : World}
    (hr : (Builtin.copy_ #[t, t'] o.type #[v, u]).run P w = .ok v' w') (h : wpList P ops Q rest (a.put o.dst v') w') : wpList P ops Q (o :: rest) a w :=
  wpList_plain hgd fun _ hK => wp_builtin_run w d s t t' ho v u hd hs hr (hK _ _ h)
theorem step_copy_run {ops : Array Oper} {o : Oper} {a : Act} {K : Act → World → Prop} {Q : Exit → Act → World → Prop} {E : Prop}
    (hg : o.guard = none) (d x : Operand) (dT sT : TypeId) (hop : o.op = Op.call { callee := Callee.builtin Builtin.copy, args := #[d, x], argTypes := #[dT, sT] })
    (v u : Value) (hd : a.eval d = v) (hx : a.eval x = u) {v' : Value} {w' : World} (hr : (Builtin.copy_ #[dT, sT] o.type #[v, u]).run P w = .ok v' w') (hK : K (a.put o.dst v') w') :
    if Region.wanted o (yielded ops a.tmps) = true then Oper.wp P o a w K Q else E := by
  have hw : Region.wanted o (yielded ops a.tmps) = true := by simp [Region.wanted, hg]
  rw [if_pos hw]
  exact wp_builtin_run w d x dT sT hop v u hd hx hr hK
theorem wp_append_runs {o : Oper} {a : Act} {K : Act → World → Prop} {Q : Exit → Act → World → Prop} (s x : Operand) (t tn : TypeId)
    (ho : o.op = .call { callee := .builtin .append, args := #[s, x], argTypes := #[t, tn] }) (vs vx : Value) (hs : a.eval s = vs) (hx : a.eval x = vx)
    {v' : Value} {w' : World} (hr : (Builtin.append_ #[t, tn] o.type #[vs, vx]).run P w = .ok v' w') (h : K (a.put o.dst v') w') : o.wp P a w K Q := by
  unfold Oper.wp execOp
  simp only [ho, resolve, invoke, builtin, Sem.run_bind, Sem.run_pure, Result.andThen_ok, List.map_toArray, List.map_cons, List.map_nil, hs, hx, hr]
  exact h
theorem wpList_append_runs {ops : Array Oper} {rest : List Oper} {o : Oper} {a : Act} {Q : Exit → Act → World → Prop} (hgd : o.guard = none) (s x : Operand) (t tn : TypeId)
    (ho : o.op = .call { callee := .builtin .append, args := #[s, x], argTypes := #[t, tn] }) (vs vx : Value) (hs : a.eval s = vs) (hx : a.eval x = vx)
    {v' : Value} {w' : World} (hr : (Builtin.append_ #[t, tn] o.type #[vs, vx]).run P w = .ok v' w') (h : wpList P ops Q rest (a.put o.dst v') w') : wpList P ops Q (o :: rest) a w :=
  wpList_plain hgd fun _ hK => wp_append_runs w s x t tn ho vs vx hs hx hr (hK _ _ h)
theorem step_append_runs {ops : Array Oper} {o : Oper} {a : Act} {K : Act → World → Prop} {Q : Exit → Act → World → Prop} {E : Prop}
    (hg : o.guard = none) (s x : Operand) (t tn : TypeId) (ho : o.op = .call { callee := .builtin .append, args := #[s, x], argTypes := #[t, tn] }) (vs vx : Value) (hs : a.eval s = vs) (hx : a.eval x = vx)
    {v' : Value} {w' : World} (hr : (Builtin.append_ #[t, tn] o.type #[vs, vx]).run P w = .ok v' w') (hK : K (a.put o.dst v') w') :
    if Region.wanted o (yielded ops a.tmps) = true then Oper.wp P o a w K Q else E := by
  have hw : Region.wanted o (yielded ops a.tmps) = true := by simp [Region.wanted, hg]
  rw [if_pos hw]
  exact wp_append_runs w s x t tn ho vs vx hs hx hr hK
theorem wp_clear_runs {o : Oper} {a : Act} {K : Act → World → Prop} {Q : Exit → Act → World → Prop} (s : Operand) (t : TypeId)
    (ho : o.op = .call { callee := .builtin .clear, args := #[s], argTypes := #[t] }) (vs : Value) (hs : a.eval s = vs)
    {v' : Value} {w' : World} (hr : (Builtin.clear_ #[t] o.type #[vs]).run P w = .ok v' w') (h : K (a.put o.dst v') w') : o.wp P a w K Q := by
  unfold Oper.wp execOp
  simp only [ho, resolve, invoke, builtin, Sem.run_bind, Sem.run_pure, Result.andThen_ok, List.map_toArray, List.map_cons, List.map_nil, hs, hr]
  exact h
theorem wpList_clear_runs {ops : Array Oper} {rest : List Oper} {o : Oper} {a : Act} {Q : Exit → Act → World → Prop} (hgd : o.guard = none) (s : Operand) (t : TypeId)
    (ho : o.op = .call { callee := .builtin .clear, args := #[s], argTypes := #[t] }) (vs : Value) (hs : a.eval s = vs)
    {v' : Value} {w' : World} (hr : (Builtin.clear_ #[t] o.type #[vs]).run P w = .ok v' w') (h : wpList P ops Q rest (a.put o.dst v') w') : wpList P ops Q (o :: rest) a w :=
  wpList_plain hgd fun _ hK => wp_clear_runs w s t ho vs hs hr (hK _ _ h)
theorem step_clear_runs {ops : Array Oper} {o : Oper} {a : Act} {K : Act → World → Prop} {Q : Exit → Act → World → Prop} {E : Prop}
    (hg : o.guard = none) (s : Operand) (t : TypeId) (ho : o.op = .call { callee := .builtin .clear, args := #[s], argTypes := #[t] }) (vs : Value) (hs : a.eval s = vs)
    {v' : Value} {w' : World} (hr : (Builtin.clear_ #[t] o.type #[vs]).run P w = .ok v' w') (hK : K (a.put o.dst v') w') :
    if Region.wanted o (yielded ops a.tmps) = true then Oper.wp P o a w K Q else E := by
  have hw : Region.wanted o (yielded ops a.tmps) = true := by simp [Region.wanted, hg]
  rw [if_pos hw]
  exact wp_clear_runs w s t ho vs hs hr hK
end
section
variable {α : Type} {enc : α → List Value} {sz : Nat} {w : World} {B : Nat} {T : TypeId} {xs : List α}
theorem flat_take (hE : ∀ x, (enc x).length = sz) : ∀ (k : Nat) (xs : List α), (xs.flatMap enc).take (k * sz) = (xs.take k).flatMap enc
  | 0, xs => by simp
  | k + 1, [] => by simp
  | k + 1, x :: xs => by
    rw [List.flatMap_cons, List.take_succ_cons, List.flatMap_cons, ← flat_take hE k xs, Nat.succ_mul, Nat.add_comm, ← hE x, List.take_length_add_append]
theorem flat_drop (hE : ∀ x, (enc x).length = sz) : ∀ (k : Nat) (xs : List α), (xs.flatMap enc).drop (k * sz) = (xs.drop k).flatMap enc
  | 0, xs => by simp
  | k + 1, [] => by simp
  | k + 1, x :: xs => by
    rw [List.flatMap_cons, List.drop_succ_cons, ← flat_drop hE k xs, Nat.succ_mul, Nat.add_comm, ← List.drop_drop]
    rw [show (enc x ++ xs.flatMap enc).drop sz = xs.flatMap enc by rw [← hE x, List.drop_left]]
theorem Own.mk {g cap : Nat} {cur : Array Value} (hE : ∀ x, (enc x).length = sz) (hg : w.heap[g]? = some (.cells cur T (0, 0))) (hb : B ≤ g) (hn : xs.length ≤ cap) (hc : cap ≤ maxLen) (hs : cur.size = cap * sz)
    (ht : ∃ r, cur.toList = xs.flatMap enc ++ r) : Own w B T sz enc (.slice (some ⟨g, 0, none⟩) xs.length cap) xs := by
  refine ⟨flat_len hE xs, .inr ⟨g, cap, cur, rfl, hb, hg, hn, hc, hs, ?_⟩⟩
  obtain ⟨r, hr⟩ := ht
  rw [hr, ← flat_len hE xs, List.take_left]
theorem Own.row {g n cap : Nat} (h : Own w B T sz enc (.slice (some ⟨g, 0, none⟩) n cap) xs) :
    ∃ (cur : Array Value) (r : List Value), w.heap[g]? = some (.cells cur T (0, 0)) ∧ B ≤ g ∧ n = xs.length ∧ n ≤ cap ∧ cap ≤ maxLen ∧ cur.size = cap * sz ∧ cur.toList = xs.flatMap enc ++ r := by
  have hn : n = xs.length := h.len rfl
  subst hn
  rcases h.2 with ⟨e, _⟩ | ⟨g', cap', cur, e, hb, hg, h1, h2, h3, h4⟩
  · cases e
  · injection e with e1 _ e3
    injection e1 with e1
    injection e1 with e1
    subst e1 e3
    exact ⟨cur, cur.toList.drop (xs.length * sz), hg, hb, rfl, h1, h2, h3, by rw [← h4, List.take_append_drop]⟩
theorem shape_row {g : Nat} {cur : Array Value} (hg : w.heap[g]? = some (.cells cur T (0, 0))) : w.shape? g = some (T, cur.size) := by
  unfold World.shape?
  rw [hg]
theorem splc_app {A C vs : List Value} : ∀ {o : Nat}, o = A.length → vs.length ≤ C.length → splc (A ++ C) o vs = A ++ (vs ++ C.drop vs.length) := by
  rintro o rfl h
  unfold splc
  rw [List.take_left, ← List.drop_drop, List.drop_left, List.append_assoc]
/-- A piece of a row, as cells of the block. -/
theorem Own.cells {g n cap : Nat} (hE : ∀ x, (enc x).length = sz) (h : Own w B T sz enc (.slice (some ⟨g, 0, none⟩) n cap) xs) (j : Nat) : ∀ k u, ((xs.drop j).flatMap enc)[k]? = some u → w.cell? ⟨g, j * sz + k, none⟩ = some u := fun k u hk => by
  obtain ⟨cur, r, hg, hb, hnl, hnc, hcm, hcs, hct⟩ := h.row
  rw [cell_of_row w g _ cur _ (0, 0) hg, ← Array.getElem?_toList, hct]
  rw [← flat_drop hE j xs, List.getElem?_drop] at hk
  rw [List.getElem?_append_left (List.getElem?_eq_some_iff.1 hk).1]
  exact hk
/-- Things i to j taken out: what stood behind them is copied down; what is left over holds anything. -/
theorem Own.del {g n cap i j : Nat} (hE : ∀ x, (enc x).length = sz) (h : Own w B T sz enc (.slice (some ⟨g, 0, none⟩) n cap) xs) (hij : i ≤ j) (hj : j ≤ n) (zs : List Value) (hz : zs.length = (j - i) * sz) :
    ∃ (cur : Array Value), w.heap[g]? = some (.cells cur T (0, 0)) ∧ g < w.heap.size ∧ i * sz + ((xs.drop j).flatMap enc).length ≤ cur.size ∧ (splc cur.toList (i * sz) ((xs.drop j).flatMap enc)).length = cur.size ∧ (n - (j - i)) * sz + (j - i) * sz ≤ cur.size ∧
      ∀ w' : World, w'.heap[g]? = some (.cells (splc (splc cur.toList (i * sz) ((xs.drop j).flatMap enc)) ((n - (j - i)) * sz) zs).toArray T (0, 0)) → Own w' B T sz enc (.slice (some ⟨g, 0, none⟩) (n - (j - i)) cap) (xs.take i ++ xs.drop j) := by
  obtain ⟨cur, r, hg, hb, hnl, hnc, hcm, hcs, hct⟩ := h.row
  have hlt : g < w.heap.size := (Array.getElem?_eq_some_iff.1 hg).1
  have hdl : ((xs.drop j).flatMap enc).length = (n - j) * sz := by rw [flat_len hE, List.length_drop, hnl]
  have htl : ((xs.take i).flatMap enc).length = i * sz := by rw [flat_len hE, List.length_take, ← hnl, Nat.min_eq_left (by omega)]
  have hcl : cur.toList.length = cap * sz := by rw [Array.length_toList, hcs]
  have e1 : i * sz + (n - j) * sz = (n - (j - i)) * sz := by rw [← Nat.add_mul]; congr 1; omega
  have e2 : (n - (j - i)) * sz + (j - i) * sz = n * sz := by rw [← Nat.add_mul]; congr 1; omega
  have e3 : n * sz ≤ cap * sz := Nat.mul_le_mul_right _ hnc
  have hfit : i * sz + ((xs.drop j).flatMap enc).length ≤ cur.toList.length := by rw [hdl, hcl]; omega
  refine ⟨cur, hg, hlt, by rw [Array.length_toList] at hfit; exact hfit, by rw [splc_len hfit, Array.length_toList], by rw [hcs]; omega, fun w' hw' => ?_⟩
  have hsplit : cur.toList = (xs.take i).flatMap enc ++ ((xs.drop i).flatMap enc ++ r) := by
    rw [hct, ← List.append_assoc, ← List.flatMap_append, List.take_append_drop]
  have hl : (xs.take i ++ xs.drop j).length = n - (j - i) := by rw [List.length_append, List.length_take, List.length_drop, ← hnl]; omega
  rw [← hl]
  refine Own.mk hE hw' hb (by rw [hl]; omega) hcm ?_ ?_
  · rw [List.size_toArray, splc_len (by rw [splc_len hfit, hcl, hz]; omega), splc_len hfit, hcl]
  · have hd1 : ((xs.drop i).flatMap enc ++ r).length = cap * sz - i * sz := by
      have := congrArg List.length hsplit
      rw [List.length_append, htl, hcl] at this
      omega
    rw [List.toList_toArray, hsplit, splc_app htl.symm (by rw [hdl, hd1]; omega), ← List.append_assoc, ← List.flatMap_append]
    exact ⟨_, splc_app (by rw [List.flatMap_append, List.length_append, htl, hdl, e1]) (by rw [List.length_drop, hd1, hdl, hz]; omega)⟩
/-- One thing put in, where there is room. -/
theorem Own.ins {g n cap i : Nat} {y : α} (hE : ∀ x, (enc x).length = sz) (h : Own w B T sz enc (.slice (some ⟨g, 0, none⟩) n cap) xs) (hi : i ≤ n) (hroom : n + 1 ≤ cap) :
    ∃ (cur : Array Value), w.heap[g]? = some (.cells cur T (0, 0)) ∧ g < w.heap.size ∧ cur.size = cap * sz ∧ (i + 1) * sz + ((xs.drop i).flatMap enc).length ≤ cur.size ∧ (splc cur.toList ((i + 1) * sz) ((xs.drop i).flatMap enc)).length = cur.size ∧ i * sz + (enc y).length ≤ cur.size ∧
      ∀ w' : World, w'.heap[g]? = some (.cells (splc (splc cur.toList ((i + 1) * sz) ((xs.drop i).flatMap enc)) (i * sz) (enc y)).toArray T (0, 0)) → Own w' B T sz enc (.slice (some ⟨g, 0, none⟩) (n + 1) cap) (xs.take i ++ y :: xs.drop i) := by
  obtain ⟨cur, r, hg, hb, hnl, hnc, hcm, hcs, hct⟩ := h.row
  have hlt : g < w.heap.size := (Array.getElem?_eq_some_iff.1 hg).1
  have hdl : ((xs.drop i).flatMap enc).length = (n - i) * sz := by rw [flat_len hE, List.length_drop, hnl]
  have htl : ((xs.take i).flatMap enc).length = i * sz := by rw [flat_len hE, List.length_take, ← hnl, Nat.min_eq_left hi]
  have hcl : cur.toList.length = cap * sz := by rw [Array.length_toList, hcs]
  have e1 : (i + 1) * sz + (n - i) * sz = (n + 1) * sz := by rw [← Nat.add_mul]; congr 1; omega
  have e3 : (n + 1) * sz ≤ cap * sz := Nat.mul_le_mul_right _ hroom
  have e4 : (i + 1) * sz = i * sz + sz := Nat.succ_mul i sz
  have e5 : (n - i) * sz + i * sz = n * sz := by rw [← Nat.add_mul]; congr 1; omega
  have e6 : (n + 1) * sz = n * sz + sz := Nat.succ_mul n sz
  have hfit : (i + 1) * sz + ((xs.drop i).flatMap enc).length ≤ cur.toList.length := by rw [hdl, hcl]; omega
  refine ⟨cur, hg, hlt, hcs, by rw [Array.length_toList] at hfit; exact hfit, by rw [splc_len hfit, Array.length_toList], by rw [hE, hcs]; omega, fun w' hw' => ?_⟩
  have hl : (xs.take i ++ y :: xs.drop i).length = n + 1 := by rw [List.length_append, List.length_take, List.length_cons, List.length_drop, ← hnl]; omega
  rw [← hl]
  have hsplit : cur.toList = (xs.take i).flatMap enc ++ ((xs.drop i).flatMap enc ++ r) := by
    rw [hct, ← List.append_assoc, ← List.flatMap_append, List.take_append_drop]
  have hd1 : ((xs.drop i).flatMap enc ++ r).length = cap * sz - i * sz := by
    have := congrArg List.length hsplit
    rw [List.length_append, htl, hcl] at this
    omega
  refine Own.mk hE hw' hb (by rw [hl]; omega) hcm ?_ ?_
  · rw [List.size_toArray, splc_len (by rw [splc_len hfit, hcl, hE]; omega), splc_len hfit, hcl]
  · obtain ⟨P1, P2, hP, hP1⟩ : ∃ P1 P2 : List Value, (xs.drop i).flatMap enc ++ r = P1 ++ P2 ∧ P1.length = sz := ⟨((xs.drop i).flatMap enc ++ r).take sz, ((xs.drop i).flatMap enc ++ r).drop sz, (List.take_append_drop _ _).symm, by rw [List.length_take, hd1]; omega⟩
    have hP2 : P2.length = cap * sz - i * sz - sz := by
      have := congrArg List.length hP
      rw [hd1, List.length_append, hP1] at this
      omega
    rw [List.toList_toArray, hsplit, hP, ← List.append_assoc, splc_app (by rw [List.length_append, htl, hP1, e4]) (by rw [hdl, hP2]; omega), List.append_assoc]
    rw [splc_app htl.symm (by rw [hE, List.length_append, hP1]; omega), hE, ← hP1, List.drop_left]
    refine ⟨P2.drop ((xs.drop i).flatMap enc).length, ?_⟩
    rw [List.flatMap_append, List.flatMap_cons]
    simp only [List.append_assoc]
/-- .. and where there is none: a new row. -/
theorem Own.ins_new {g' i n G : Nat} {y : α} {zs : List Value} {w' : World} (hE : ∀ x, (enc x).length = sz) (hn : n = xs.length) (hi : i ≤ n) (hG : n + 1 ≤ G) (hGm : G ≤ maxLen) (hb : B ≤ g') (hz : i * sz + zs.length = G * sz)
    (hw' : w'.heap[g']? = some (.cells (splc (splc ((xs.take i).flatMap enc ++ zs) (i * sz) (enc y)) ((i + 1) * sz) ((xs.drop i).flatMap enc)).toArray T (0, 0))) :
    Own w' B T sz enc (.slice (some ⟨g', 0, none⟩) (n + 1) G) (xs.take i ++ y :: xs.drop i) := by
  have hdl : ((xs.drop i).flatMap enc).length = (n - i) * sz := by rw [flat_len hE, List.length_drop, hn]
  have htl : ((xs.take i).flatMap enc).length = i * sz := by rw [flat_len hE, List.length_take, ← hn, Nat.min_eq_left hi]
  have e1 : (i + 1) * sz + (n - i) * sz = (n + 1) * sz := by rw [← Nat.add_mul]; congr 1; omega
  have e3 : (n + 1) * sz ≤ G * sz := Nat.mul_le_mul_right _ hG
  have e4 : (i + 1) * sz = i * sz + sz := Nat.succ_mul i sz
  have hl : (xs.take i ++ y :: xs.drop i).length = n + 1 := by rw [List.length_append, List.length_take, List.length_cons, List.length_drop, ← hn]; omega
  rw [← hl]
  have h1 : splc ((xs.take i).flatMap enc ++ zs) (i * sz) (enc y) = ((xs.take i).flatMap enc ++ enc y) ++ zs.drop sz := by
    rw [splc_app htl.symm (by rw [hE]; omega), hE, List.append_assoc]
  rw [h1] at hw'
  have h2 : ((xs.take i).flatMap enc ++ enc y).length = (i + 1) * sz := by rw [List.length_append, htl, hE, e4]
  rw [splc_app h2.symm (by rw [hdl, List.length_drop]; omega)] at hw'
  refine Own.mk hE hw' hb (by rw [hl]; exact hG) hGm ?_ ⟨(zs.drop sz).drop ((xs.drop i).flatMap enc).length, ?_⟩
  · rw [List.size_toArray, List.length_append, h2, List.length_append, hdl, List.length_drop, List.length_drop]
    omega
  · rw [List.toList_toArray, List.flatMap_append, List.flatMap_cons]
    simp only [List.append_assoc]
theorem splc_nil (l : List Value) (o : Nat) : splc l o [] = l := by
  unfold splc
  simp
/-- Things i to j replaced by one. -/
theorem Own.rep {g n cap i j : Nat} {y : α} (hE : ∀ x, (enc x).length = sz) (h : Own w B T sz enc (.slice (some ⟨g, 0, none⟩) n cap) xs) (hij : i < j) (hj : j ≤ n) (zs : List Value) (hz : zs.length = (n - (i + 1 + (n - j))) * sz) :
    ∃ (cur : Array Value), w.heap[g]? = some (.cells cur T (0, 0)) ∧ g < w.heap.size ∧ cur.size = cap * sz ∧ i * sz + (enc y).length ≤ cur.size ∧ (splc cur.toList (i * sz) (enc y)).length = cur.size ∧
      (i + 1) * sz + ((xs.drop j).flatMap enc).length ≤ cur.size ∧ (splc (splc cur.toList (i * sz) (enc y)) ((i + 1) * sz) ((xs.drop j).flatMap enc)).length = cur.size ∧
      (∀ k u, ((xs.drop j).flatMap enc)[k]? = some u → (splc cur.toList (i * sz) (enc y))[j * sz + k]? = some u) ∧
      ∀ w' : World, w'.heap[g]? = some (.cells (splc (splc (splc cur.toList (i * sz) (enc y)) ((i + 1) * sz) ((xs.drop j).flatMap enc)) ((i + 1 + (n - j)) * sz) zs).toArray T (0, 0)) → Own w' B T sz enc (.slice (some ⟨g, 0, none⟩) (i + 1 + (n - j)) cap) (xs.take i ++ y :: xs.drop j) := by
  obtain ⟨cur, r, hg, hb, hnl, hnc, hcm, hcs, hct⟩ := h.row
  have hlt : g < w.heap.size := (Array.getElem?_eq_some_iff.1 hg).1
  have hdl : ((xs.drop j).flatMap enc).length = (n - j) * sz := by rw [flat_len hE, List.length_drop, hnl]
  have htl : ((xs.take i).flatMap enc).length = i * sz := by rw [flat_len hE, List.length_take, ← hnl, Nat.min_eq_left (by omega)]
  have hcl : cur.toList.length = cap * sz := by rw [Array.length_toList, hcs]
  have e1 : (i + 1) * sz + (n - j) * sz = (i + 1 + (n - j)) * sz := by rw [← Nat.add_mul]
  have e3 : n * sz ≤ cap * sz := Nat.mul_le_mul_right _ hnc
  have e4 : (i + 1) * sz = i * sz + sz := Nat.succ_mul i sz
  have e5 : (i + 1 + (n - j)) * sz + (n - (i + 1 + (n - j))) * sz = n * sz := by rw [← Nat.add_mul]; congr 1; omega
  have e6 : (i + 1) * sz ≤ j * sz := Nat.mul_le_mul_right _ hij
  have e7 : j * sz + (n - j) * sz = n * sz := by rw [← Nat.add_mul]; congr 1; omega
  have hf1 : i * sz + (enc y).length ≤ cur.toList.length := by rw [hE, hcl]; omega
  have hl1 : (splc cur.toList (i * sz) (enc y)).length = cap * sz := by rw [splc_len hf1, hcl]
  have hf2 : (i + 1) * sz + ((xs.drop j).flatMap enc).length ≤ cap * sz := by rw [hdl]; omega
  have hl2 : (splc (splc cur.toList (i * sz) (enc y)) ((i + 1) * sz) ((xs.drop j).flatMap enc)).length = cap * sz := by rw [splc_len (by rw [hl1]; exact hf2), hl1]
  have hsplit : cur.toList = (xs.take i).flatMap enc ++ ((xs.drop i).flatMap enc ++ r) := by
    rw [hct, ← List.append_assoc, ← List.flatMap_append, List.take_append_drop]
  have hd1 : ((xs.drop i).flatMap enc ++ r).length = cap * sz - i * sz := by
    have := congrArg List.length hsplit
    rw [List.length_append, htl, hcl] at this
    omega
  have hs1 : splc cur.toList (i * sz) (enc y) = ((xs.take i).flatMap enc ++ enc y) ++ ((xs.drop i).flatMap enc ++ r).drop sz := by
    rw [hsplit, splc_app htl.symm (by rw [hE, hd1]; omega), hE, List.append_assoc]
  have h2 : ((xs.take i).flatMap enc ++ enc y).length = (i + 1) * sz := by rw [List.length_append, htl, hE, e4]
  refine ⟨cur, hg, hlt, hcs, by rw [Array.length_toList] at hf1; exact hf1, by rw [hl1, hcs], by rw [hcs]; exact hf2, by rw [hl2, hcs], fun k u hk => ?_, fun w' hw' => ?_⟩
  · have hkl := (List.getElem?_eq_some_iff.1 hk).1
    rw [hs1, List.getElem?_append_right (by rw [h2]; omega), h2, List.getElem?_drop]
    have hkk : j * sz + k - (i + 1) * sz + sz = j * sz - i * sz + k := by omega
    rw [show sz + (j * sz + k - (i + 1) * sz) = j * sz - i * sz + k by omega]
    have hxi : ((xs.drop i).flatMap enc ++ r)[j * sz - i * sz + k]? = cur.toList[j * sz + k]? := by
      conv => rhs; rw [hsplit, List.getElem?_append_right (by rw [htl]; omega), htl]
      congr 1
      omega
    rw [hxi, hct, List.getElem?_append_left (by rw [flat_len hE, ← hnl]; omega)]
    rw [← flat_drop hE j xs, List.getElem?_drop] at hk
    exact hk
  · have hl : (xs.take i ++ y :: xs.drop j).length = i + 1 + (n - j) := by rw [List.length_append, List.length_take, List.length_cons, List.length_drop, ← hnl]; omega
    rw [← hl]
    refine Own.mk hE hw' hb (by rw [hl]; omega) hcm ?_ ?_
    · rw [List.size_toArray, splc_len (by rw [hl2, hz]; omega), hl2]
    · have hdd : (((xs.drop i).flatMap enc ++ r).drop sz).length = cap * sz - i * sz - sz := by rw [List.length_drop, hd1]
      rw [List.toList_toArray, hs1, splc_app h2.symm (by rw [hdl, hdd]; omega), ← List.append_assoc]
      refine ⟨zs ++ ((((xs.drop i).flatMap enc ++ r).drop sz).drop ((xs.drop j).flatMap enc).length).drop zs.length, ?_⟩
      rw [splc_app (by rw [List.length_append, h2, hdl, e1]) (by rw [List.length_drop, hdd, hdl, hz]; omega)]
      rw [List.flatMap_append, List.flatMap_cons]
      simp only [List.append_assoc]
end
end Go.Proofs.Ytddnlbkocmpffaa
