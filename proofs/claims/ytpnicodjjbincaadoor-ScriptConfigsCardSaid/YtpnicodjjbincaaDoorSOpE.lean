/- Ops and bytes that came in; what the library's variables hold. -/
import Derived.Test.YtpnicodjjbincaaDoorSBakW
import Derived.Test.YtpnicodjjbincaaDoorOpenI
import Derived.HandedShaped
import Derived.Handed
import Derived.Stop.LaidErr
import Derived.Lib.LaidTab
namespace Go.Proofs.YtpnicodjjbincaaDoor
open Go.ChangeShapes Go.WideShapes Go.RowKit Go.Deep
set_option linter.unusedVariables false
set_option maxHeartbeats 2000000
set_option maxRecDepth 100000
theorem returnsInHanded_and_shaped {H : Type} {enc : TypeId × Value → H} {a : Assume} {C : Checked} {os : Os} {f : FuncId} {fn : Func} {s : ChangeSpec} {conds : List PathCond} {apart fresh handsOn again : Bool} {X : World → Array Value → Prop}
    (hX : ∀ (w w' : World) (args : Array Value), w.heap = w'.heap → X w args → X w' args)
    (own : ownKnob C.prog.godebug = none) (started : os.Started) (noInit : C.prog.inits.idxOf? f = none) (hfn : C.prog.funcs[f]? = some fn)
    (witness : ∃ (w : World) (tape : Tape) (i : Input), w.os = os ∧ (w.forCall tape i).Shaped C.prog ∧ i.vars = [] ∧ Input.okWide C.prog (w.forCall tape i) .any w.heap.size f i ∧
      ((s.pre enc C.prog fn conds apart (w.forCall tape i).memory i.args ∧ X (w.forCall tape i).memory i.args) ∧ sizedMet enc C.prog fn (OpenSpec.ofChange s) apart (w.forCall tape i).memory i.args) ∧ a.holds C.prog (lone (Frame.enter C.prog f i.args .normal) [] (w.forCall tape i)))
    (contract : ∀ (W : World) (base : Nat) (args : Array Value) (ds gs : List (DataW H)) (before : List MemPlace),
      (∀ (j : Nat) t v, fn.params[j]? = some t → args[j]? = some v → Value.okWide C.prog W .any base t v) →
      DataW.Whole enc C.prog fn.params.toList s.vars apart W args.toList ds gs before → X W args → W.ShapedOpen C.prog →
      Calls C.prog f args W fun e W' => ∃ v, e = .returned v ∧ s.post enc C.prog fn apart fresh handsOn again W args v W') :
    ReturnsInHanded a C os f .any (fun w args => (s.pre enc C.prog fn conds apart w args ∧ X w args) ∧ sizedMet enc C.prog fn (OpenSpec.ofChange s) apart w args) (s.post enc C.prog fn apart fresh handsOn again) := by
  refine returnsInHanded_of_calls own started noInit witness ?_
  intro w tape i _ hsh _ hok hpre hholds
  obtain ⟨_, _, _, fn', hfn', _, _, _, _, hval⟩ := hok
  have e : fn' = fn := Option.some.inj (hfn'.symm.trans hfn)
  subst e
  obtain ⟨⟨⟨ds, gs, before, hw, hc⟩, hx⟩, hz⟩ := hpre
  have hw' := DataW.Whole.of_heap (w' := w.forCall tape i) (by rfl) hw
  refine (contract (w.forCall tape i) w.heap.size i.args ds gs before hval hw' (hX _ _ _ (by rfl) hx) hsh).mono fun e W' ⟨v, he, hp⟩ => ?_
  subst he
  exact ChangeSpec.post_blind hp
theorem star : "*" ++ "errors.errorString" = "*errors.errorString" := by decide
theorem rowErr (u : TypeId) (h : Tryd.prog.typeName? 3 u = some "*errors.errorString") : u = 133 :=
  typeName_ptr_named (nm := "errors.errorString") (by rw [star]; kernel_rfl) (by kernel_rfl) (by decide) u (by rw [star]; exact h)
theorem env_of {W : World} (hL : laidMet Tryd.prog Rows.scriptBackRow.laid W) (hsh : W.ShapedOpen Tryd.prog) : Env W := by
  have h3 := hL.tail.tail
  have h5 := h3.tail.tail
  have h6 := h5.tail
  obtain ⟨a1, s1, hr, -⟩ := laid_sentinel h5 (g := 1) (by kernel_rfl) (by kernel_rfl) Tryd.underlying66 rowErr Tryd.underlying133 Tryd.underlying135 rfl rfl Tryd.underlying9 (by kernel_rfl) (by kernel_rfl)
  obtain ⟨a2, s2, hs, -⟩ := laid_sentinel h6 (g := 0) (by kernel_rfl) (by kernel_rfl) Tryd.underlying66 rowErr Tryd.underlying133 Tryd.underlying135 rfl rfl Tryd.underlying9 (by kernel_rfl) (by kernel_rfl)
  exact ⟨Lib.tabIs_of_head (g := 2) (t := 128) (e := 47) (n := 20) (by kernel_rfl) (by kernel_rfl) (by kernel_rfl) (by kernel_rfl) (by kernel_rfl) (by kernel_rfl) h3, MaxL.of hsh, ⟨_, _, hs⟩, ⟨_, _, hr⟩⟩
section
variable {H : Type} {enc : TypeId × Value → H} {P : Program} {w : World}
theorem open_hasF {t e : TypeId} {k : IntKind} {cs : List Value} {x : DataW H × List MemPlace} {fuel : Nat} (ht : P.underlying t = some (.slice e)) (he : P.underlying e = some (.int k)) (hC : P.cellsOf e = 1)
    (hf : DataW.trod enc P w 0 (fun _ => true) true fuel t cs = some x) : ∃ (v : Value) (xs : List Int), cs = [v] ∧ Has w w.heap.size 1 (encN k) v xs ∧ (∀ z ∈ xs, (Lit.int k z).wf = true) := by
  rcases open_ints ht he hC hf with ⟨h0, _⟩ | ⟨a, len', cap', zs, hcs, hb, hl, hm, hzl, hx, hcell, hwf⟩
  · exact ⟨_, [], h0, Has.nil, (fun z h => by cases h)⟩
  · simp only [if_true] at hzl
    have htl : (zs.take len').length = len' := by rw [List.length_take]; omega
    have hat : ∀ i, i < cap' → w.cell? (a.add i) = some (.int k (zs.getD i 0)) := fun i hi => hcell i (by omega)
    refine ⟨_, zs.take len', hcs, ⟨some a, cap', by rw [htl], by omega, (fun e => by cases e), ?_, fun g e hn => ?_⟩, fun z hz => hwf z (List.mem_of_mem_take hz)⟩
    · rw [flat_N]
      refine ⟨by simp, fun hn => ⟨a, rfl, ?_, fun j u hu => ?_⟩⟩
      · have := World.block_lt_of_cell? _ _ (hat 0 (by omega))
        rwa [block_of_add] at this
      · rw [List.getElem?_map, List.getElem?_take] at hu
        by_cases hj : j < len'
        · rw [if_pos hj, List.getElem?_eq_getElem (show j < zs.length by omega)] at hu
          have := hat j (by omega)
          rw [this]
          simp [List.getD, List.getElem?_eq_getElem (show j < zs.length by omega)] at hu ⊢
          exact hu
        · rw [if_neg hj] at hu; cases hu
    · obtain rfl := Option.some.inj e
      have h0 := hat 0 (by omega)
      refine ⟨by simpa [Addr.add] using World.cell?_spot h0, ?_⟩
      have := World.block_lt_of_cell? _ _ h0
      rwa [block_of_add] at this
theorem u8_of_wf {z : Int} (h : (Lit.int .u8 z).wf = true) : ((UInt8.ofNat z.toNat).toNat : Int) = z := by
  have h1 : 0 ≤ z ∧ z ≤ 255 := by
    simp [Lit.wf, IntKind.min, IntKind.max, IntKind.signed, IntKind.bits] at h
    omega
  rw [UInt8.toNat_ofNat']
  omega
theorem has_bytes {B : Nat} {v : Value} {xs : List Int} (h : Has w B 1 (encN .u8) v xs) (hw : ∀ z ∈ xs, (Lit.int .u8 z).wf = true) : Has w B 1 encB v (xs.map fun z => UInt8.ofNat z.toNat) := by
  obtain ⟨A, cap, e, h1, h2, h3, h4⟩ := h
  have hfl : ∀ l : List Int, (∀ z ∈ l, (Lit.int .u8 z).wf = true) → (l.map fun z => UInt8.ofNat z.toNat).flatMap encB = l.flatMap (encN .u8) := fun l => by
    induction l with
    | nil => intro _; rfl
    | cons z l ih =>
      intro hl
      rw [List.map_cons, List.flatMap_cons, List.flatMap_cons, ih fun y hy => hl y (List.mem_cons_of_mem _ hy)]
      congr 1
      unfold encB encN
      rw [u8_of_wf (hl z (List.mem_cons_self ..))]
  exact ⟨A, cap, by rw [List.length_map]; exact e, by rw [List.length_map]; exact h1, h2, by rw [List.length_map, hfl xs hw]; exact h3, fun g e hn => h4 g e (by rw [List.length_map] at hn; exact hn)⟩
end
theorem open_op {H : Type} {enc : TypeId × Value → H} {w : World} {v : Value} {d : DataW H} {p : List MemPlace}
    (hv : Value.okWide Tryd.prog w .any 0 24 v) (h : DataW.Trod enc Tryd.prog w 0 (fun _ => true) true 24 v d p) : ∃ (o : OpT) (dv : Value), v = .agg (opV o dv) ∧ Has w w.heap.size 1 encB dv o.data := by
  obtain ⟨cs, rfl, hsz⟩ := okWide_struct Tryd.underlying24 hv
  obtain ⟨fuel, hf⟩ := h
  obtain ⟨ys, n, hn, hy, hlen, hyl, hf2⟩ := DataW.trod_struct Tryd.underlying24 hf
  have hys : ∀ j, j < 5 → ∃ y, ys[j]? = some y := fun j hj => ⟨_, List.getElem?_eq_getElem (by rw [hyl]; exact hj)⟩
  obtain ⟨y0, hy0⟩ := hys 0 (by omega)
  obtain ⟨y1, hy1⟩ := hys 1 (by omega)
  obtain ⟨y2, hy2⟩ := hys 2 (by omega)
  obtain ⟨y3, hy3⟩ := hys 3 (by omega)
  obtain ⟨y4, hy4⟩ := hys 4 (by omega)
  obtain ⟨z0, e0, _⟩ := DataW.trod_int Tryd.underlying3 ((hf2 0 _ rfl).trans hy0)
  obtain ⟨z1, e1, _⟩ := DataW.trod_int Tryd.underlying3 ((hf2 1 _ rfl).trans hy1)
  obtain ⟨z2, e2, _⟩ := DataW.trod_int Tryd.underlying3 ((hf2 2 _ rfl).trans hy2)
  obtain ⟨z3, e3, _⟩ := DataW.trod_int Tryd.underlying3 ((hf2 3 _ rfl).trans hy3)
  obtain ⟨dv, xs, e4, hh, hwf⟩ := open_hasF Tryd.underlying22 Tryd.underlying5 (by kernel_rfl) ((hf2 4 _ rfl).trans hy4)
  refine ⟨⟨z0, z1, z2, z3, xs.map fun z => UInt8.ofNat z.toNat⟩, dv, ?_, has_bytes hh hwf⟩
  have hc1 : ∀ t, t = 3 ∨ t = 22 → Tryd.prog.cellsOf t = 1 := by
    rintro t (rfl | rfl) <;> kernel_rfl
  obtain ⟨l⟩ := cs
  have hl5 : l.length = 5 := by
    have : Tryd.prog.cellsOf 24 = 5 := by kernel_rfl
    rw [this] at hsz
    simpa using hsz
  match l, hl5 with
  | [u0, u1, u2, u3, u4], _ =>
    have k0 : [u0] = [Value.int .i64 z0] := e0
    have k1 : [u1] = [Value.int .i64 z1] := e1
    have k2 : [u2] = [Value.int .i64 z2] := e2
    have k3 : [u3] = [Value.int .i64 z3] := e3
    have k4 : [u4] = [dv] := e4
    injection k0 with k0
    injection k1 with k1
    injection k2 with k2
    injection k3 with k3
    injection k4 with k4
    subst k0 k1 k2 k3 k4
    rfl
end Go.Proofs.YtpnicodjjbincaaDoor
