/- Functions that the evaluator takes by their contracts. -/
import Derived.Test.YtcandpiafgicbaaGreatDoorBldP
import Derived.Test.YtcandpiafgicbaaGreatDoorTeF
import Derived.Test.YtcandpiafgicbaaGreatDoorApP
namespace Go.Proofs.YtcandpiafgicbaaGreatDoor
open Go.RowKit Go.Proofs.YtcandpiafgicbaaGreatDoor.Ev
open Go hiding Obj
set_option linter.unusedVariables false
set_option linter.unusedSimpArgs false
/-- The table of powers of ten: the one block that is only read. -/
instance : Gl := ⟨[(3, fun o => (match o with | some (.cells cs _ _) => some cs | _ => none) = some (Lib.pow10Tab.map fun z => Value.int .u64 z).toArray)]⟩
theorem pow_named : Tryz.prog.globalNamed "internal/strconv.uint64pow10" = some 3 := by kernel_rfl
theorem pow_of_gl {w : World} (h : GlOk w) : Pow w := by
  obtain ⟨_, h2⟩ := h _ (List.mem_singleton.2 rfl)
  unfold Pow Lib.TabIs World.var?
  rw [pow_named]
  exact h2
theorem gl_of_pow {w : World} (h : Pow w) : GlOk w := by
  intro p hp
  obtain rfl := List.mem_singleton.1 hp
  unfold Pow Lib.TabIs World.var? at h
  rw [pow_named] at h
  refine ⟨?_, h⟩
  rcases Nat.lt_or_ge 3 w.heap.size with h' | h'
  · exact h'
  · rw [Option.bind_some, Array.getElem?_eq_none h'] at h
    cases h
/-- Decimal digits, the last ones last. -/
noncomputable def decF (k : Nat) : Nat → List UInt8 → List UInt8 := @Nat.rec (fun _ => Nat → List UInt8 → List UInt8) (fun _ l => l) (fun _ ih n l => ifB (Nat.ble n 9) (UInt8.ofNat (Nat.add 48 n) :: l) (ih (Nat.div n 10) (UInt8.ofNat (Nat.add 48 (Nat.mod n 10)) :: l))) k
theorem decF_eq : ∀ (k n : Nat) (l : List UInt8), n < 10 ^ k → 0 < k → decF k n l = Lib.decDigits n ++ l
  | 0, n, l, _, h => absurd h (by omega)
  | k + 1, n, l, h, _ => by
    have e : decF (k + 1) n l = ifB (Nat.ble n 9) (UInt8.ofNat (Nat.add 48 n) :: l) (decF k (Nat.div n 10) (UInt8.ofNat (Nat.add 48 (Nat.mod n 10)) :: l)) := rfl
    rw [e, ifB_eq, Lib.decDigits]
    cases hb : Nat.ble n 9 with
    | true =>
      have : n ≤ 9 := Nat.le_of_ble_eq_true hb
      rw [dif_pos (by omega)]
      rfl
    | false =>
      have hn : ¬ n ≤ 9 := fun hh => by rw [Nat.ble_eq_true_of_le hh] at hb; cases hb
      rw [dif_neg (by omega), cond_false]
      have hk : 0 < k := by
        rcases Nat.eq_zero_or_pos k with h0 | h0
        · subst h0; simp at h; omega
        · exact h0
      rw [decF_eq k (Nat.div n 10) _ (by show n / 10 < 10 ^ k; rw [Nat.pow_succ] at h; omega) hk]
      simp only [List.append_assoc, List.singleton_append]
      rfl
noncomputable def itoaP (args : List Value) (S : St) : Option (Value × St) :=
  match args with
  | [.int .i64 (.ofNat n)] => bif Nat.ble n 999999999 then some (.string ⟨(decF 9 n []).toArray⟩, S) else none
  | _ => none
theorem itoaP_ok {args : List Value} {S S' : St} {v : Value} (h : itoaP args S = some (v, S')) {r : Ren} {w : World} {args' : List Value} (hr : Rel r S w) (ha : VRs r args args') :
    Calls Tryz.prog 83 ⟨args'⟩ w fun e w' => ∃ r' v', e = .returned v' ∧ Fr r S w r' S' w' ∧ VR r' v v' := by
  unfold itoaP at h
  split at h
  case h_2 => cases h
  rename_i n
  cases hn : Nat.ble n 999999999 with
  | false => rw [hn] at h; cases h
  | true =>
    rw [hn] at h
    simp only [cond_true, Option.some.injEq, Prod.mk.injEq] at h
    obtain ⟨rfl, rfl⟩ := h
    have hn := Nat.le_of_ble_eq_true hn
    obtain ⟨y, rfl, hy⟩ := VRs.one' ha
    obtain rfl := hy.sc_eq rfl
    have hG : GlOk w := fun p hp => ⟨(hr.gl p hp).1, (hr.gl p hp).2.2⟩
    refine (itoaW (n : Int) (by omega) (by omega) w (pow_of_gl hG)).mono ?_
    rintro e w' ⟨rfl, m⟩
    refine ⟨r, _, rfl, Fr.below hr m.below, ?_⟩
    rw [decF_eq 9 n [] (by omega) (by omega), List.append_nil]
    exact .sc _ rfl
noncomputable def fmtP (args : List Value) (S : St) : Option (Value × St) :=
  match args with
  | [.int .u64 (.ofNat n), .int .i64 (.ofNat b)] => bif Nat.ble n 999999999 && Nat.beq b 10 then some (.string ⟨(decF 9 n []).toArray⟩, S) else none
  | _ => none
theorem fmtP_ok {args : List Value} {S S' : St} {v : Value} (h : fmtP args S = some (v, S')) {r : Ren} {w : World} {args' : List Value} (hr : Rel r S w) (ha : VRs r args args') :
    Calls Tryz.prog 94 ⟨args'⟩ w fun e w' => ∃ r' v', e = .returned v' ∧ Fr r S w r' S' w' ∧ VR r' v v' := by
  unfold fmtP at h
  split at h
  case h_2 => cases h
  rename_i n b
  cases hn : (Nat.ble n 999999999 && Nat.beq b 10) with
  | false => rw [hn] at h; cases h
  | true =>
    rw [hn] at h
    simp only [cond_true, Option.some.injEq, Prod.mk.injEq] at h
    obtain ⟨rfl, rfl⟩ := h
    simp only [Bool.and_eq_true] at hn
    obtain rfl := beq0 hn.2
    have hn := Nat.le_of_ble_eq_true hn.1
    obtain ⟨y, z, rfl, hy, hz⟩ := VRs.two ha
    obtain rfl := hy.sc_eq rfl
    obtain rfl := hz.sc_eq rfl
    have hG : GlOk w := fun p hp => ⟨(hr.gl p hp).1, (hr.gl p hp).2.2⟩
    refine (formatUW n (by omega) w (pow_of_gl hG)).mono ?_
    rintro e w' ⟨rfl, m⟩
    refine ⟨r, _, rfl, Fr.below hr m.below, ?_⟩
    rw [decF_eq 9 n [] (by omega) (by omega), List.append_nil]
    exact .sc _ rfl
noncomputable def prE : Prims := fun f => bif Nat.beq f 435 then some apInts else bif Nat.beq f 320 then some apIns else
  bif Nat.beq f 48 then some bldChk else bif Nat.beq f 22 then some bldStr else bif Nat.beq f 83 then some itoaP else bif Nat.beq f 94 then some fmtP else none
theorem prE_ok : PrimOk Tryz.prog prE := by
  intro f g hf args S v S' hg r w args' hr ha
  unfold prE at hf
  cases h1 : Nat.beq f 435 with
  | true =>
    rw [h1] at hf
    simp only [cond_true, Option.some.injEq] at hf
    subst hf
    obtain rfl := beq0 h1
    exact apInts_ok hg hr ha
  | false =>
  rw [h1] at hf
  simp only [cond_false] at hf
  cases h2 : Nat.beq f 320 with
  | true =>
    rw [h2] at hf
    simp only [cond_true, Option.some.injEq] at hf
    subst hf
    obtain rfl := beq0 h2
    exact apIns_ok hg hr ha
  | false =>
  rw [h2] at hf
  simp only [cond_false] at hf
  cases h3 : Nat.beq f 48 with
  | true =>
    rw [h3] at hf
    simp only [cond_true, Option.some.injEq] at hf
    subst hf
    obtain rfl := beq0 h3
    exact bldChk_ok hg hr ha
  | false =>
  rw [h3] at hf
  simp only [cond_false] at hf
  cases h4 : Nat.beq f 22 with
  | true =>
    rw [h4] at hf
    simp only [cond_true, Option.some.injEq] at hf
    subst hf
    obtain rfl := beq0 h4
    exact bldStr_ok hg hr ha
  | false =>
  rw [h4] at hf
  simp only [cond_false] at hf
  cases h5 : Nat.beq f 83 with
  | true =>
    rw [h5] at hf
    simp only [cond_true, Option.some.injEq] at hf
    subst hf
    obtain rfl := beq0 h5
    exact itoaP_ok hg hr ha
  | false =>
  rw [h5] at hf
  simp only [cond_false] at hf
  cases h6 : Nat.beq f 94 with
  | true =>
    rw [h6] at hf
    simp only [cond_true, Option.some.injEq] at hf
    subst hf
    obtain rfl := beq0 h6
    exact fmtP_ok hg hr ha
  | false => rw [h6] at hf; cases hf
end Go.Proofs.YtcandpiafgicbaaGreatDoor
