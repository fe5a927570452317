/- Contracts of a table of int. -/
import Derived.Test.YtkfembhladjhdaaRows
import Derived.Test.YtkfembhladjhdaaTabD
import Derived.Test.YtkfembhladjhdaaMem
import Derived.Test.YtkfembhladjhdaaReg
import Derived.WalkKit
import Derived.Lib.Hide
import Derived.Outline
import Derived.Laws.StructEq
import Derived.Laws.MakeOwn
import Derived.WalkLawsBesides
namespace Go.Proofs.Ytkfembhladjhdaa.TabInt
open Go.RowKit
set_option linter.unusedVariables false
set_option maxHeartbeats 2000000
set_option maxRecDepth 100000
/-- The cells of a slot. -/
def enc : Option ((Int × Int) × Int) → List Value
  | none => [.bool false, .int .i64 0, .int .u64 0, .int .i64 0]
  | some ((p, i), x) => [.bool true, .int .i64 p, .int .u64 i, .int .i64 x]
/-- A table in memory: its own block, and the block of its slots. -/
structure Mem (w : World) (bt bs : Nat) (most n : Int) (s : List (Option ((Int × Int) × Int))) : Prop where
  top : Blk w bt 85 #[.int .i64 most, .int .i64 n, .slice (some ⟨bs, 0, none⟩) s.length s.length]
  row : Blk w bs 87 (s.flatMap enc).toArray
/-- A key's own slot. -/
def home (k : Int × Int) (L : Nat) : Nat :=
  ((IntKind.u64.wrap (IntKind.u64.wrap (k.2 * 11400714819323198485) + IntKind.u64.wrap (IntKind.u64.wrap k.1 * 13787848793156543929)) / 1048576) % (L : Int)).toNat
theorem home_lt (k : Int × Int) {L : Nat} (h : 1 ≤ L) : home k L < L := by
  unfold home
  have := Int.emod_lt_of_pos (IntKind.u64.wrap (IntKind.u64.wrap (k.2 * 11400714819323198485) + IntKind.u64.wrap (IntKind.u64.wrap k.1 * 13787848793156543929)) / 1048576) (show (0 : Int) < L by omega)
  have := Int.emod_nonneg (IntKind.u64.wrap (IntKind.u64.wrap (k.2 * 11400714819323198485) + IntKind.u64.wrap (IntKind.u64.wrap k.1 * 13787848793156543929)) / 1048576) (show (L : Int) ≠ 0 by omega)
  omega
theorem home_val (x : Int) {L : Nat} (h : 1 ≤ L) (hL : L ≤ 9223372036854775807) : wrap64 ((IntKind.u64.wrap x / 1048576).tmod L) = (((IntKind.u64.wrap x / 1048576) % (L : Int)).toNat : Int) := by
  have h0 : 0 ≤ IntKind.u64.wrap x := by show 0 ≤ x % 18446744073709551616; omega
  generalize IntKind.u64.wrap x = y at *
  have h1 : 0 ≤ y / 1048576 := by omega
  generalize y / 1048576 = z at *
  rw [Int.tmod_eq_emod_of_nonneg h1]
  have := Int.emod_lt_of_pos z (show (0 : Int) < L by omega)
  have := Int.emod_nonneg z (show (L : Int) ≠ 0 by omega)
  unfold wrap64
  omega
theorem flat_at (s : List (Option ((Int × Int) × Int))) : ∀ (i j : Nat), j < 4 → i < s.length → (s.flatMap enc)[i * 4 + j]? = (enc (Tab.at_ s i))[j]? := by
  induction s with
  | nil => intro i j _ h; exact absurd h (by simp)
  | cons x s ih =>
    intro i j hj hi
    have hl : (enc x).length = 4 := by rcases x with _ | ⟨⟨_, _⟩, _⟩ <;> rfl
    rw [List.flatMap_cons]
    cases i with
    | zero => rw [Nat.zero_mul, Nat.zero_add, List.getElem?_append_left (by omega)]; simp [Tab.at_]
    | succ i =>
      rw [List.getElem?_append_right (by omega), hl, show (i + 1) * 4 + j - 4 = i * 4 + j by omega, ih i j hj (by simpa using hi)]
      simp [Tab.at_]
theorem flat_length (s : List (Option ((Int × Int) × Int))) : (s.flatMap enc).length = s.length * 4 := by
  induction s with
  | nil => rfl
  | cons x s ih =>
    have hl : (enc x).length = 4 := by rcases x with _ | ⟨⟨_, _⟩, _⟩ <;> rfl
    rw [List.flatMap_cons, List.length_append, hl, ih, List.length_cons]; omega
theorem Mem.slot {w : World} {bt bs : Nat} {most n : Int} {s : List (Option ((Int × Int) × Int))} (h : Mem w bt bs most n s) {i : Nat} (hi : i < s.length) :
    w.cell? ⟨bs, i * 4, none⟩ = (enc (Tab.at_ s i))[0]? ∧ w.cell? ⟨bs, i * 4 + 1, none⟩ = (enc (Tab.at_ s i))[1]? ∧ w.cell? ⟨bs, i * 4 + 2, none⟩ = (enc (Tab.at_ s i))[2]? ∧ w.cell? ⟨bs, i * 4 + 3, none⟩ = (enc (Tab.at_ s i))[3]? := by
  have := flat_at s i
  refine ⟨?_, ?_, ?_, ?_⟩
  · rw [h.row.cell, List.getElem?_toArray]; exact this 0 (by omega) hi
  · rw [h.row.cell, List.getElem?_toArray]; exact this 1 (by omega) hi
  · rw [h.row.cell, List.getElem?_toArray]; exact this 2 (by omega) hi
  · rw [h.row.cell, List.getElem?_toArray]; exact this 3 (by omega) hi
theorem Mem.mod {S : Nat → Prop} {w w' : World} (m : Mod S w w') {bt bs : Nat} {most n : Int} {s : List (Option ((Int × Int) × Int))} (h : Mem w bt bs most n s) (h1 : ¬ S bt) (h2 : ¬ S bs) : Mem w' bt bs most n s :=
  ⟨h.top.mod m h1, h.row.mod m h2⟩
/-- What a key may be. -/
def KeyOk (p i : Int) : Prop := (-9223372036854775808 ≤ p ∧ p ≤ 9223372036854775807) ∧ 0 ≤ i ∧ i < 18446744073709551616
theorem homeW (bt bs : Nat) (most n : Int) (s : List (Option ((Int × Int) × Int))) (p i : Int) (w : World) (h : Mem w bt bs most n s) (hL : 1 ≤ s.length) (hL2 : s.length ≤ 9223372036854775807) :
    Calls Try.prog 55 #[.pointer (some ⟨bt, 0, none⟩), .agg #[.int .i64 p, .int .u64 i]] w fun e w' => e = .returned (.int .i64 (home (p, i) s.length)) ∧ Mod (fun _ => False) w w' := by
  have hc := h.top.cell
  have hlt := h.top.lt
  go_enter Try.func55, Try.ntmps55
  go_wp2
  go_ret
  exact ⟨congrArg (fun x => Ending.returned (.int .i64 x)) (home_val _ hL hL2), (Mod.refl _ _).alloc _⟩
theorem nx_val {L c : Nat} : ((c : Int) + 1) % (L : Int) = ((Tab.nx L c : Nat) : Int) := by
  unfold Tab.nx; rw [Int.natCast_emod]; rfl
theorem findW (bt bs : Nat) (most n : Int) (s : List (Option ((Int × Int) × Int))) (p i : Int) (w : World) (h : Mem w bt bs most n s) (hL : 1 ≤ s.length) (hL2 : s.length ≤ 4611686018427387904) (hr : ∃ i, i < s.length ∧ Tab.at_ s i = none) :
    Calls Try.prog 47 #[.pointer (some ⟨bt, 0, none⟩), .agg #[.int .i64 p, .int .u64 i]] w fun e w' => e = .returned (.int .i64 (Tab.find home s (p, i))) ∧ Mod (fun _ => False) w w' := by
  obtain ⟨i0, hi0, hn0⟩ := hr
  have hh := home_lt (p, i) hL
  obtain ⟨hR, hstop, hfirst⟩ := Tab.go_first (s := s) (k := (p, i)) hh ⟨i0, hi0, Tab.stops_none hn0⟩
  have hlt := h.top.lt
  have hA : Mem (w.alloc (.cells #[.int .i64 p, .int .u64 i] 29)) bt bs most n s := h.mod ((Mod.refl (fun _ => False) w).alloc _) (fun e => e) (fun e => e)
  unfold Tab.find
  generalize Tab.go s (p, i) s.length (home (p, i) s.length) = R at *
  have HF := Lib.hid hfirst
  clear hfirst
  go_enter Try.func47, Try.ntmps47
  go_wp2_with fail
  refine (homeW _ _ _ _ _ _ _ _ hA hL (by omega)).mono ?_
  rintro e w1 ⟨rfl, m1⟩
  have hk1 : Blk w1 w.heap.size 29 #[.int .i64 p, .int .u64 i] := Blk.mod m1 (Blk.new _ _ _) (fun e => e)
  have m2 : Mod (fun _ => False) w w1 := ((Mod.refl (fun _ => False) w).alloc _).trans m1 (fun _ _ h => h)
  clear m1 hA
  generalize home (p, i) s.length = hm at *
  go_wp2_with fail
  go_loopw [5] (fun x wr => ∃ c : Nat, c < s.length ∧ x = .int .i64 c ∧ Tab.dist s.length hm c ≤ Tab.dist s.length hm R ∧ Mod (fun _ => False) w wr ∧ Blk wr w.heap.size 29 #[.int .i64 p, .int .u64 i]) (fun x _ => Tab.dist s.length (intOf x).toNat R)
  case atStart => exact ⟨hm, hh, rfl, by unfold Tab.dist; split <;> split <;> omega, m2, hk1⟩
  case round =>
    obtain ⟨c, hcl, rfl, hcd, hM, hK⟩ := hrel
    clear m2 hk1
    have hmem := h.mod hM (fun e => e) (fun e => e)
    have htop := hmem.top.cell
    have hkc := hK.cell
    obtain ⟨s0, s1, s2, s3⟩ := hmem.slot hcl
    by_cases hcR : c = R
    · subst hcR
      rcases hat : Tab.at_ s c with _ | ⟨⟨p', i'⟩, x⟩
      · rw [hat] at s0 s1 s2 s3
        simp only [enc, List.getElem?_cons_zero, List.getElem?_cons_succ] at s0 s1 s2 s3
        go_wp2_with fail
        go_quiet (fail)
        go_wp2
        go_ret
        exact ⟨rfl, hM.drewN _⟩
      · have := hstop
        rw [Tab.stops_some hat] at this
        have this : (p', i') = (p, i) := by simpa using this
        simp only [Prod.mk.injEq] at this
        obtain ⟨rfl, rfl⟩ := this
        rw [hat] at s0 s1 s2 s3
        simp only [enc, List.getElem?_cons_zero, List.getElem?_cons_succ] at s0 s1 s2 s3
        clear hat
        go_wp2_with fail
        go_quiet (fail)
        go_wp2
        go_ret
        exact ⟨rfl, hM.drewN _⟩
    · have hst : Tab.stops s (p, i) c = false := HF.out c hcl (by revert hcd; unfold Tab.dist; split <;> split <;> omega)
      obtain ⟨⟨p', i'⟩, x, hat, hne⟩ := Tab.stops_false hst
      rw [hat] at s0 s1 s2 s3
      simp only [enc, List.getElem?_cons_zero, List.getElem?_cons_succ] at s0 s1 s2 s3
      clear hst hat
      have hnx := Tab.nx_eq hcl
      have hd1 : Tab.dist s.length hm (Tab.nx s.length c) ≤ Tab.dist s.length hm R := by
        revert hcd; unfold Tab.dist; rw [hnx]; split <;> split <;> split <;> split <;> omega
      have hd2 : Tab.dist s.length (Tab.nx s.length c) R < Tab.dist s.length c R := by
        unfold Tab.dist; rw [hnx]; split <;> split <;> split <;> omega
      have hd3 := Tab.nx_lt hcl
      have HD := Lib.hid (And.intro hd1 (And.intro hd2 hd3))
      clear hnx hd1 hd2 hd3 hcd
      by_cases hp : p' = p
      · have hi' : (i' == i) = false := by
          simp only [beq_eq_false_iff_ne, ne_eq]; rintro rfl; exact hne (by rw [hp])
        obtain rfl : p = p' := hp.symm
        clear hne hcR
        go_wp2_with fail
        go_quiet (fail)
        go_wp2
        go_roundw
        case rel => exact ⟨Tab.nx s.length c, HD.out.2.2, by rw [← nx_val], HD.out.1, hM.drewN _, hK.drewN _⟩
        case measure => simp [intOf]; rw [nx_val]; exact HD.out.2.1
      · have hp' : (p' == p) = false := by simpa using hp
        clear hne hp hcR
        go_wp2_with fail
        go_quiet (fail)
        go_wp2
        go_roundw
        case rel => exact ⟨Tab.nx s.length c, HD.out.2.2, by rw [← nx_val], HD.out.1, hM.drewN _, hK.drewN _⟩
        case measure => simp [intOf]; rw [nx_val]; exact HD.out.2.1
theorem Mem.later {w : World} {bt bs : Nat} {most n : Int} {s : List (Option ((Int × Int) × Int))} (h : Mem w bt bs most n s) (x : Later w) : Mem x.world bt bs most n s := h.mod x.mod (fun e => e) (fun e => e)
theorem hasNone (p i : Int) (w : World) :
    Calls Try.prog 45 #[.pointer none, .agg #[.int .i64 p, .int .u64 i]] w fun e w' => e = .returned (.tuple #[.int .i64 0, .bool false]) ∧ Mod (fun _ => False) w w' := by
  go_enter Try.func45, Try.ntmps45
  go_wp2
  go_ret2
  exact ⟨rfl, (Mod.refl _ _).alloc _⟩
theorem hasW (bt bs : Nat) (most n : Int) (s : List (Option ((Int × Int) × Int))) (p i : Int) (w : World) (h : Mem w bt bs most n s) (hL : 1 ≤ s.length) (hL2 : s.length ≤ 4611686018427387904) (hr : ∃ i, i < s.length ∧ Tab.at_ s i = none) :
    Calls Try.prog 45 #[.pointer (some ⟨bt, 0, none⟩), .agg #[.int .i64 p, .int .u64 i]] w fun e w' => e = .returned (.tuple #[.int .i64 (Tab.find home s (p, i)), .bool (Tab.at_ s (Tab.find home s (p, i))).isSome]) ∧ Mod (fun _ => False) w w' := by
  have hR := Tab.find_lt (home := home) (k := (p, i)) (home_lt _ hL) hr
  have hlt := h.top.lt
  have hA : Mem (w.alloc (.cells #[.int .i64 p, .int .u64 i] 29)) bt bs most n s := h.mod ((Mod.refl (fun _ => False) w).alloc _) (fun e => e) (fun e => e)
  have hc := h.top.cell
  have hL0 : ((s.length : Int) == 0) = false := by rw [beq_eq_false_iff_ne]; omega
  generalize hRe : Tab.find home s (p, i) = R at *
  have HRe := Lib.hid hRe
  clear hRe
  rcases hat : Tab.at_ s R with _ | ⟨⟨p', i'⟩, x⟩
  all_goals
    simp only [Option.isSome_none, Option.isSome_some]
    have HAT := Lib.hid hat
    clear hat
    go_enter Try.func45, Try.ntmps45
    go_wp2_with fail
    refine (findW _ _ _ _ _ _ _ _ hA hL hL2 hr).mono ?_
    rintro e w1 ⟨rfl, m1⟩
    rw [HRe.out]
    have hmem := hA.mod m1 (fun e => e) (fun e => e)
    have htop := hmem.top.cell
    have m2 : Mod (fun _ => False) w w1 := ((Mod.refl (fun _ => False) w).alloc _).trans m1 (fun _ _ h => h)
    obtain ⟨s0, s1, s2, s3⟩ := hmem.slot hR
    rw [HAT.out] at s0
    simp only [enc, List.getElem?_cons_zero] at s0
    clear hc s1 s2 s3 m1
    go_wp2_with fail
    go_quiet (fail)
    go_wp2
    go_ret2
    exact ⟨rfl, m2.drewN _⟩
theorem lenNone (w : World) :
    Calls Try.prog 26 #[.pointer none] w fun e w' => e = .returned (.int .i64 0) ∧ w = w' := by
  go_enter Try.func26, Try.ntmps26
  go_wp2
  go_ret
  exact ⟨rfl, rfl⟩
theorem lenW (bt bs : Nat) (most n : Int) (s : List (Option ((Int × Int) × Int))) (w : World) (h : Mem w bt bs most n s) :
    Calls Try.prog 26 #[.pointer (some ⟨bt, 0, none⟩)] w fun e w' => e = .returned (.int .i64 n) ∧ w = w' := by
  have hc := h.top.cell
  go_enter Try.func26, Try.ntmps26
  go_wp2
  go_ret
  exact ⟨rfl, rfl⟩
theorem newNo (most : Int) (w : World) (h : most < 1 ∨ 100000 < most) :
    Calls Try.prog 21 #[.int .i64 most] w fun e w' => e = .returned (.tuple #[.pointer none, .int .i64 1]) ∧ w = w' := by
  go_enter Try.func21, Try.ntmps21
  go_wp2
  all_goals
    go_ret2
    exact ⟨rfl, rfl⟩
/-- The cells of so many empty slots. -/
def empties (n : Nat) : Array Value := ((List.replicate n (none : Option ((Int × Int) × Int))).flatMap enc).toArray
theorem newW (most : Int) (w : World) (h1 : 1 ≤ most) (h2 : most ≤ 100000) :
    Calls Try.prog 21 #[.int .i64 most] w fun e w' => ∃ bt bs, e = .returned (.tuple #[.pointer (some ⟨bt, 0, none⟩), .int .i64 0]) ∧ Mem w' bt bs most 0 (List.replicate 8 none) ∧ w.heap.size ≤ bs ∧ bs < bt ∧ Mod (fun _ => False) w w' := by
  have hmk : ∀ w, (Instr.makeSlice 83 (.int .i64 8) (.int .i64 8)).run Try.prog w = .ok (.slice (some ⟨w.heap.size, 0, none⟩) 8 8) (w.alloc (.cells (empties 8) 87)) := fun _ => by kernel_rfl
  go_enter Try.func21, Try.ntmps21
  go_wp2
  go_ret2
  exact ⟨_, _, rfl, ⟨Blk.newAt (by simp) _ _, (Blk.new w _ (empties 8)).old _⟩, Nat.le_refl _, by simp, ((Mod.refl _ _).alloc _).alloc _⟩
theorem getNone (p i : Int) (w : World) :
    Calls Try.prog 27 #[.pointer none, .agg #[.int .i64 p, .int .u64 i]] w fun e w' => e = .returned (.tuple #[.int .i64 0, .bool false]) ∧ Mod (fun _ => False) w w' := by
  go_enter Try.func27, Try.ntmps27
  go_wp2_with fail
  refine (hasNone _ _ _).mono ?_
  rintro e w1 ⟨rfl, m1⟩
  go_wp2
  go_ret2
  exact ⟨rfl, ((Mod.refl (fun _ => False) w).alloc _).trans m1 (fun _ _ h => h)⟩
/-- What Get answers. -/
def got (o : Option ((Int × Int) × Int)) : Value := match o with | none => .int .i64 0 | some (_, x) => .int .i64 x
theorem getW (bt bs : Nat) (most n : Int) (s : List (Option ((Int × Int) × Int))) (p i : Int) (w : World) (h : Mem w bt bs most n s) (hL : 1 ≤ s.length) (hL2 : s.length ≤ 4611686018427387904) (hr : ∃ i, i < s.length ∧ Tab.at_ s i = none) :
    Calls Try.prog 27 #[.pointer (some ⟨bt, 0, none⟩), .agg #[.int .i64 p, .int .u64 i]] w fun e w' => e = .returned (.tuple #[got (Tab.at_ s (Tab.find home s (p, i))), .bool (Tab.at_ s (Tab.find home s (p, i))).isSome]) ∧ Mod (fun _ => False) w w' := by
  have hR := Tab.find_lt (home := home) (k := (p, i)) (home_lt _ hL) hr
  have hA : Mem (w.alloc (.cells #[.int .i64 p, .int .u64 i] 29)) bt bs most n s := h.mod ((Mod.refl (fun _ => False) w).alloc _) (fun e => e) (fun e => e)
  generalize hRe : Tab.find home s (p, i) = R at *
  have HRe := Lib.hid hRe
  clear hRe
  rcases hat : Tab.at_ s R with _ | ⟨⟨p', i'⟩, x⟩
  all_goals
    simp only [Option.isSome_none, Option.isSome_some, got]
    have HAT := Lib.hid hat
    clear hat
    go_enter Try.func27, Try.ntmps27
    go_wp2_with fail
    refine (hasW _ _ _ _ _ _ _ _ hA hL hL2 hr).mono ?_
    rintro e w1 ⟨rfl, m1⟩
    rw [HRe.out, HAT.out]
    simp only [Option.isSome_none, Option.isSome_some]
    have hmem := hA.mod m1 (fun e => e) (fun e => e)
    have htop := hmem.top.cell
    have m2 : Mod (fun _ => False) w w1 := ((Mod.refl (fun _ => False) w).alloc _).trans m1 (fun _ _ h => h)
    obtain ⟨s0, s1, s2, s3⟩ := hmem.slot hR
    rw [HAT.out] at s3
    simp only [enc, List.getElem?_cons_zero, List.getElem?_cons_succ] at s3
    clear s0 s1 s2 m1
    go_wp2
    go_ret2
    exact ⟨rfl, m2⟩
end Go.Proofs.Ytkfembhladjhdaa.TabInt
