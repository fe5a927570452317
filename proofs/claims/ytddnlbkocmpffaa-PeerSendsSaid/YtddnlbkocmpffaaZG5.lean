/- Contracts of a table of *mizzen/reasm.Buf. -/
import Derived.Test.YtddnlbkocmpffaaRows
import Derived.Test.YtddnlbkocmpffaaZG0
import Derived.Test.YtddnlbkocmpffaaZG7
import Derived.WalkKit
import Derived.Lib.Hide
import Derived.Outline
import Derived.Laws.StructEq
import Derived.Laws.MakeOwn
import Derived.WalkLawsBesides
namespace Go.Proofs.Ytddnlbkocmpffaa.TabBuf
open Go.RowKit
set_option linter.unusedVariables false
set_option maxHeartbeats 2000000
set_option maxRecDepth 100000
/-- The cells of a slot. -/
def enc : Option ((Int × Int) × Nat) → List Value
  | none => [.bool false, .int .i64 0, .int .u64 0, .pointer none]
  | some ((p, i), x) => [.bool true, .int .i64 p, .int .u64 i, .pointer (some ⟨x, 0, none⟩)]
/-- A table in memory: its own block, and the block of its slots. -/
structure Mem (w : World) (bt bs : Nat) (most n : Int) (s : List (Option ((Int × Int) × Nat))) : Prop where
  top : Blk w bt 117 #[.int .i64 most, .int .i64 n, .slice (some ⟨bs, 0, none⟩) s.length s.length]
  row : Blk w bs 144 (s.flatMap enc).toArray
/-- A key's own slot. -/
def home (k : Int × Int) (L : Nat) : Nat :=
  ((IntKind.u64.wrap (IntKind.u64.wrap (k.2 * 11400714819323198485) + IntKind.u64.wrap (IntKind.u64.wrap k.1 * 13787848793156543929)) / 1048576) % (L : Int)).toNat
theorem home_lt (k : Int × Int) {L : Nat} (h : 1 ≤ L) : home k L < L := by
  unfold home
  have := Int.emod_lt_of_pos (IntKind.u64.wrap (IntKind.u64.wrap (k.2 * 11400714819323198485) + IntKind.u64.wrap (IntKind.u64.wrap k.1 * 13787848793156543929)) / 1048576) (show (0 : Int) < L by omega)
  have := Int.emod_nonneg (IntKind.u64.wrap (IntKind.u64.wrap (k.2 * 11400714819323198485) + IntKind.u64.wrap (IntKind.u64.wrap k.1 * 13787848793156543929)) / 1048576) (show (L : Int) ≠ 0 by omega)
  omega
theorem home_val (x : Int) {L : Nat} (h : 1 ≤ L) (hL : L ≤ 9223372036854775807) : wrap64 ((IntKind.u64.wrap x / 1048576).tmod L) = (((IntKind.u64.wrap x / 1048576) % (L : Int)).toNat : Int) := by
  have h0 : 0 ≤ IntKind.u64.wrap x := by show 0 ≤ x % 18446744073709551616; omega
  generalize IntKind.u64.wrap x = y at *
  have h1 : 0 ≤ y / 1048576 := by omega
  generalize y / 1048576 = z at *
  rw [Int.tmod_eq_emod_of_nonneg h1]
  have := Int.emod_lt_of_pos z (show (0 : Int) < L by omega)
  have := Int.emod_nonneg z (show (L : Int) ≠ 0 by omega)
  unfold wrap64
  omega
theorem flat_at (s : List (Option ((Int × Int) × Nat))) : ∀ (i j : Nat), j < 4 → i < s.length → (s.flatMap enc)[i * 4 + j]? = (enc (Tab.at_ s i))[j]? := by
  induction s with
  | nil => intro i j _ h; exact absurd h (by simp)
  | cons x s ih =>
    intro i j hj hi
    have hl : (enc x).length = 4 := by rcases x with _ | ⟨⟨_, _⟩, _⟩ <;> rfl
    rw [List.flatMap_cons]
    cases i with
    | zero => rw [Nat.zero_mul, Nat.zero_add, List.getElem?_append_left (by omega)]; simp [Tab.at_]
    | succ i =>
      rw [List.getElem?_append_right (by omega), hl, show (i + 1) * 4 + j - 4 = i * 4 + j by omega, ih i j hj (by simpa using hi)]
      simp [Tab.at_]
theorem flat_length (s : List (Option ((Int × Int) × Nat))) : (s.flatMap enc).length = s.length * 4 := by
  induction s with
  | nil => rfl
  | cons x s ih =>
    have hl : (enc x).length = 4 := by rcases x with _ | ⟨⟨_, _⟩, _⟩ <;> rfl
    rw [List.flatMap_cons, List.length_append, hl, ih, List.length_cons]; omega
theorem Mem.slot {w : World} {bt bs : Nat} {most n : Int} {s : List (Option ((Int × Int) × Nat))} (h : Mem w bt bs most n s) {i : Nat} (hi : i < s.length) :
    w.cell? ⟨bs, i * 4, none⟩ = (enc (Tab.at_ s i))[0]? ∧ w.cell? ⟨bs, i * 4 + 1, none⟩ = (enc (Tab.at_ s i))[1]? ∧ w.cell? ⟨bs, i * 4 + 2, none⟩ = (enc (Tab.at_ s i))[2]? ∧ w.cell? ⟨bs, i * 4 + 3, none⟩ = (enc (Tab.at_ s i))[3]? := by
  have := flat_at s i
  refine ⟨?_, ?_, ?_, ?_⟩
  · rw [h.row.cell, List.getElem?_toArray]; exact this 0 (by omega) hi
  · rw [h.row.cell, List.getElem?_toArray]; exact this 1 (by omega) hi
  · rw [h.row.cell, List.getElem?_toArray]; exact this 2 (by omega) hi
  · rw [h.row.cell, List.getElem?_toArray]; exact this 3 (by omega) hi
theorem Mem.mod {S : Nat → Prop} {w w' : World} (m : Mod S w w') {bt bs : Nat} {most n : Int} {s : List (Option ((Int × Int) × Nat))} (h : Mem w bt bs most n s) (h1 : ¬ S bt) (h2 : ¬ S bs) : Mem w' bt bs most n s :=
  ⟨h.top.mod m h1, h.row.mod m h2⟩
/-- What a key may be. -/
def KeyOk (p i : Int) : Prop := (-9223372036854775808 ≤ p ∧ p ≤ 9223372036854775807) ∧ 0 ≤ i ∧ i < 18446744073709551616
theorem homeW (bt bs : Nat) (most n : Int) (s : List (Option ((Int × Int) × Nat))) (p i : Int) (w : World) (h : Mem w bt bs most n s) (hL : 1 ≤ s.length) (hL2 : s.length ≤ 9223372036854775807) :
    Calls Try.prog 98 #[.pointer (some ⟨bt, 0, none⟩), .agg #[.int .i64 p, .int .u64 i]] w fun e w' => e = .returned (.int .i64 (home (p, i) s.length)) ∧ Mod (fun _ => False) w w' := by
  have hc := h.top.cell
  have hlt := h.top.lt
  go_enter Try.func98, Try.ntmps98
  go_wp2
  go_ret
  exact ⟨congrArg (fun x => Ending.returned (.int .i64 x)) (home_val _ hL hL2), (Mod.refl _ _).alloc _⟩
theorem nx_val {L c : Nat} : ((c : Int) + 1) % (L : Int) = ((Tab.nx L c : Nat) : Int) := by
  unfold Tab.nx; rw [Int.natCast_emod]; rfl
theorem findW (bt bs : Nat) (most n : Int) (s : List (Option ((Int × Int) × Nat))) (p i : Int) (w : World) (h : Mem w bt bs most n s) (hL : 1 ≤ s.length) (hL2 : s.length ≤ 4611686018427387904) (hr : ∃ i, i < s.length ∧ Tab.at_ s i = none) :
    Calls Try.prog 81 #[.pointer (some ⟨bt, 0, none⟩), .agg #[.int .i64 p, .int .u64 i]] w fun e w' => e = .returned (.int .i64 (Tab.find home s (p, i))) ∧ Mod (fun _ => False) w w' := by
  obtain ⟨i0, hi0, hn0⟩ := hr
  have hh := home_lt (p, i) hL
  obtain ⟨hR, hstop, hfirst⟩ := Tab.go_first (s := s) (k := (p, i)) hh ⟨i0, hi0, Tab.stops_none hn0⟩
  have hlt := h.top.lt
  have hA : Mem (w.alloc (.cells #[.int .i64 p, .int .u64 i] 92)) bt bs most n s := h.mod ((Mod.refl (fun _ => False) w).alloc _) (fun e => e) (fun e => e)
  unfold Tab.find
  generalize Tab.go s (p, i) s.length (home (p, i) s.length) = R at *
  have HF := Lib.hid hfirst
  clear hfirst
  go_enter Try.func81, Try.ntmps81
  go_wp2_with fail
  refine (homeW _ _ _ _ _ _ _ _ hA hL (by omega)).mono ?_
  rintro e w1 ⟨rfl, m1⟩
  have hk1 : Blk w1 w.heap.size 92 #[.int .i64 p, .int .u64 i] := Blk.mod m1 (Blk.new _ _ _) (fun e => e)
  have m2 : Mod (fun _ => False) w w1 := ((Mod.refl (fun _ => False) w).alloc _).trans m1 (fun _ _ h => h)
  clear m1 hA
  generalize home (p, i) s.length = hm at *
  go_wp2_with fail
  go_loopw [5] (fun x wr => ∃ c : Nat, c < s.length ∧ x = .int .i64 c ∧ Tab.dist s.length hm c ≤ Tab.dist s.length hm R ∧ Mod (fun _ => False) w wr ∧ Blk wr w.heap.size 92 #[.int .i64 p, .int .u64 i]) (fun x _ => Tab.dist s.length (intOf x).toNat R)
  case atStart => exact ⟨hm, hh, rfl, by unfold Tab.dist; split <;> split <;> omega, m2, hk1⟩
  case round =>
    obtain ⟨c, hcl, rfl, hcd, hM, hK⟩ := hrel
    clear m2 hk1
    have hmem := h.mod hM (fun e => e) (fun e => e)
    have htop := hmem.top.cell
    have hkc := hK.cell
    obtain ⟨s0, s1, s2, s3⟩ := hmem.slot hcl
    by_cases hcR : c = R
    · subst hcR
      rcases hat : Tab.at_ s c with _ | ⟨⟨p', i'⟩, x⟩
      · rw [hat] at s0 s1 s2 s3
        simp only [enc, List.getElem?_cons_zero, List.getElem?_cons_succ] at s0 s1 s2 s3
        go_wp2_with fail
        go_quiet (fail)
        go_wp2
        go_ret
        exact ⟨rfl, hM.drewN _⟩
      · have := hstop
        rw [Tab.stops_some hat] at this
        have this : (p', i') = (p, i) := by simpa using this
        simp only [Prod.mk.injEq] at this
        obtain ⟨rfl, rfl⟩ := this
        rw [hat] at s0 s1 s2 s3
        simp only [enc, List.getElem?_cons_zero, List.getElem?_cons_succ] at s0 s1 s2 s3
        clear hat
        go_wp2_with fail
        go_quiet (fail)
        go_wp2
        go_ret
        exact ⟨rfl, hM.drewN _⟩
    · have hst : Tab.stops s (p, i) c = false := HF.out c hcl (by revert hcd; unfold Tab.dist; split <;> split <;> omega)
      obtain ⟨⟨p', i'⟩, x, hat, hne⟩ := Tab.stops_false hst
      rw [hat] at s0 s1 s2 s3
      simp only [enc, List.getElem?_cons_zero, List.getElem?_cons_succ] at s0 s1 s2 s3
      clear hst hat
      have hnx := Tab.nx_eq hcl
      have hd1 : Tab.dist s.length hm (Tab.nx s.length c) ≤ Tab.dist s.length hm R := by
        revert hcd; unfold Tab.dist; rw [hnx]; split <;> split <;> split <;> split <;> omega
      have hd2 : Tab.dist s.length (Tab.nx s.length c) R < Tab.dist s.length c R := by
        unfold Tab.dist; rw [hnx]; split <;> split <;> split <;> omega
      have hd3 := Tab.nx_lt hcl
      have HD := Lib.hid (And.intro hd1 (And.intro hd2 hd3))
      clear hnx hd1 hd2 hd3 hcd
      by_cases hp : p' = p
      · have hi' : (i' == i) = false := by
          simp only [beq_eq_false_iff_ne, ne_eq]; rintro rfl; exact hne (by rw [hp])
        obtain rfl : p = p' := hp.symm
        clear hne hcR
        go_wp2_with fail
        go_quiet (fail)
        go_wp2
        go_roundw
        case rel => exact ⟨Tab.nx s.length c, HD.out.2.2, by rw [← nx_val], HD.out.1, hM.drewN _, hK.drewN _⟩
        case measure => simp [intOf]; rw [nx_val]; exact HD.out.2.1
      · have hp' : (p' == p) = false := by simpa using hp
        clear hne hp hcR
        go_wp2_with fail
        go_quiet (fail)
        go_wp2
        go_roundw
        case rel => exact ⟨Tab.nx s.length c, HD.out.2.2, by rw [← nx_val], HD.out.1, hM.drewN _, hK.drewN _⟩
        case measure => simp [intOf]; rw [nx_val]; exact HD.out.2.1
theorem Mem.later {w : World} {bt bs : Nat} {most n : Int} {s : List (Option ((Int × Int) × Nat))} (h : Mem w bt bs most n s) (x : Later w) : Mem x.world bt bs most n s := h.mod x.mod (fun e => e) (fun e => e)
theorem hasNone (p i : Int) (w : World) :
    Calls Try.prog 78 #[.pointer none, .agg #[.int .i64 p, .int .u64 i]] w fun e w' => e = .returned (.tuple #[.int .i64 0, .bool false]) ∧ Mod (fun _ => False) w w' := by
  go_enter Try.func78, Try.ntmps78
  go_wp2
  go_ret2
  exact ⟨rfl, (Mod.refl _ _).alloc _⟩
theorem hasW (bt bs : Nat) (most n : Int) (s : List (Option ((Int × Int) × Nat))) (p i : Int) (w : World) (h : Mem w bt bs most n s) (hL : 1 ≤ s.length) (hL2 : s.length ≤ 4611686018427387904) (hr : ∃ i, i < s.length ∧ Tab.at_ s i = none) :
    Calls Try.prog 78 #[.pointer (some ⟨bt, 0, none⟩), .agg #[.int .i64 p, .int .u64 i]] w fun e w' => e = .returned (.tuple #[.int .i64 (Tab.find home s (p, i)), .bool (Tab.at_ s (Tab.find home s (p, i))).isSome]) ∧ Mod (fun _ => False) w w' := by
  have hR := Tab.find_lt (home := home) (k := (p, i)) (home_lt _ hL) hr
  have hlt := h.top.lt
  have hA : Mem (w.alloc (.cells #[.int .i64 p, .int .u64 i] 92)) bt bs most n s := h.mod ((Mod.refl (fun _ => False) w).alloc _) (fun e => e) (fun e => e)
  have hc := h.top.cell
  have hL0 : ((s.length : Int) == 0) = false := by rw [beq_eq_false_iff_ne]; omega
  generalize hRe : Tab.find home s (p, i) = R at *
  have HRe := Lib.hid hRe
  clear hRe
  rcases hat : Tab.at_ s R with _ | ⟨⟨p', i'⟩, x⟩
  all_goals
    simp only [Option.isSome_none, Option.isSome_some]
    have HAT := Lib.hid hat
    clear hat
    go_enter Try.func78, Try.ntmps78
    go_wp2_with fail
    refine (findW _ _ _ _ _ _ _ _ hA hL hL2 hr).mono ?_
    rintro e w1 ⟨rfl, m1⟩
    rw [HRe.out]
    have hmem := hA.mod m1 (fun e => e) (fun e => e)
    have htop := hmem.top.cell
    have m2 : Mod (fun _ => False) w w1 := ((Mod.refl (fun _ => False) w).alloc _).trans m1 (fun _ _ h => h)
    obtain ⟨s0, s1, s2, s3⟩ := hmem.slot hR
    rw [HAT.out] at s0
    simp only [enc, List.getElem?_cons_zero] at s0
    clear hc s1 s2 s3 m1
    go_wp2_with fail
    go_quiet (fail)
    go_wp2
    go_ret2
    exact ⟨rfl, m2.drewN _⟩
theorem lenNone (w : World) :
    Calls Try.prog 41 #[.pointer none] w fun e w' => e = .returned (.int .i64 0) ∧ w = w' := by
  go_enter Try.func41, Try.ntmps41
  go_wp2
  go_ret
  exact ⟨rfl, rfl⟩
theorem lenW (bt bs : Nat) (most n : Int) (s : List (Option ((Int × Int) × Nat))) (w : World) (h : Mem w bt bs most n s) :
    Calls Try.prog 41 #[.pointer (some ⟨bt, 0, none⟩)] w fun e w' => e = .returned (.int .i64 n) ∧ w = w' := by
  have hc := h.top.cell
  go_enter Try.func41, Try.ntmps41
  go_wp2
  go_ret
  exact ⟨rfl, rfl⟩
theorem newNo (most : Int) (w : World) (h : most < 1 ∨ 100000 < most) :
    Calls Try.prog 33 #[.int .i64 most] w fun e w' => e = .returned (.tuple #[.pointer none, .int .i64 1]) ∧ w = w' := by
  go_enter Try.func33, Try.ntmps33
  go_wp2
  all_goals
    go_ret2
    exact ⟨rfl, rfl⟩
/-- The cells of so many empty slots. -/
def empties (n : Nat) : Array Value := ((List.replicate n (none : Option ((Int × Int) × Nat))).flatMap enc).toArray
theorem newW (most : Int) (w : World) (h1 : 1 ≤ most) (h2 : most ≤ 100000) :
    Calls Try.prog 33 #[.int .i64 most] w fun e w' => ∃ bt bs, e = .returned (.tuple #[.pointer (some ⟨bt, 0, none⟩), .int .i64 0]) ∧ Mem w' bt bs most 0 (List.replicate 8 none) ∧ w.heap.size ≤ bs ∧ bs < bt ∧ Mod (fun _ => False) w w' := by
  have hmk : ∀ w, (Instr.makeSlice 115 (.int .i64 8) (.int .i64 8)).run Try.prog w = .ok (.slice (some ⟨w.heap.size, 0, none⟩) 8 8) (w.alloc (.cells (empties 8) 144)) := fun _ => by kernel_rfl
  go_enter Try.func33, Try.ntmps33
  go_wp2
  go_ret2
  exact ⟨_, _, rfl, ⟨Blk.newAt (by simp) _ _, (Blk.new w _ (empties 8)).old _⟩, Nat.le_refl _, by simp, ((Mod.refl _ _).alloc _).alloc _⟩
theorem getNone (p i : Int) (w : World) :
    Calls Try.prog 56 #[.pointer none, .agg #[.int .i64 p, .int .u64 i]] w fun e w' => e = .returned (.tuple #[.pointer none, .bool false]) ∧ Mod (fun _ => False) w w' := by
  go_enter Try.func56, Try.ntmps56
  go_wp2_with fail
  refine (hasNone _ _ _).mono ?_
  rintro e w1 ⟨rfl, m1⟩
  go_wp2
  go_ret2
  exact ⟨rfl, ((Mod.refl (fun _ => False) w).alloc _).trans m1 (fun _ _ h => h)⟩
/-- What Get answers. -/
def got (o : Option ((Int × Int) × Nat)) : Value := match o with | none => .pointer none | some (_, x) => .pointer (some ⟨x, 0, none⟩)
theorem getW (bt bs : Nat) (most n : Int) (s : List (Option ((Int × Int) × Nat))) (p i : Int) (w : World) (h : Mem w bt bs most n s) (hL : 1 ≤ s.length) (hL2 : s.length ≤ 4611686018427387904) (hr : ∃ i, i < s.length ∧ Tab.at_ s i = none) :
    Calls Try.prog 56 #[.pointer (some ⟨bt, 0, none⟩), .agg #[.int .i64 p, .int .u64 i]] w fun e w' => e = .returned (.tuple #[got (Tab.at_ s (Tab.find home s (p, i))), .bool (Tab.at_ s (Tab.find home s (p, i))).isSome]) ∧ Mod (fun _ => False) w w' := by
  have hR := Tab.find_lt (home := home) (k := (p, i)) (home_lt _ hL) hr
  have hA : Mem (w.alloc (.cells #[.int .i64 p, .int .u64 i] 92)) bt bs most n s := h.mod ((Mod.refl (fun _ => False) w).alloc _) (fun e => e) (fun e => e)
  generalize hRe : Tab.find home s (p, i) = R at *
  have HRe := Lib.hid hRe
  clear hRe
  rcases hat : Tab.at_ s R with _ | ⟨⟨p', i'⟩, x⟩
  all_goals
    simp only [Option.isSome_none, Option.isSome_some, got]
    have HAT := Lib.hid hat
    clear hat
    go_enter Try.func56, Try.ntmps56
    go_wp2_with fail
    refine (hasW _ _ _ _ _ _ _ _ hA hL hL2 hr).mono ?_
    rintro e w1 ⟨rfl, m1⟩
    rw [HRe.out, HAT.out]
    simp only [Option.isSome_none, Option.isSome_some]
    have hmem := hA.mod m1 (fun e => e) (fun e => e)
    have htop := hmem.top.cell
    have m2 : Mod (fun _ => False) w w1 := ((Mod.refl (fun _ => False) w).alloc _).trans m1 (fun _ _ h => h)
    obtain ⟨s0, s1, s2, s3⟩ := hmem.slot hR
    rw [HAT.out] at s3
    simp only [enc, List.getElem?_cons_zero, List.getElem?_cons_succ] at s3
    clear s0 s1 s2 m1
    go_wp2
    go_ret2
    exact ⟨rfl, m2⟩
end Go.Proofs.Ytddnlbkocmpffaa.TabBuf
namespace Go.Proofs.Ytddnlbkocmpffaa.TabBuf
open Go.RowKit
set_option linter.unusedVariables false
set_option maxHeartbeats 2000000
set_option maxRecDepth 100000
theorem enc_length (o : Option ((Int × Int) × Nat)) : (enc o).length = 4 := by rcases o with _ | ⟨⟨_, _⟩, _⟩ <;> rfl
/-- Four cells written: a slot. -/
theorem flat_set (s : List (Option ((Int × Int) × Nat))) {i : Nat} (hi : i < s.length) (o : Option ((Int × Int) × Nat)) (v0 v1 v2 v3 : Value) (he : enc o = [v0, v1, v2, v3]) :
    ((((s.flatMap enc).toArray.setIfInBounds (i * 4) v0).setIfInBounds (i * 4 + 1) v1).setIfInBounds (i * 4 + 2) v2).setIfInBounds (i * 4 + 3) v3 = ((s.set i o).flatMap enc).toArray := by
  have hfl := flat_length s
  have hfl2 := flat_length (s.set i o)
  rw [List.length_set] at hfl2
  apply Array.ext_getElem?
  intro m
  rcases Nat.lt_or_ge m (s.length * 4) with hm | hm
  · have hm4 : m / 4 * 4 + m % 4 = m := by omega
    have h1 := flat_at s (m / 4) (m % 4) (by omega) (by omega)
    have h2 := flat_at (s.set i o) (m / 4) (m % 4) (by omega) (by rw [List.length_set]; omega)
    rw [hm4] at h1 h2
    rw [show ((s.set i o).flatMap enc).toArray[m]? = ((s.set i o).flatMap enc)[m]? from List.getElem?_toArray, h2, Tab.at_set hi]
    simp only [Array.getElem?_setIfInBounds, Array.size_setIfInBounds, List.size_toArray, List.getElem?_toArray, hfl]
    by_cases e : i = m / 4
    · rw [if_pos e, he]
      have : m % 4 = 0 ∨ m % 4 = 1 ∨ m % 4 = 2 ∨ m % 4 = 3 := by omega
      rcases this with h | h | h | h
      · rw [h, if_neg (by omega), if_neg (by omega), if_neg (by omega), if_pos (by omega), if_pos (by omega)]; rfl
      · rw [h, if_neg (by omega), if_neg (by omega), if_pos (by omega), if_pos (by omega)]; rfl
      · rw [h, if_neg (by omega), if_pos (by omega), if_pos (by omega)]; rfl
      · rw [h, if_pos (by omega), if_pos (by omega)]; rfl
    · rw [if_neg e, if_neg (by omega), if_neg (by omega), if_neg (by omega), if_neg (by omega), h1]
  · rw [Array.getElem?_eq_none (by simp only [Array.size_setIfInBounds, List.size_toArray, hfl]; omega), List.getElem?_toArray, List.getElem?_eq_none (by omega)]
theorem putTail (bt bs : Nat) (most n : Int) (s : List (Option ((Int × Int) × Nat))) (p i : Int) (x : Nat) (w : World) (h : Mem w bt bs most n s) (hL : 1 ≤ s.length) (hL2 : s.length ≤ 2305843009213693952) (hr : ∃ i, i < s.length ∧ Tab.at_ s i = none) (hne : bt ≠ bs)
    (h6 : Tab.at_ s (Tab.find home s (p, i)) = none) (hn : n < most) (hm : most ≤ 100000) (hn0 : 0 ≤ n) (hc : 2 * (n + 1) ≤ s.length) :
    Calls Try.prog 61 #[.pointer (some ⟨bt, 0, none⟩), .agg #[.int .i64 p, .int .u64 i], .pointer (some ⟨x, 0, none⟩)] w fun e w' => e = .returned (.int .i64 0) ∧ Mem w' bt bs most (n + 1) (Tab.put home s (p, i) x) ∧ Mod (fun k => k = bt ∨ k = bs) w w' := by
  have hR := Tab.find_lt (home := home) (k := (p, i)) (home_lt _ hL) hr
  unfold Tab.put
  have hA : Mem (w.alloc (.cells #[.int .i64 p, .int .u64 i] 92)) bt bs most n s := h.mod ((Mod.refl (fun _ => False) w).alloc _) (fun e => e) (fun e => e)
  generalize hRe : Tab.find home s (p, i) = R at *
  have HRe := Lib.hid hRe
  clear hRe
  have hd : decide (n ≥ most) = false := by simp; omega
  have hd2 : decide ((s.length : Int) < 2 * (n + 1)) = false := by rw [decide_eq_false_iff_not]; omega
  go_enter Try.func61, Try.ntmps61
  go_wp2_with fail
  refine (hasW _ _ _ _ _ _ _ _ hA hL (by omega) hr).mono ?_
  rintro e w1 ⟨rfl, m1⟩
  rw [HRe.out, h6]
  simp only [Option.isSome_none]
  have hmem := hA.mod m1 (fun e => e) (fun e => e)
  have htop := hmem.top.cell
  have hK1 : Blk w1 w.heap.size 92 #[.int .i64 p, .int .u64 i] := Blk.mod m1 (Blk.new _ _ _) (fun e => e)
  have m2 : Mod (fun _ => False) w w1 := ((Mod.refl (fun _ => False) w).alloc _).trans m1 (fun _ _ h => h)
  clear m1 hA
  go_wp2_with fail
  go_quiet (fail)
  replace hmem := hmem.mod ((Mod.refl (fun _ => False) w1).drewN nq) (fun e => e) (fun e => e)
  replace hK1 := hK1.drewN nq
  replace m2 := m2.drewN nq
  generalize World.drewN w1 nq = w2 at hmem hK1 m2 ⊢
  clear htop nq
  have htop := hmem.top.cell
  go_wp2_with fail
  go_quiet (fail)
  replace hmem := hmem.mod ((Mod.refl (fun _ => False) w2).drewN nq) (fun e => e) (fun e => e)
  replace hK1 := hK1.drewN nq
  replace m2 := m2.drewN nq
  generalize World.drewN w2 nq = w3 at hmem hK1 m2 ⊢
  clear htop nq
  go_wp2_with fail
  have hf : ∀ (y : Later w3), Calls Try.prog 81 #[.pointer (some ⟨bt, 0, none⟩), .agg #[.int .i64 p, .int .u64 i]] y.world fun e w' => e = .returned (.int .i64 R) ∧ Mod (fun _ => False) y.world w' := fun y => by
    have := findW bt bs most n s p i y.world (hmem.later y) hL (by omega) hr
    rw [HRe.out] at this
    exact this
  have HFD := Lib.hid hf
  clear hf
  have hT := fun (y : Later w3) => (hmem.later y).top.cell
  have hK := fun (y : Later w3) => (hK1.later y).cell
  refine region_later_tail 11 (by kernel_rfl) (by kernel_rfl) ?_
  simp only [List.take_succ_cons, List.take_zero, List.drop_succ_cons, List.drop_zero]
  repeat (go_big_quiet_step ((go_at_call 81; exact later_call (HFD.out _))))
  refine wpQuiet_nil ?_
  intro _ hw'
  obtain ⟨y, hw''⟩ := hw'
  subst hw''
  have hfr := (hmem.later y).row.free
  obtain ⟨s0, s1, s2, s3⟩ := (hmem.later y).slot hR
  rw [h6] at s0 s1 s2 s3
  simp only [enc, List.getElem?_cons_zero, List.getElem?_cons_succ] at s0 s1 s2 s3
  have hne' := hne.symm
  have htop := (hmem.later y).top.cell
  have hftop := (hmem.later y).top.free
  go_wp2
  go_ret
  refine ⟨rfl, ⟨?_, ?_⟩, ?_⟩
  · have := ((((((hmem.later y).top.setOther (a := ⟨bs, R * 4, none⟩) hne (.bool true)).setOther (a := ⟨bs, R * 4 + 1, none⟩) hne (.int .i64 p)).setOther (a := ⟨bs, R * 4 + 2, none⟩) hne (.int .u64 i)).setOther (a := ⟨bs, R * 4 + 3, none⟩) hne (.pointer (some ⟨x, 0, none⟩))).set 1 (.int .i64 (n + 1)))
    rw [List.length_set]
    exact this
  · have := ((((((hmem.later y).row.set (R * 4) (.bool true)).set (R * 4 + 1) (.int .i64 p)).set (R * 4 + 2) (.int .u64 i)).set (R * 4 + 3) (.pointer (some ⟨x, 0, none⟩))).setOther (a := ⟨bt, 1, none⟩) hne' (.int .i64 (n + 1)))
    rw [flat_set s hR (some ((p, i), x)) _ _ _ _ rfl] at this
    exact this
  · have h0 : Mod (fun k => k = bt ∨ k = bs) w y.world := (m2.mono (fun _ _ h => h.elim)).trans y.mod (fun _ _ h => h.elim)
    exact ((((h0.setCell (p := ⟨bs, R * 4, none⟩) (fun _ => .inr rfl) _).setCell (p := ⟨bs, R * 4 + 1, none⟩) (fun _ => .inr rfl) _).setCell (p := ⟨bs, R * 4 + 2, none⟩) (fun _ => .inr rfl) _).setCell (p := ⟨bs, R * 4 + 3, none⟩) (fun _ => .inr rfl) _).setCell (p := ⟨bt, 1, none⟩) (fun _ => .inl rfl) _
theorem empties_made (m : Nat) : madeCells #[.bool false, .int .i64 0, .int .u64 0, .pointer none] (m * 4) = empties m := by
  apply Array.ext_getElem?
  intro k
  unfold empties
  have hfl := flat_length (List.replicate m (none : Option ((Int × Int) × Nat)))
  rw [List.length_replicate] at hfl
  rcases Nat.lt_or_ge k (m * 4) with hk | hk
  · rw [made_get _ _ _ hk]
    have hk4 : k / 4 * 4 + k % 4 = k := by omega
    have h1 := flat_at (List.replicate m (none : Option ((Int × Int) × Nat))) (k / 4) (k % 4) (by omega) (by rw [List.length_replicate]; omega)
    rw [hk4] at h1
    have h2 : Tab.at_ (List.replicate m (none : Option ((Int × Int) × Nat))) (k / 4) = none := by
      unfold Tab.at_; rw [List.getElem?_replicate]; split <;> rfl
    rw [h2] at h1
    rw [List.getElem?_toArray, h1]
    have : k % 4 = 0 ∨ k % 4 = 1 ∨ k % 4 = 2 ∨ k % 4 = 3 := by omega
    rcases this with h | h | h | h <;> rw [h] <;> simp [enc, h]
  · rw [Array.getElem?_eq_none (by rw [made_size]; exact hk), List.getElem?_toArray, List.getElem?_eq_none (by rw [hfl]; exact hk)]
theorem slot_info : (Try.prog.info? 144).map (fun i => (i.zero, i.size, i.bytes)) = some (some (.agg #[.bool false, .int .i64 0, .int .u64 0, .pointer none]), 4, 32) := by kernel_rfl
theorem run_make (L : Nat) (hL : L ≤ 549755813888) (w : World) : (Instr.makeSlice 115 (.int .i64 (2 * (L : Int))) (.int .i64 (2 * (L : Int)))).run Try.prog w = .ok (.slice (some ⟨w.heap.size, 0, none⟩) (2 * L) (2 * L)) (w.alloc (.cells (empties (2 * L)) 144)) := by
  obtain ⟨i, hi, hz, hs, hb⟩ := info_parts slot_info
  have := run_make_rowN (P := Try.prog) 115 144 i _ Try.underlying115 hi hz .i64 .i64 (2 * L) (2 * L) (Nat.le_refl _) (by rw [hb]; omega) (by omega) w
  rw [hs, show ((2 * L : Nat) : Int) = 2 * (L : Int) by omega] at this
  rw [this]
  congr 3
  exact empties_made (2 * L)
theorem growW (bt bs : Nat) (most n : Int) (s : List (Option ((Int × Int) × Nat))) (w : World) (h : Mem w bt bs most n s) (hok : Tab.Ok home s) (hL2 : s.length ≤ 4294967296) (hne : bt ≠ bs) :
    Calls Try.prog 80 #[.pointer (some ⟨bt, 0, none⟩)] w fun e w' => e = .returned (.tuple #[]) ∧ ∃ bs', w.heap.size ≤ bs' ∧ Mem w' bt bs' most n (Tab.refill home (List.replicate (2 * s.length) none) s) ∧ Mod (· = bt) w w' := by
  have hc := h.top.cell
  have hf := h.top.free
  have hmk := fun w => run_make s.length (by omega) w
  have hlt := h.top.lt
  have hls := h.row.lt
  have hne' := hne.symm
  have hsz : s.length ≤ 4294967296 := hL2
  go_enter Try.func80, Try.ntmps80
  go_wp2
  go_loopw [18] (fun x wr => ∃ c : Nat, c ≤ s.length ∧ x = .int .i64 c ∧ Mem wr bt w.heap.size most n (Tab.refill home (List.replicate (2 * s.length) none) (s.take c)) ∧ Blk wr bs 144 (s.flatMap enc).toArray ∧ Mod (· = bt) w wr) (fun x _ => s.length - (intOf x).toNat)
  case atStart =>
    refine ⟨0, by omega, rfl, ⟨?_, ?_⟩, ?_, ?_⟩
    · have := (h.top.set 2 (.slice (some ⟨w.heap.size, 0, none⟩) (2 * s.length) (2 * s.length))).old (.cells (empties (2 * s.length)) 144)
      rw [List.take_zero, Tab.refill, List.length_replicate]
      exact this
    · rw [List.take_zero, Tab.refill]
      exact Blk.newAt (by simp) _ _
    · exact (h.row.setOther (a := ⟨bt, 2, none⟩) hne' _).old _
    · exact ((Mod.refl _ _).set1 2 _).alloc _
  case round =>
    obtain ⟨c, hcl, rfl, hm, hr, hM⟩ := hrel
    by_cases hlt2 : c < s.length
    · have hslot : wr.cell? ⟨bs, c * 4, none⟩ = (enc (Tab.at_ s c))[0]? ∧ wr.cell? ⟨bs, c * 4 + 1, none⟩ = (enc (Tab.at_ s c))[1]? ∧ wr.cell? ⟨bs, c * 4 + 2, none⟩ = (enc (Tab.at_ s c))[2]? ∧ wr.cell? ⟨bs, c * 4 + 3, none⟩ = (enc (Tab.at_ s c))[3]? := by
        have := flat_at s c
        refine ⟨?_, ?_, ?_, ?_⟩
        · rw [hr.cell, List.getElem?_toArray]; exact this 0 (by omega) hlt2
        · rw [hr.cell, List.getElem?_toArray]; exact this 1 (by omega) hlt2
        · rw [hr.cell, List.getElem?_toArray]; exact this 2 (by omega) hlt2
        · rw [hr.cell, List.getElem?_toArray]; exact this 3 (by omega) hlt2
      obtain ⟨s0, s1, s2, s3⟩ := hslot
      have htk : s.take (c + 1) = s.take c ++ [s[c]] := by rw [List.take_succ_eq_append_getElem hlt2]
      have hat : Tab.at_ s c = s[c] := by unfold Tab.at_; rw [List.getElem?_eq_getElem hlt2]; rfl
      rcases hx : s[c] with _ | ⟨⟨p, i⟩, x⟩
      · rw [hat, hx] at s0 s1 s2 s3
        simp only [enc, List.getElem?_cons_zero, List.getElem?_cons_succ] at s0 s1 s2 s3
        have hnew : Tab.refill home (List.replicate (2 * s.length) none) (s.take (c + 1)) = Tab.refill home (List.replicate (2 * s.length) none) (s.take c) := by
          rw [htk, hx, Tab.refill_append]; rfl
        have HN := Lib.hid hnew
        clear htk hat hx hnew
        go_wp2
        go_roundw
        case rel => exact ⟨c + 1, by omega, by go_num, by rw [HN.out]; exact hm.mod ((Mod.refl (fun _ => False) wr).alloc _) (fun e => e) (fun e => e), hr.old _, hM.alloc _⟩
        case measure => simp [intOf]; omega
      · rw [hat, hx] at s0 s1 s2 s3
        simp only [enc, List.getElem?_cons_zero, List.getElem?_cons_succ] at s0 s1 s2 s3
        obtain ⟨t1, t2, t3⟩ := Tab.refill_take (fun k L hL => home_lt k hL) hok c
        have hnew : Tab.refill home (List.replicate (2 * s.length) none) (s.take (c + 1)) = Tab.put home (Tab.refill home (List.replicate (2 * s.length) none) (s.take c)) (p, i) x := by
          rw [htk, hx, Tab.refill_append]; rfl
        have hl2 : (Tab.refill home (List.replicate (2 * s.length) none) (s.take c)).length = 2 * s.length := by rw [Tab.refill_length, List.length_replicate]
        have habs : ∀ v, ¬ Tab.has (Tab.refill home (List.replicate (2 * s.length) none) (s.take c)) (p, i) v := fun v hv => by
          obtain ⟨j, hj⟩ := (t2 _ _).1 hv
          rw [Tab.at_take] at hj
          split at hj
          · have := hok.once j c _ _ _ hj (hat.trans hx)
            omega
          · cases hj
        obtain ⟨q, hq⟩ : ∃ q, q = Tab.refill home (List.replicate (2 * s.length) none) (s.take c) := ⟨_, rfl⟩
        rw [← hq] at hm t1 t2 t3 habs hnew hl2
        have hR := (Tab.find_none (t1.home_lt _) t1.room habs)
        obtain ⟨hR1, hR2, _⟩ := hR
        unfold Tab.put at hnew
        generalize hRe : Tab.find home q (p, i) = R at *
        have HRe := Lib.hid hRe
        have HN := Lib.hid hnew
        clear hRe hq hnew htk hat hx habs t2 t3 hmk
        have hroom := t1.room
        rw [hl2] at hR1
        go_wp2_with fail
        have hm1 := hm.mod ((Mod.refl (fun _ => False) wr).alloc (.cells #[.bool true, .int .i64 p, .int .u64 i, .pointer (some ⟨x, 0, none⟩)] 144)) (fun e => e) (fun e => e)
        have hr1 := hr.old (.cells #[.bool true, .int .i64 p, .int .u64 i, .pointer (some ⟨x, 0, none⟩)] 144)
        have hM1 := hM.alloc (.cells #[.bool true, .int .i64 p, .int .u64 i, .pointer (some ⟨x, 0, none⟩)] 144)
        have hx1 := Blk.new wr 144 #[.bool true, .int .i64 p, .int .u64 i, .pointer (some ⟨x, 0, none⟩)]
        generalize hW : wr.alloc (.cells #[.bool true, .int .i64 p, .int .u64 i, .pointer (some ⟨x, 0, none⟩)] 144) = wx at *
        clear hW
        have hbx : wr.heap.size ≠ w.heap.size := by have := hm.row.lt; omega
        have hbt : bt ≠ w.heap.size := by omega
        have hbs : bs ≠ w.heap.size := by omega
        have hf : ∀ (y : Later wx), Calls Try.prog 81 #[.pointer (some ⟨bt, 0, none⟩), .agg #[.int .i64 p, .int .u64 i]] y.world fun e w' => e = .returned (.int .i64 R) ∧ Mod (fun _ => False) y.world w' := fun y => by
          have := findW bt w.heap.size most n q p i y.world (hm1.later y) (by omega) (by omega) hroom
          rw [HRe.out] at this
          exact this
        have HFD := Lib.hid hf
        clear hf
        have hT := fun (y : Later wx) => (hm1.later y).top.cell
        have hK := fun (y : Later wx) => (hx1.later y).cell
        have hLL := Lib.hid hl2
        rw [hl2] at hT
        clear hl2
        refine region_later_tail 10 (by kernel_rfl) (by kernel_rfl) ?_
        simp only [List.take_succ_cons, List.take_zero, List.drop_succ_cons, List.drop_zero]
        repeat (go_big_quiet_step ((go_at_call 81; exact later_call (HFD.out _))))
        refine wpQuiet_nil ?_
        intro _ hw'
        obtain ⟨y, hw''⟩ := hw'
        subst hw''
        have hfr := (hm1.later y).row.free
        obtain ⟨s0, s1, s2, s3⟩ := (hm1.later y).slot (show R < q.length by rw [hLL.out]; exact hR1)
        rw [hR2] at s0 s1 s2 s3
        simp only [enc, List.getElem?_cons_zero, List.getElem?_cons_succ] at s0 s1 s2 s3
        clear hT hK
        go_wp2
        go_roundw
        case rel =>
          refine ⟨c + 1, by omega, by go_num, ⟨?_, ?_⟩, ?_, ?_⟩
          · rw [HN.out, List.length_set]
            exact ((((hm1.later y).top.setOther (a := ⟨w.heap.size, R * 4, none⟩) hbt _).setOther (a := ⟨w.heap.size, R * 4 + 1, none⟩) hbt _).setOther (a := ⟨w.heap.size, R * 4 + 2, none⟩) hbt _).setOther (a := ⟨w.heap.size, R * 4 + 3, none⟩) hbt _
          · have := ((((hm1.later y).row.set (R * 4) (.bool true)).set (R * 4 + 1) (.int .i64 p)).set (R * 4 + 2) (.int .u64 i)).set (R * 4 + 3) (.pointer (some ⟨x, 0, none⟩))
            rw [flat_set q (by rw [hLL.out]; exact hR1) (some ((p, i), x)) _ _ _ _ rfl] at this
            rw [HN.out]
            exact this
          · exact ((((hr1.later y).setOther (a := ⟨w.heap.size, R * 4, none⟩) hbs _).setOther (a := ⟨w.heap.size, R * 4 + 1, none⟩) hbs _).setOther (a := ⟨w.heap.size, R * 4 + 2, none⟩) hbs _).setOther (a := ⟨w.heap.size, R * 4 + 3, none⟩) hbs _
          · have h0 : Mod (· = bt) w y.world := hM1.trans y.mod (fun _ _ h => h.elim)
            exact (((h0.setCell (p := ⟨w.heap.size, R * 4, none⟩) (fun h => absurd h (Nat.lt_irrefl _)) _).setCell (p := ⟨w.heap.size, R * 4 + 1, none⟩) (fun h => absurd h (Nat.lt_irrefl _)) _).setCell (p := ⟨w.heap.size, R * 4 + 2, none⟩) (fun h => absurd h (Nat.lt_irrefl _)) _).setCell (p := ⟨w.heap.size, R * 4 + 3, none⟩) (fun h => absurd h (Nat.lt_irrefl _)) _
        case measure => simp [intOf]; omega
    · obtain rfl : c = s.length := by omega
      rw [List.take_length] at hm
      go_wp2
      go_end0
      exact ⟨rfl, _, Nat.le_refl _, hm, hM⟩
end Go.Proofs.Ytddnlbkocmpffaa.TabBuf
namespace Go.Proofs.Ytddnlbkocmpffaa.TabBuf
open Go.RowKit
set_option linter.unusedVariables false
set_option maxHeartbeats 2000000
set_option maxRecDepth 100000
theorem putGrow (bt bs : Nat) (most n : Int) (s : List (Option ((Int × Int) × Nat))) (p i : Int) (x : Nat) (w : World) (h : Mem w bt bs most n s) (hok : Tab.Ok home s) (hL2 : s.length ≤ 4294967296) (hne : bt ≠ bs)
    (habs : ∀ v, ¬ Tab.has s (p, i) v) (hn : n < most) (hm : most ≤ 100000) (hn0 : 0 ≤ n) (hc : s.length < 2 * (n + 1)) :
    Calls Try.prog 61 #[.pointer (some ⟨bt, 0, none⟩), .agg #[.int .i64 p, .int .u64 i], .pointer (some ⟨x, 0, none⟩)] w fun e w' => e = .returned (.int .i64 0) ∧ ∃ bq, w.heap.size ≤ bq ∧ Mem w' bt bq most (n + 1) (Tab.put home (Tab.refill home (List.replicate (2 * s.length) none) s) (p, i) x) ∧ Mod (· = bt) w w' := by
  have hL : 1 ≤ s.length := by obtain ⟨i, hi, _⟩ := hok.room; omega
  obtain ⟨t1, t2, t3⟩ := Tab.refill_take (fun k L hL => home_lt k hL) hok s.length
  rw [List.take_length] at t1 t2 t3
  have hl2 : (Tab.refill home (List.replicate (2 * s.length) none) s).length = 2 * s.length := by rw [Tab.refill_length, List.length_replicate]
  have habs2 : ∀ v, ¬ Tab.has (Tab.refill home (List.replicate (2 * s.length) none) s) (p, i) v := fun v hv => habs v ((t2 _ _).1 hv)
  obtain ⟨hR1, hR2, _⟩ := Tab.find_none (t1.home_lt _) t1.room habs2
  have hf0 := (Tab.find_none (hok.home_lt _) hok.room habs).2.1
  have hr := hok.room
  have hroom := t1.room
  have hA : Mem (w.alloc (.cells #[.int .i64 p, .int .u64 i] 92)) bt bs most n s := h.mod ((Mod.refl (fun _ => False) w).alloc _) (fun e => e) (fun e => e)
  have HG := Lib.hid (fun w1 (hmem : Mem w1 bt bs most n s) => growW bt bs most n s w1 hmem hok hL2 hne)
  unfold Tab.put
  generalize Tab.refill home (List.replicate (2 * s.length) none) s = q at *
  generalize hRe : Tab.find home q (p, i) = R at *
  have HRe := Lib.hid hRe
  clear hRe t1 t2 t3 habs habs2 hok
  rw [hl2] at hR1
  have hd : decide (n ≥ most) = false := by rw [decide_eq_false_iff_not]; omega
  have hlt := h.top.lt
  go_enter Try.func61, Try.ntmps61
  go_wp2_with fail
  refine (hasW _ _ _ _ _ _ _ _ hA hL (by omega) hr).mono ?_
  rintro e w1 ⟨rfl, m1⟩
  rw [hf0]
  simp only [Option.isSome_none]
  have hmem := hA.mod m1 (fun e => e) (fun e => e)
  have htop := hmem.top.cell
  have hK1 : Blk w1 w.heap.size 92 #[.int .i64 p, .int .u64 i] := Blk.mod m1 (Blk.new _ _ _) (fun e => e)
  have m2 : Mod (fun _ => False) w w1 := ((Mod.refl (fun _ => False) w).alloc _).trans m1 (fun _ _ h => h)
  clear m1 hA hf0 hr
  go_wp2_with fail
  go_quiet (fail)
  replace hmem := hmem.mod ((Mod.refl (fun _ => False) w1).drewN nq) (fun e => e) (fun e => e)
  replace hK1 := hK1.drewN nq
  replace m2 := m2.drewN nq
  generalize World.drewN w1 nq = w2 at hmem hK1 m2 ⊢
  clear htop nq
  have htop := hmem.top.cell
  go_wp2_with fail
  go_quiet (fail)
  replace hmem := hmem.mod ((Mod.refl (fun _ => False) w2).drewN nq) (fun e => e) (fun e => e)
  replace hK1 := hK1.drewN nq
  replace m2 := m2.drewN nq
  generalize World.drewN w2 nq = w3 at hmem hK1 m2 ⊢
  clear htop nq
  go_wp2_with fail
  refine (HG.out w3 hmem).mono ?_
  rintro e w4 ⟨rfl, bq, hbq, hmem4, m4⟩
  have hwsz : w.heap.size ≤ w3.heap.size := m2.size
  have hneq : bt ≠ bq := by omega
  have hKlt := hK1.lt
  replace hK1 : Blk w4 w.heap.size 92 #[.int .i64 p, .int .u64 i] := hK1.mod m4 (by omega)
  replace m2 : Mod (· = bt) w w4 := (m2.mono (fun _ _ h => h.elim)).trans m4 (fun _ _ h => h)
  clear hmem m4
  have hmem := hmem4
  clear hmem4
  replace hbq : w.heap.size ≤ bq := by omega
  clear hwsz hKlt h HG
  go_wp2_with fail
  have hf : ∀ (y : Later w4), Calls Try.prog 81 #[.pointer (some ⟨bt, 0, none⟩), .agg #[.int .i64 p, .int .u64 i]] y.world fun e w' => e = .returned (.int .i64 R) ∧ Mod (fun _ => False) y.world w' := fun y => by
    have := findW bt bq most n q p i y.world (hmem.later y) (by omega) (by omega) hroom
    rw [HRe.out] at this
    exact this
  have HFD := Lib.hid hf
  clear hf
  have hT := fun (y : Later w4) => (hmem.later y).top.cell
  have hK := fun (y : Later w4) => (hK1.later y).cell
  have hLL := Lib.hid hl2
  rw [hl2] at hT
  clear hl2
  refine region_later_tail 11 (by kernel_rfl) (by kernel_rfl) ?_
  simp only [List.take_succ_cons, List.take_zero, List.drop_succ_cons, List.drop_zero]
  repeat (go_big_quiet_step ((go_at_call 81; exact later_call (HFD.out _))))
  refine wpQuiet_nil ?_
  intro _ hw'
  obtain ⟨y, hw''⟩ := hw'
  subst hw''
  have hfr := (hmem.later y).row.free
  obtain ⟨s0, s1, s2, s3⟩ := (hmem.later y).slot (show R < q.length by rw [hLL.out]; exact hR1)
  rw [hR2] at s0 s1 s2 s3
  simp only [enc, List.getElem?_cons_zero, List.getElem?_cons_succ] at s0 s1 s2 s3
  have hne' := hneq.symm
  have htop := (hmem.later y).top.cell
  have hftop := (hmem.later y).top.free
  rw [hLL.out] at htop
  clear hT hK
  go_wp2
  go_ret
  refine ⟨rfl, bq, hbq, ⟨?_, ?_⟩, ?_⟩
  · have := ((((((hmem.later y).top.setOther (a := ⟨bq, R * 4, none⟩) hneq (.bool true)).setOther (a := ⟨bq, R * 4 + 1, none⟩) hneq (.int .i64 p)).setOther (a := ⟨bq, R * 4 + 2, none⟩) hneq (.int .u64 i)).setOther (a := ⟨bq, R * 4 + 3, none⟩) hneq (.pointer (some ⟨x, 0, none⟩))).set 1 (.int .i64 (n + 1)))
    rw [List.length_set]
    exact this
  · have := ((((((hmem.later y).row.set (R * 4) (.bool true)).set (R * 4 + 1) (.int .i64 p)).set (R * 4 + 2) (.int .u64 i)).set (R * 4 + 3) (.pointer (some ⟨x, 0, none⟩))).setOther (a := ⟨bt, 1, none⟩) hne' (.int .i64 (n + 1)))
    rw [flat_set q (by rw [hLL.out]; exact hR1) (some ((p, i), x)) _ _ _ _ rfl] at this
    exact this
  · have h0 : Mod (· = bt) w y.world := m2.trans y.mod (fun _ _ h => h.elim)
    exact ((((h0.setCell (p := ⟨bq, R * 4, none⟩) (fun h => absurd h (Nat.not_lt.2 hbq)) _).setCell (p := ⟨bq, R * 4 + 1, none⟩) (fun h => absurd h (Nat.not_lt.2 hbq)) _).setCell (p := ⟨bq, R * 4 + 2, none⟩) (fun h => absurd h (Nat.not_lt.2 hbq)) _).setCell (p := ⟨bq, R * 4 + 3, none⟩) (fun h => absurd h (Nat.not_lt.2 hbq)) _).setCell (p := ⟨bt, 1, none⟩) (fun _ => rfl) _
theorem putThere (bt bs : Nat) (most n : Int) (s : List (Option ((Int × Int) × Nat))) (p i : Int) (x : Nat) (w : World) (h : Mem w bt bs most n s) (hok : Tab.Ok home s) (hL2 : s.length ≤ 4294967296) {v : Nat} (hv : Tab.has s (p, i) v) :
    Calls Try.prog 61 #[.pointer (some ⟨bt, 0, none⟩), .agg #[.int .i64 p, .int .u64 i], .pointer (some ⟨x, 0, none⟩)] w fun e w' => e = .returned (.int .i64 6) ∧ Mod (fun _ => False) w w' := by
  have hL : 1 ≤ s.length := by obtain ⟨i, hi, _⟩ := hok.room; omega
  have hA : Mem (w.alloc (.cells #[.int .i64 p, .int .u64 i] 92)) bt bs most n s := h.mod ((Mod.refl (fun _ => False) w).alloc _) (fun e => e) (fun e => e)
  have hf0 : (Tab.at_ s (Tab.find home s (p, i))).isSome = true := by
    obtain ⟨j, hj⟩ := hv
    rw [Tab.find_has hok hj, hj]; rfl
  have HF := Lib.hid hf0
  have hr := hok.room
  clear hv hf0 hok
  go_enter Try.func61, Try.ntmps61
  go_wp2_with fail
  refine (hasW _ _ _ _ _ _ _ _ hA hL (by omega) hr).mono ?_
  rintro e w1 ⟨rfl, m1⟩
  rw [HF.out]
  have m2 : Mod (fun _ => False) w w1 := ((Mod.refl (fun _ => False) w).alloc _).trans m1 (fun _ _ h => h)
  clear m1
  go_wp2
  go_ret
  exact ⟨rfl, m2⟩
theorem putFull (bt bs : Nat) (most n : Int) (s : List (Option ((Int × Int) × Nat))) (p i : Int) (x : Nat) (w : World) (h : Mem w bt bs most n s) (hok : Tab.Ok home s) (hL2 : s.length ≤ 4294967296) (habs : ∀ v, ¬ Tab.has s (p, i) v) (hn : most ≤ n) :
    Calls Try.prog 61 #[.pointer (some ⟨bt, 0, none⟩), .agg #[.int .i64 p, .int .u64 i], .pointer (some ⟨x, 0, none⟩)] w fun e w' => e = .returned (.int .i64 4) ∧ Mod (fun _ => False) w w' := by
  have hL : 1 ≤ s.length := by obtain ⟨i, hi, _⟩ := hok.room; omega
  have hA : Mem (w.alloc (.cells #[.int .i64 p, .int .u64 i] 92)) bt bs most n s := h.mod ((Mod.refl (fun _ => False) w).alloc _) (fun e => e) (fun e => e)
  have hf0 : (Tab.at_ s (Tab.find home s (p, i))).isSome = false := by
    rw [(Tab.find_none (hok.home_lt _) hok.room habs).2.1]; rfl
  have HF := Lib.hid hf0
  have hr := hok.room
  clear habs hf0 hok
  go_enter Try.func61, Try.ntmps61
  go_wp2_with fail
  refine (hasW _ _ _ _ _ _ _ _ hA hL (by omega) hr).mono ?_
  rintro e w1 ⟨rfl, m1⟩
  rw [HF.out]
  have hmem := hA.mod m1 (fun e => e) (fun e => e)
  have htop := hmem.top.cell
  have m2 : Mod (fun _ => False) w w1 := ((Mod.refl (fun _ => False) w).alloc _).trans m1 (fun _ _ h => h)
  clear m1
  go_wp2_with fail
  go_quiet (fail)
  go_wp2
  go_ret
  exact ⟨rfl, m2.drewN _⟩
theorem putNone (p i : Int) (x : Nat) (w : World) :
    Calls Try.prog 61 #[.pointer none, .agg #[.int .i64 p, .int .u64 i], .pointer (some ⟨x, 0, none⟩)] w fun e w' => e = .returned (.int .i64 4) ∧ Mod (fun _ => False) w w' := by
  go_enter Try.func61, Try.ntmps61
  go_wp2_with fail
  refine (hasNone _ _ _).mono ?_
  rintro e w1 ⟨rfl, m1⟩
  have m2 : Mod (fun _ => False) w w1 := ((Mod.refl (fun _ => False) w).alloc _).trans m1 (fun _ _ h => h)
  clear m1
  go_wp2_with fail
  go_quiet (fail)
  go_wp2
  go_ret
  exact ⟨rfl, m2.drewN _⟩
end Go.Proofs.Ytddnlbkocmpffaa.TabBuf
namespace Go.Proofs.Ytddnlbkocmpffaa.TabBuf
open Go.RowKit
set_option linter.unusedVariables false
set_option maxHeartbeats 4000000
set_option maxRecDepth 100000
/-- A slot emptied. -/
theorem Mem.clear {w : World} {bt bs : Nat} {most n : Int} {s : List (Option ((Int × Int) × Nat))} (h : Mem w bt bs most n s) {i : Nat} (hi : i < s.length) (hne : bt ≠ bs) :
    Mem ((((w.setCell ⟨bs, i * 4, none⟩ (.bool false)).setCell ⟨bs, i * 4 + 1, none⟩ (.int .i64 0)).setCell ⟨bs, i * 4 + 2, none⟩ (.int .u64 0)).setCell ⟨bs, i * 4 + 3, none⟩ (.pointer none)) bt bs most n (s.set i none) := by
  refine ⟨?_, ?_⟩
  · have := (((h.top.setOther (a := ⟨bs, i * 4, none⟩) hne (.bool false)).setOther (a := ⟨bs, i * 4 + 1, none⟩) hne (.int .i64 0)).setOther (a := ⟨bs, i * 4 + 2, none⟩) hne (.int .u64 0)).setOther (a := ⟨bs, i * 4 + 3, none⟩) hne (.pointer none)
    rw [List.length_set]
    exact this
  · have := (((h.row.set (i * 4) (.bool false)).set (i * 4 + 1) (.int .i64 0)).set (i * 4 + 2) (.int .u64 0)).set (i * 4 + 3) (.pointer none)
    rw [flat_set s hi none _ _ _ _ rfl] at this
    exact this
/-- A slot filled. -/
theorem Mem.fill {w : World} {bt bs : Nat} {most n : Int} {s : List (Option ((Int × Int) × Nat))} (h : Mem w bt bs most n s) {i : Nat} (hi : i < s.length) (hne : bt ≠ bs) (p k : Int) (x : Nat) :
    Mem ((((w.setCell ⟨bs, i * 4, none⟩ (.bool true)).setCell ⟨bs, i * 4 + 1, none⟩ (.int .i64 p)).setCell ⟨bs, i * 4 + 2, none⟩ (.int .u64 k)).setCell ⟨bs, i * 4 + 3, none⟩ (.pointer (some ⟨x, 0, none⟩))) bt bs most n (s.set i (some ((p, k), x))) := by
  refine ⟨?_, ?_⟩
  · have := (((h.top.setOther (a := ⟨bs, i * 4, none⟩) hne (.bool true)).setOther (a := ⟨bs, i * 4 + 1, none⟩) hne (.int .i64 p)).setOther (a := ⟨bs, i * 4 + 2, none⟩) hne (.int .u64 k)).setOther (a := ⟨bs, i * 4 + 3, none⟩) hne (.pointer (some ⟨x, 0, none⟩))
    rw [List.length_set]
    exact this
  · have := (((h.row.set (i * 4) (.bool true)).set (i * 4 + 1) (.int .i64 p)).set (i * 4 + 2) (.int .u64 k)).set (i * 4 + 3) (.pointer (some ⟨x, 0, none⟩))
    rw [flat_set s hi (some ((p, k), x)) _ _ _ _ rfl] at this
    exact this
theorem Mem.count {w : World} {bt bs : Nat} {most n : Int} {s : List (Option ((Int × Int) × Nat))} (h : Mem w bt bs most n s) (hne : bs ≠ bt) (m : Int) : Mem (w.setCell ⟨bt, 1, none⟩ (.int .i64 m)) bt bs most m s :=
  ⟨h.top.set 1 _, h.row.setOther (a := ⟨bt, 1, none⟩) hne _⟩
theorem deleteNone (p i : Int) (w : World) :
    Calls Try.prog 66 #[.pointer none, .agg #[.int .i64 p, .int .u64 i]] w fun e w' => e = .returned (.int .i64 5) ∧ Mod (fun _ => False) w w' := by
  go_enter Try.func66, Try.ntmps66
  go_wp2_with fail
  refine (hasNone _ _ _).mono ?_
  rintro e w1 ⟨rfl, m1⟩
  have m2 : Mod (fun _ => False) w w1 := ((Mod.refl (fun _ => False) w).alloc _).trans m1 (fun _ _ h => h)
  clear m1
  go_wp2
  go_ret
  exact ⟨rfl, m2⟩
theorem deleteNo (bt bs : Nat) (most n : Int) (s : List (Option ((Int × Int) × Nat))) (p i : Int) (w : World) (h : Mem w bt bs most n s) (hok : Tab.Ok home s) (hL2 : s.length ≤ 4294967296) (habs : ∀ v, ¬ Tab.has s (p, i) v) :
    Calls Try.prog 66 #[.pointer (some ⟨bt, 0, none⟩), .agg #[.int .i64 p, .int .u64 i]] w fun e w' => e = .returned (.int .i64 5) ∧ Mod (fun _ => False) w w' := by
  have hL : 1 ≤ s.length := by obtain ⟨i, hi, _⟩ := hok.room; omega
  have hA : Mem (w.alloc (.cells #[.int .i64 p, .int .u64 i] 92)) bt bs most n s := h.mod ((Mod.refl (fun _ => False) w).alloc _) (fun e => e) (fun e => e)
  have hf0 : (Tab.at_ s (Tab.find home s (p, i))).isSome = false := by
    rw [(Tab.find_none (hok.home_lt _) hok.room habs).2.1]; rfl
  have HF := Lib.hid hf0
  have hr := hok.room
  clear habs hf0 hok
  go_enter Try.func66, Try.ntmps66
  go_wp2_with fail
  refine (hasW _ _ _ _ _ _ _ _ hA hL (by omega) hr).mono ?_
  rintro e w1 ⟨rfl, m1⟩
  rw [HF.out]
  have m2 : Mod (fun _ => False) w w1 := ((Mod.refl (fun _ => False) w).alloc _).trans m1 (fun _ _ h => h)
  clear m1
  go_wp2
  go_ret
  exact ⟨rfl, m2⟩
theorem deleteW (bt bs : Nat) (most n : Int) (s : List (Option ((Int × Int) × Nat))) (p i : Int) (w : World) (h : Mem w bt bs most n s) (hok : Tab.Ok home s) (hL2 : s.length ≤ 4294967296) (hne : bt ≠ bs) (hn1 : 1 ≤ n) (hn2 : n ≤ 100000) {v : Nat} {R : Nat} (hR : Tab.at_ s R = some ((p, i), v)) :
    Calls Try.prog 66 #[.pointer (some ⟨bt, 0, none⟩), .agg #[.int .i64 p, .int .u64 i]] w fun e w' => e = .returned (.int .i64 0) ∧ Mem w' bt bs most (n - 1) (Tab.mend home s.length (s.set R none) (Tab.nx s.length R)) ∧ Mod (fun k => k = bt ∨ k = bs) w w' := by
  have hL : 1 ≤ s.length := by obtain ⟨i, hi, _⟩ := hok.room; omega
  have hA : Mem (w.alloc (.cells #[.int .i64 p, .int .u64 i] 92)) bt bs most n s := h.mod ((Mod.refl (fun _ => False) w).alloc _) (fun e => e) (fun e => e)
  have hRl := Tab.at_lt hR
  have hfi := Tab.find_has hok hR
  obtain ⟨q, hq1, hq2, hq3⟩ := hok.mid hR
  have hr := hok.room
  have HF := Lib.hid hfi
  have HA := Lib.hid hR
  have hlt := h.top.lt
  have hls := h.row.lt
  have hneT := hne.symm
  have hsL : (s.set R none).length = s.length := by simp
  have hd0 := hq1
  generalize hfin : Tab.mend home s.length (s.set R none) (Tab.nx s.length R) = Fin
  have HFIN := Lib.hid hfin
  clear hfi hR hok hq2 hq3 hfin
  go_enter Try.func66, Try.ntmps66
  go_wp2_with fail
  refine (hasW _ _ _ _ _ _ _ _ hA hL (by omega) hr).mono ?_
  rintro e w1 ⟨rfl, m1⟩
  rw [HF.out, HA.out]
  simp only [Option.isSome_some]
  have hmem := hA.mod m1 (fun e => e) (fun e => e)
  have htop := hmem.top.cell
  have hft := hmem.top.free
  have hfr := hmem.row.free
  obtain ⟨s0, s1, s2, s3⟩ := hmem.slot hRl
  rw [HA.out] at s0 s1 s2 s3
  simp only [enc, List.getElem?_cons_zero, List.getElem?_cons_succ] at s0 s1 s2 s3
  have m2 : Mod (fun k => k = bt ∨ k = bs) w w1 := (((Mod.refl (fun _ => False) w).alloc _).trans m1 (fun _ _ h => h)).mono (fun _ _ h => h.elim)
  have hwsz := m2.size
  clear m1 hA h hr
  have hm2 := ((hmem.clear hRl hne).count hneT (n - 1))
  have m3 := ((m2.four (b := bs) (fun _ => .inr rfl) (R * 4) (R * 4 + 1) (R * 4 + 2) (R * 4 + 3) (.bool false) (.int .i64 0) (.int .u64 0) (.pointer none))).setCell (p := ⟨bt, 1, none⟩) (fun _ => .inl rfl) (.int .i64 (n - 1))
  have HSL := Lib.hid hsL
  clear hsL
  have HQ := Lib.hid hq1
  clear hq1 hd0
  go_wp2_with fail
  clear s0 s1 s2 s3 htop hft hfr
  go_loopw [5] (fun x wr => ∃ (c : Nat) (s1 : List (Option ((Int × Int) × Nat))) (f : Nat), x = .int .i64 c ∧ Hid (s1.length = s.length) ∧ Tab.Mid home s1 c q ∧ Tab.dist s.length c q < f ∧ Hid (Tab.mend home f s1 c = Fin) ∧ Mem wr bt bs most (n - 1) s1 ∧ Mod (fun k => k = bt ∨ k = bs) w wr) (fun x _ => Tab.dist s.length (intOf x).toNat q)
  case atStart => exact ⟨Tab.nx s.length R, _, s.length, by rw [nx_val], HSL, HQ.out, by have := HQ.out.q_lt; have := HQ.out.p_lt; rw [HSL.out] at *; unfold Tab.dist; split <;> omega, HFIN, hm2, m3⟩
  case round =>
    obtain ⟨c, s1, f, rfl, hl1, hmid, hdf, hmend, hm, hM⟩ := hrel
    clear hm2 m3 m2 hmem
    have hcl := hmid.p_lt
    have htop := hm.top.cell
    rw [hl1.out] at htop
    obtain ⟨t0, t1, t2, t3⟩ := hm.slot hcl
    rcases hat : Tab.at_ s1 c with _ | ⟨⟨p', i'⟩, x⟩
    · rw [hat] at t0
      simp only [enc, List.getElem?_cons_zero] at t0
      have hfin : s1 = Fin := by
        have := hmend.out
        cases f with
        | zero => omega
        | succ f => rw [Tab.mend, hat] at this; simpa using this
      have HX := Lib.hid hfin
      clear t1 t2 t3 hat hfin hmend hdf
      rw [hl1.out] at hcl
      go_wp2
      go_ret
      exact ⟨rfl, by rw [← HX.out]; exact hm, hM⟩
    · rw [hat] at t0 t1 t2 t3
      simp only [enc, List.getElem?_cons_zero, List.getElem?_cons_succ] at t0 t1 t2 t3
      obtain ⟨k1, k2, k3, k4, k5⟩ := hmid.step hat
      have hagain : Tab.again home s1 c = Tab.put home (s1.set c none) (p', i') x := by unfold Tab.again; rw [hat]
      have hmend2 : ∃ g, f = g + 1 ∧ Tab.mend home g (Tab.again home s1 c) (Tab.nx s.length c) = Fin := by
        have := hmend.out
        cases f with
        | zero => omega
        | succ f => rw [Tab.mend, hat, hl1.out] at this; exact ⟨f, rfl, by simpa using this⟩
      obtain ⟨g, rfl, hmend2⟩ := hmend2
      rw [hl1.out] at k1 k4
      have hR1 : Tab.find home (s1.set c none) (p', i') < (s1.set c none).length := Tab.find_lt (by rw [List.length_set]; exact hmid.home_lt _) (by rw [List.length_set]; exact k5)
      have hR2 : Tab.at_ (s1.set c none) (Tab.find home (s1.set c none) (p', i')) = none := by
        refine (Tab.find_none (by rw [List.length_set]; exact hmid.home_lt _) (by rw [List.length_set]; exact k5) (fun v ⟨j, hj⟩ => ?_)).2.1
        rw [Tab.at_set hcl] at hj
        split at hj
        · cases hj
        · rename_i hcj; exact hcj (hmid.once c j _ _ _ hat hj)
      rw [hagain] at k1 hmend2
      unfold Tab.put at k1 hmend2
      have hroom : ∃ i, i < (s1.set c none).length ∧ Tab.at_ (s1.set c none) i = none := by rw [List.length_set]; exact k5
      generalize hRe : Tab.find home (s1.set c none) (p', i') = r at *
      have HRe := Lib.hid hRe
      have HM := Lib.hid hmend2
      have HK4 := Lib.hid k4
      have hfr := hm.row.free
      have hls1 := hm.row.lt
      have hlt1 := hm.top.lt
      have hcl' : c < s.length := by rw [← hl1.out]; exact hcl
      obtain ⟨wc, hwc⟩ : ∃ wc, wc = (((wr.setCell ⟨bs, c * 4, none⟩ (.bool false)).setCell ⟨bs, c * 4 + 1, none⟩ (.int .i64 0)).setCell ⟨bs, c * 4 + 2, none⟩ (.int .u64 0)).setCell ⟨bs, c * 4 + 3, none⟩ (.pointer none) := ⟨_, rfl⟩
      have hwcs : wc.heap.size = wr.heap.size := by rw [hwc]; simp
      have hmc : Mem wc bt bs most (n - 1) (s1.set c none) := by rw [hwc]; exact hm.clear hcl hne
      have hMc : Mod (fun k => k = bt ∨ k = bs) w wc := by rw [hwc]; exact hM.four (fun _ => .inr rfl) _ _ _ _ _ _ _ _
      have HWC := Lib.hid hwc
      clear hwc
      have hbx : wr.heap.size ≠ bs := by omega
      clear hRe hmend2 hmend k4 hat hagain k2 k3 k5
      go_wp2_with fail
      rw [← HWC.out]
      have hxc : Blk (wc.alloc (.cells #[.bool true, .int .i64 p', .int .u64 i', .pointer (some ⟨x, 0, none⟩)] 144)) wr.heap.size 144 #[.bool true, .int .i64 p', .int .u64 i', .pointer (some ⟨x, 0, none⟩)] := Blk.newAt hwcs _ _
      have hmx := hmc.mod ((Mod.refl (fun _ => False) wc).alloc (.cells #[.bool true, .int .i64 p', .int .u64 i', .pointer (some ⟨x, 0, none⟩)] 144)) (fun e => e) (fun e => e)
      have hMx := hMc.alloc (.cells #[.bool true, .int .i64 p', .int .u64 i', .pointer (some ⟨x, 0, none⟩)] 144)
      generalize World.alloc wc _ = wx at hxc hmx hMx ⊢
      clear hwcs hmc hMc t0 t1 t2 t3 htop hfr HWC
      have hl2 : (s1.set c none).length = s.length := by rw [List.length_set]; exact hl1.out
      have hf : ∀ (y : Later wx), Calls Try.prog 81 #[.pointer (some ⟨bt, 0, none⟩), .agg #[.int .i64 p', .int .u64 i']] y.world fun e w' => e = .returned (.int .i64 r) ∧ Mod (fun _ => False) y.world w' := fun y => by
        have := findW bt bs most (n - 1) (s1.set c none) p' i' y.world (hmx.later y) (by omega) (by omega) hroom
        rw [HRe.out] at this
        exact this
      have HFD := Lib.hid hf
      clear hf
      have hT := fun (y : Later wx) => (hmx.later y).top.cell
      have hK := fun (y : Later wx) => (hxc.later y).cell
      rw [hl2] at hT hR1
      have hLL := Lib.hid hl2
      clear hl2
      refine region_later_tail 10 (by kernel_rfl) (by kernel_rfl) ?_
      simp only [List.take_succ_cons, List.take_zero, List.drop_succ_cons, List.drop_zero]
      repeat (go_big_quiet_step ((go_at_call 81; exact later_call (HFD.out _))))
      refine wpQuiet_nil ?_
      intro _ hw'
      obtain ⟨y, hw''⟩ := hw'
      subst hw''
      have hfr := (hmx.later y).row.free
      have htop := (hmx.later y).top.cell
      rw [hLL.out] at htop
      obtain ⟨t0, t1, t2, t3⟩ := (hmx.later y).slot (show r < (s1.set c none).length by rw [hLL.out]; exact hR1)
      rw [hR2] at t0 t1 t2 t3
      simp only [enc, List.getElem?_cons_zero, List.getElem?_cons_succ] at t0 t1 t2 t3
      have hmf := (hmx.later y).fill (show r < (s1.set c none).length by rw [hLL.out]; exact hR1) hne p' i' x
      have hMf := (hMx.trans y.mod (fun _ _ h => h.elim)).four (b := bs) (fun _ => .inr rfl) (r * 4) (r * 4 + 1) (r * 4 + 2) (r * 4 + 3) (.bool true) (.int .i64 p') (.int .u64 i') (.pointer (some ⟨x, 0, none⟩))
      clear hT hK
      go_wp2
      go_roundw
      case rel => exact ⟨Tab.nx s.length c, _, g, by rw [← nx_val], (by rw [List.length_set]; exact hLL.out : List.length _ = s.length), k1, by have := HK4.out; omega, HM.out, hmf, hMf⟩
      case measure => simp [intOf]; rw [nx_val, Int.toNat_natCast]; have := HK4.out; omega
end Go.Proofs.Ytddnlbkocmpffaa.TabBuf
namespace Go.Proofs.Ytddnlbkocmpffaa.TabBuf
open Go.RowKit
set_option linter.unusedVariables false
/-- A table in memory that holds the map m, of n things. -/
def Tb (w : World) (bt bs : Nat) (most n : Int) (m : Int × Int → Option (Nat)) : Prop :=
  ∃ s, Mem w bt bs most n s ∧ Tab.Ok home s ∧ (Tab.cnt s : Int) = n ∧ 2 * n ≤ s.length ∧ 8 ≤ s.length ∧ s.length ≤ 400008 ∧ 1 ≤ most ∧ most ≤ 100000 ∧ n ≤ most ∧ bt ≠ bs ∧ ∀ k v, Tab.has s k v ↔ m k = some v
theorem Tb.mod {S : Nat → Prop} {w w' : World} (d : Mod S w w') {bt bs : Nat} {most n : Int} {m : Int × Int → Option (Nat)} (h : Tb w bt bs most n m) (h1 : ¬ S bt) (h2 : ¬ S bs) : Tb w' bt bs most n m := by
  obtain ⟨s, h0, hr⟩ := h
  exact ⟨s, h0.mod d h1 h2, hr⟩
theorem Tb.lt {w : World} {bt bs : Nat} {most n : Int} {m : Int × Int → Option (Nat)} (h : Tb w bt bs most n m) : bt < w.heap.size ∧ bs < w.heap.size ∧ bt ≠ bs := by
  obtain ⟨s, h0, h1, h2, h3, h4, h5, h6, h7, h8, h9, _⟩ := h
  exact ⟨h0.top.lt, h0.row.lt, h9⟩
theorem Tb.bd {w : World} {bt bs : Nat} {most n : Int} {m : Int × Int → Option (Nat)} (h : Tb w bt bs most n m) : 0 ≤ n ∧ n ≤ most ∧ 1 ≤ most ∧ most ≤ 100000 := by
  obtain ⟨s, h0, h1, h2, h3, h4, h5, h6, h7, h8, h9, _⟩ := h
  omega
theorem newT (most : Int) (w : World) (h1 : 1 ≤ most) (h2 : most ≤ 100000) :
    Calls Try.prog 33 #[.int .i64 most] w fun e w' => ∃ bt bs, e = .returned (.tuple #[.pointer (some ⟨bt, 0, none⟩), .int .i64 0]) ∧ Tb w' bt bs most 0 (fun _ => none) ∧ w.heap.size ≤ bt ∧ w.heap.size ≤ bs ∧ Mod (fun _ => False) w w' := by
  refine (newW most w h1 h2).mono ?_
  rintro e w' ⟨bt, bs, rfl, hm, hbs, hbt, hd⟩
  refine ⟨bt, bs, rfl, ⟨_, hm, Tab.ok_replicate (fun k L hL => home_lt k hL) (by omega), by rw [Tab.cnt_replicate]; rfl, by simp, by simp, by simp, h1, h2, by omega, by omega, fun k v => ⟨fun ⟨j, hj⟩ => (by rw [Tab.at_replicate] at hj; cases hj), fun h => (by cases h)⟩⟩, by omega, hbs, hd⟩
/-- What Get answers. -/
def val (o : Option (Nat)) : Value := match o with | none => .pointer none | some x => .pointer (some ⟨x, 0, none⟩)
theorem getT (bt bs : Nat) (most n : Int) (m : Int × Int → Option (Nat)) (p i : Int) (w : World) (h : Tb w bt bs most n m) :
    Calls Try.prog 56 #[.pointer (some ⟨bt, 0, none⟩), .agg #[.int .i64 p, .int .u64 i]] w fun e w' => e = .returned (.tuple #[val (m (p, i)), .bool (m (p, i)).isSome]) ∧ Mod (fun _ => False) w w' := by
  obtain ⟨s, h0, h1, h2, h3, h4, h5, h6, h7, h8, h9, h10⟩ := h
  refine (getW bt bs most n s p i w h0 (by omega) (by omega) h1.room).mono ?_
  rintro e w' ⟨rfl, hd⟩
  refine ⟨?_, hd⟩
  rcases Tab.find_at h1 (p, i) with ⟨v, hv⟩ | ⟨hn, hno⟩
  · rw [hv, (h10 _ _).1 ⟨_, hv⟩]; rfl
  · have : m (p, i) = none := by
      cases e : m (p, i) with
      | none => rfl
      | some v => exact absurd ((h10 _ _).2 e) (hno v)
    rw [hn, this]; rfl
theorem lenT (bt bs : Nat) (most n : Int) (m : Int × Int → Option (Nat)) (w : World) (h : Tb w bt bs most n m) :
    Calls Try.prog 41 #[.pointer (some ⟨bt, 0, none⟩)] w fun e w' => e = .returned (.int .i64 n) ∧ w = w' := by
  obtain ⟨s, h0, _⟩ := h
  exact lenW bt bs most n s w h0
theorem putThereT (bt bs : Nat) (most n : Int) (m : Int × Int → Option (Nat)) (p i : Int) (x : Nat) (w : World) (h : Tb w bt bs most n m) (hm : (m (p, i)).isSome = true) :
    Calls Try.prog 61 #[.pointer (some ⟨bt, 0, none⟩), .agg #[.int .i64 p, .int .u64 i], .pointer (some ⟨x, 0, none⟩)] w fun e w' => e = .returned (.int .i64 6) ∧ Mod (fun _ => False) w w' := by
  obtain ⟨s, h0, h1, h2, h3, h4, h5, h6, h7, h8, h9, h10⟩ := h
  obtain ⟨v, hv⟩ := Option.isSome_iff_exists.1 hm
  exact putThere bt bs most n s p i x w h0 h1 (by omega) ((h10 _ _).2 hv)
theorem putFullT (bt bs : Nat) (most n : Int) (m : Int × Int → Option (Nat)) (p i : Int) (x : Nat) (w : World) (h : Tb w bt bs most n m) (hm : m (p, i) = none) (hn : most ≤ n) :
    Calls Try.prog 61 #[.pointer (some ⟨bt, 0, none⟩), .agg #[.int .i64 p, .int .u64 i], .pointer (some ⟨x, 0, none⟩)] w fun e w' => e = .returned (.int .i64 4) ∧ Mod (fun _ => False) w w' := by
  obtain ⟨s, h0, h1, h2, h3, h4, h5, h6, h7, h8, h9, h10⟩ := h
  exact putFull bt bs most n s p i x w h0 h1 (by omega) (fun v hv => by rw [(h10 _ _).1 hv] at hm; cases hm) hn
theorem putNewT (bt bs : Nat) (most n : Int) (m : Int × Int → Option (Nat)) (p i : Int) (x : Nat) (w : World) (h : Tb w bt bs most n m) (hm : m (p, i) = none) (hn : n < most) :
    Calls Try.prog 61 #[.pointer (some ⟨bt, 0, none⟩), .agg #[.int .i64 p, .int .u64 i], .pointer (some ⟨x, 0, none⟩)] w fun e w' => e = .returned (.int .i64 0) ∧ ∃ bq, (bq = bs ∨ w.heap.size ≤ bq) ∧ Tb w' bt bq most (n + 1) (fun k => if k = (p, i) then some x else m k) ∧ Mod (fun k => k = bt ∨ k = bs) w w' := by
  obtain ⟨s, h0, h1, h2, h3, h4, h5, h6, h7, h8, h9, h10⟩ := h
  have habs : ∀ v, ¬ Tab.has s (p, i) v := fun v hv => by rw [(h10 _ _).1 hv] at hm; cases hm
  have hblt := h0.top.lt
  by_cases hg : 2 * (n + 1) ≤ s.length
  · have hf0 := (Tab.find_none (h1.home_lt _) h1.room habs).2.1
    refine (putTail bt bs most n s p i x w h0 (by omega) (by omega) h1.room h9 hf0 hn h7 (by omega) hg).mono ?_
    rintro e w' ⟨rfl, hm', hd⟩
    refine ⟨rfl, bs, .inl rfl, ⟨_, hm', Tab.put_ok h1 habs (by omega), by rw [Tab.put_cnt h1 habs]; omega, by rw [Tab.put_length]; omega, by rw [Tab.put_length]; omega, by rw [Tab.put_length]; omega, h6, h7, by omega, h9, fun k v => ?_⟩, hd⟩
    rw [Tab.put_has h1 habs]
    show _ ↔ (if k = (p, i) then some x else m k) = some v
    by_cases hk : k = (p, i)
    · subst hk
      rw [if_pos rfl]
      exact ⟨fun h => h.elim (fun h => by rw [h.2]) (fun h => absurd h (habs v)), fun h => .inl ⟨rfl, by injection h with h; exact h.symm⟩⟩
    · rw [if_neg hk, h10]
      exact ⟨fun h => h.elim (fun h => absurd h.1 hk) id, .inr⟩
  · refine (putGrow bt bs most n s p i x w h0 h1 (by omega) h9 habs hn h7 (by omega) (by omega)).mono ?_
    rintro e w' ⟨rfl, bq, hbq, hm', hd⟩
    obtain ⟨t1, t2, t3⟩ := Tab.refill_take (home := home) (fun k L hL => home_lt k hL) h1 s.length
    rw [List.take_length] at t1 t2 t3
    have hl2 : (Tab.refill home (List.replicate (2 * s.length) none) s).length = 2 * s.length := by rw [Tab.refill_length, List.length_replicate]
    have habs2 : ∀ v, ¬ Tab.has (Tab.refill home (List.replicate (2 * s.length) none) s) (p, i) v := fun v hv => habs v ((t2 _ _).1 hv)
    have hcl := Tab.cnt_le s
    refine ⟨rfl, bq, .inr hbq, ⟨_, hm', Tab.put_ok t1 habs2 (by omega), by rw [Tab.put_cnt t1 habs2]; omega, by rw [Tab.put_length]; omega, by rw [Tab.put_length]; omega, by rw [Tab.put_length]; omega, h6, h7, by omega, by omega, fun k v => ?_⟩, hd.mono (fun _ _ h => .inl h)⟩
    rw [Tab.put_has t1 habs2, t2]
    show _ ↔ (if k = (p, i) then some x else m k) = some v
    by_cases hk : k = (p, i)
    · subst hk
      rw [if_pos rfl]
      exact ⟨fun h => h.elim (fun h => by rw [h.2]) (fun h => absurd h (habs v)), fun h => .inl ⟨rfl, by injection h with h; exact h.symm⟩⟩
    · rw [if_neg hk, h10]
      exact ⟨fun h => h.elim (fun h => absurd h.1 hk) id, .inr⟩
theorem deleteNoT (bt bs : Nat) (most n : Int) (m : Int × Int → Option (Nat)) (p i : Int) (w : World) (h : Tb w bt bs most n m) (hm : m (p, i) = none) :
    Calls Try.prog 66 #[.pointer (some ⟨bt, 0, none⟩), .agg #[.int .i64 p, .int .u64 i]] w fun e w' => e = .returned (.int .i64 5) ∧ Mod (fun _ => False) w w' := by
  obtain ⟨s, h0, h1, h2, h3, h4, h5, h6, h7, h8, h9, h10⟩ := h
  exact deleteNo bt bs most n s p i w h0 h1 (by omega) (fun v hv => by rw [(h10 _ _).1 hv] at hm; cases hm)
theorem deleteT (bt bs : Nat) (most n : Int) (m : Int × Int → Option (Nat)) (p i : Int) (w : World) (h : Tb w bt bs most n m) (hm : (m (p, i)).isSome = true) :
    Calls Try.prog 66 #[.pointer (some ⟨bt, 0, none⟩), .agg #[.int .i64 p, .int .u64 i]] w fun e w' => e = .returned (.int .i64 0) ∧ Tb w' bt bs most (n - 1) (fun k => if k = (p, i) then none else m k) ∧ Mod (fun k => k = bt ∨ k = bs) w w' := by
  obtain ⟨s, h0, h1, h2, h3, h4, h5, h6, h7, h8, h9, h10⟩ := h
  obtain ⟨v, hv⟩ := Option.isSome_iff_exists.1 hm
  obtain ⟨R, hR⟩ := (h10 _ _).2 hv
  obtain ⟨q, q1, q2, q3⟩ := h1.mid hR
  have hql := q1.q_lt
  have hpl := q1.p_lt
  rw [List.length_set] at hql hpl
  have hms := Tab.mend_spec (q := q) s.length (Tab.nx s.length R) (s.set R none) q1 (by rw [List.length_set]; unfold Tab.dist; split <;> omega)
  have hlen : (Tab.mend home s.length (s.set R none) (Tab.nx s.length R)).length = s.length := by rw [Tab.mend_length, List.length_set]
  refine (deleteW bt bs most n s p i w h0 h1 (by omega) h9 (by omega) (by omega) hR).mono ?_
  rintro e w' ⟨rfl, hm', hd⟩
  refine ⟨rfl, ⟨_, hm', hms.1, by rw [hms.2.2]; omega, by rw [hlen]; omega, by rw [hlen]; omega, by rw [hlen]; omega, h6, h7, by omega, h9, fun k v => ?_⟩, hd⟩
  rw [hms.2.1, q2]
  show _ ↔ (if k = (p, i) then none else m k) = some v
  by_cases hk : k = (p, i)
  · subst hk
    rw [if_pos rfl]
    exact ⟨fun h => absurd rfl h.2, fun h => by cases h⟩
  · rw [if_neg hk, h10]
    exact ⟨fun h => h.1, fun h => ⟨h, hk⟩⟩
end Go.Proofs.Ytddnlbkocmpffaa.TabBuf
