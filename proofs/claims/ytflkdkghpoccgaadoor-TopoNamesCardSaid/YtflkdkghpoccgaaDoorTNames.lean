/- Names are all unlike; the walk of TopoNames. -/
import Derived.Test.YtflkdkghpoccgaaDoorTopoA
namespace Go.Proofs.YtflkdkghpoccgaaDoor
open Go.RowKit
set_option linter.unusedVariables false
set_option maxHeartbeats 8000000
set_option maxRecDepth 100000
/-- A net's port's name, as a list. -/
def nameL (h lv s p : Int) : List UInt8 := (nameB lv s (kindZ h lv s p).1 (kindZ h lv s p).2).data.toList
def someUnlike (l : List (List UInt8)) : Bool := match l with
  | [] => true
  | a :: r => !a.isEmpty && r.all (fun b => a != b) && someUnlike r
def allNames (h s : Nat) : List (List UInt8) := (List.range (2 * h + 2 * ((h + 1) / 2) * s)).map fun p : Nat => nameL h (((h + 1) / 2 : Nat) : Int) s p
theorem names_unlike : ∀ h, h < 9 → 2 ≤ h → ∀ s, s < 5 → 1 ≤ s → someUnlike (allNames h s) = true := by decide +kernel
theorem someUnlike_at : ∀ (l : List (List UInt8)), someUnlike l = true → (∀ (i : Nat) (a : List UInt8), l[i]? = some a → a ≠ []) ∧ ∀ (i j : Nat) (a b : List UInt8), j < i → l[i]? = some a → l[j]? = some b → a ≠ b
  | [], _ => ⟨fun i a h => by simp at h, fun i j a b _ h => by simp at h⟩
  | x :: r, h => by
    simp only [someUnlike, Bool.and_eq_true, Bool.not_eq_true', List.all_eq_true, bne_iff_ne] at h
    obtain ⟨⟨h1, h2⟩, h3⟩ := h
    obtain ⟨i1, i2⟩ := someUnlike_at r h3
    refine ⟨fun i a hi => ?_, fun i j a b hji hi hj => ?_⟩
    · cases i with
      | zero =>
        simp at hi
        subst hi
        intro e
        subst e
        simp at h1
      | succ i => exact i1 i a (by simpa using hi)
    · cases i with
      | zero => omega
      | succ i =>
        have hi' : r[i]? = some a := by simpa using hi
        cases j with
        | zero =>
          simp at hj
          subst hj
          exact fun e => h2 a (List.mem_of_getElem? hi') e.symm
        | succ j => exact i2 i j a b (by omega) hi' (by simpa using hj)
theorem bytes_ne {a b : ByteArray} (h : a ≠ b) : (a.toList == b.toList) = false := by
  rw [Bool.eq_false_iff]
  intro e
  rw [beq_iff_eq, ByteArray.toList_eq, ByteArray.toList_eq] at e
  obtain ⟨⟨x⟩⟩ := a
  obtain ⟨⟨y⟩⟩ := b
  exact h (by rw [show x = y from e])
theorem bytes_some {a : ByteArray} (h : a ≠ ⟨#[]⟩) : a.toList.isEmpty = false := by
  rw [Bool.eq_false_iff]
  intro e
  rw [List.isEmpty_iff, ByteArray.toList_eq] at e
  obtain ⟨⟨x⟩⟩ := a
  exact h (by rw [show x = [] from e])
theorem names_law {h lv s : Int} (o : Okn h lv s) : (∀ i, 0 ≤ i → i < portsZ h lv s → nameB lv s (kindZ h lv s i).1 (kindZ h lv s i).2 ≠ ⟨#[]⟩) ∧
    ∀ i j, 0 ≤ j → j < i → i < portsZ h lv s → nameB lv s (kindZ h lv s i).1 (kindZ h lv s i).2 ≠ nameB lv s (kindZ h lv s j).1 (kindZ h lv s j).2 := by
  obtain ⟨h1, h2, h3, h4, h5⟩ := o
  obtain ⟨H, rfl⟩ := Int.eq_ofNat_of_zero_le (show 0 ≤ h by omega)
  obtain ⟨S, rfl⟩ := Int.eq_ofNat_of_zero_le (show 0 ≤ s by omega)
  have hlv : lv = (((H + 1) / 2 : Nat) : Int) := by omega
  subst hlv
  have hu := names_unlike H (by omega) (by omega) S (by omega) (by omega)
  obtain ⟨u1, u2⟩ := someUnlike_at _ hu
  have hp : portsZ H (((H + 1) / 2 : Nat) : Int) S = ((2 * H + 2 * ((H + 1) / 2) * S : Nat) : Int) := by
    unfold portsZ; simp
  have hat : ∀ i : Nat, i < 2 * H + 2 * ((H + 1) / 2) * S → (allNames H S)[i]? = some (nameL H (((H + 1) / 2 : Nat) : Int) S i) := fun i hi => by
    unfold allNames
    rw [List.getElem?_map, List.getElem?_range hi]
    rfl
  refine ⟨fun i i0 i1 => ?_, fun i j j0 ji i1 => ?_⟩
  · obtain ⟨I, rfl⟩ := Int.eq_ofNat_of_zero_le i0
    intro e
    refine u1 I _ (hat I (by rw [hp] at i1; omega)) ?_
    unfold nameL
    rw [e]
  · obtain ⟨I, rfl⟩ := Int.eq_ofNat_of_zero_le (show 0 ≤ i by omega)
    obtain ⟨J, rfl⟩ := Int.eq_ofNat_of_zero_le j0
    intro e
    refine u2 I J _ _ (by omega) (hat I (by rw [hp] at i1; omega)) (hat J (by rw [hp] at i1; omega)) ?_
    unfold nameL
    rw [e]
theorem walk_namesNo (h s k : Int) (w : World) (hn : h < 2 ∨ 8 < h ∨ s < 1 ∨ 4 < s) :
    Calls Tryd.prog 5 #[.int .i64 h, .int .i64 s, .int .i64 k] w fun e w' => e = .returned (.bool true) ∧ Mod (fun _ => False) w w' := by
  have hc : h < 2 ∨ (2 ≤ h ∧ 8 < h) ∨ (2 ≤ h ∧ h ≤ 8 ∧ s < 1) ∨ (2 ≤ h ∧ h ≤ 8 ∧ 1 ≤ s ∧ 4 < s) := by omega
  clear hn
  rcases hc with h1 | ⟨h1, h2⟩ | ⟨h1, h2, h3⟩ | ⟨h1, h2, h3, h4⟩
  all_goals
    go_enter Tryd.func5, Tryd.ntmps5
    go_wp2_with fail
    refine (awakeW _).mono ?_
    rintro e w1 ⟨rfl, m1⟩
    go_wp2
    go_ret
    exact ⟨rfl, m1⟩
theorem walk_namesIn (h s k : Int) (w : World) (h1 : 2 ≤ h) (h2 : h ≤ 8) (h3 : 1 ≤ s) (h4 : s ≤ 4) :
    Calls Tryd.prog 5 #[.int .i64 h, .int .i64 s, .int .i64 k] w fun e w' => e = .returned (.bool true) ∧ Mod (fun _ => False) w w' := by
  obtain ⟨lv, hlv⟩ : ∃ lv, lv = (h + 1) / 2 := ⟨_, rfl⟩
  have ho : Okn h lv s := ⟨h1, h2, hlv, h3, h4⟩
  have hpb : 0 ≤ portsZ h lv s ∧ portsZ h lv s ≤ 48 := by
    have := portsZ_eq ho
    have := ho.m
    omega
  have hN : ∀ w : World, Calls Tryd.prog 6 #[.int .i64 h, .int .i64 s] w fun e w' => e = .returned (.tuple #[.pointer (some ⟨w.heap.size, 0, none⟩), .int .i64 0]) ∧ Nt w' w.heap.size h lv s ∧ Mod (fun _ => False) w w' := fun w => hlv ▸ newW h s w h1 h2 h3 h4
  have HN := Lib.hid hN
  clear hN hlv
  obtain ⟨n1, n2⟩ := names_law ho
  obtain ⟨hp0, hp1⟩ := hpb
  obtain ⟨N, hNN⟩ : ∃ N : Int → ByteArray, ∀ i, N i = nameB lv s (kindZ h lv s i).1 (kindZ h lv s i).2 := ⟨_, fun _ => rfl⟩
  simp only [← hNN] at n1 n2
  have hnm : ∀ (b : Nat) (i : Int) (w : World), Nt w b h lv s → Calls Tryd.prog 12 #[.pointer (some ⟨b, 0, none⟩), .int .i64 i] w fun e w' => e = .returned (.string (N i)) ∧ Mod (fun _ => False) w w' := fun b i w n => hNN i ▸ nameW b h lv s i w n
  have hpt : ∀ (b : Nat) (w : World), Nt w b h lv s → Calls Tryd.prog 14 #[.pointer (some ⟨b, 0, none⟩)] w fun e w' => e = .returned (.int .i64 (portsZ h lv s)) ∧ Mod (fun _ => False) w w' := fun b w n => portsW b h lv s w n
  generalize portsZ h lv s = P at *
  have HM := Lib.hid hnm
  have HP := Lib.hid hpt
  have N1 := Lib.hid n1
  have N2 := Lib.hid n2
  clear hnm hpt hNN n1 n2 ho
  go_enter Tryd.func5, Tryd.ntmps5
  go_wp2_with fail
  refine (HN.out _).mono ?_
  rintro e w1 ⟨rfl, n1, m1⟩
  generalize w.heap.size = b at *
  go_wp2_with fail
  go_loopw [9] (fun x wr => ∃ i : Int, x = .int .i64 i ∧ 0 ≤ i ∧ i ≤ P ∧ Nt wr b h lv s ∧ Mod (fun _ => False) w wr) (fun x _ => (P - intOf x).toNat)
  case atStart => exact ⟨0, rfl, by omega, by omega, n1, m1⟩
  case round =>
    obtain ⟨i, rfl, hi0, hi1, n2, m2⟩ := hrel
    clear n1 m1
    go_wp2_with fail
    refine (HP.out _ _ n2).mono ?_
    rintro e w3 ⟨rfl, m3⟩
    have n3 := n2.mod m3 (fun e => e)
    have m4 := m2.trans m3 (fun _ _ h => h)
    clear n2 m2 m3
    by_cases hi : i < P
    · go_wp2_with fail
      refine (HM.out _ _ _ n3).mono ?_
      rintro e w4 ⟨rfl, m5⟩
      have n4 := n3.mod m5 (fun e => e)
      have m6 := m4.trans m5 (fun _ _ h => h)
      clear n3 m4 m5
      have hne : (N i).toList.isEmpty = false := bytes_some (N1.out i hi0 hi)
      go_wp2_with fail
      go_loopw [10] (fun x wr => ∃ j : Int, x = .int .i64 j ∧ 0 ≤ j ∧ j ≤ i ∧ Nt wr b h lv s ∧ Mod (fun _ => False) w wr) (fun x _ => (i - intOf x).toNat)
      case atStart => exact ⟨0, rfl, by omega, by omega, n4, m6⟩
      case round =>
        obtain ⟨j, rfl, hj0, hj1, n5, m7⟩ := hrel
        clear n4 m6 hne
        by_cases hj : j < i
        · go_wp2_with fail
          refine (HM.out _ _ _ n5).mono ?_
          rintro e w6 ⟨rfl, m8⟩
          have n6 := n5.mod m8 (fun e => e)
          have m9 := m7.trans m8 (fun _ _ h => h)
          clear n5 m7 m8
          go_wp2_with fail
          refine (HM.out _ _ _ n6).mono ?_
          rintro e w7 ⟨rfl, m10⟩
          have n7 := n6.mod m10 (fun e => e)
          have m11 := m9.trans m10 (fun _ _ h => h)
          clear n6 m9 m10
          have hne : ((N i).toList == (N j).toList) = false := bytes_ne (N2.out i j hj0 hj hi)
          go_wp2
          go_roundw
          case rel => exact ⟨j + 1, by go_num, by omega, by omega, n7, m11⟩
          case measure => simp [intOf]; omega
        · go_wp2
          go_roundw
          case rel => exact ⟨i + 1, by go_num, by omega, by omega, n5, m7⟩
          case measure => simp [intOf]; omega
    · go_wp2_with fail
      refine (nextNone _ _ _ _).mono ?_
      rintro e w5 ⟨rfl, m5⟩
      have m6 := m4.trans m5 (fun _ _ h => h)
      clear m4 m5
      go_wp2_with fail
      refine (nameNone _ _).mono ?_
      rintro e w6 ⟨rfl, m7⟩
      have m8 := m6.trans m7 (fun _ _ h => h)
      clear m6 m7
      go_wp2_with fail
      refine (leafNone _ _).mono ?_
      rintro e w7 ⟨rfl, m9⟩
      have m10 := m8.trans m9 (fun _ _ h => h)
      clear m8 m9
      go_wp2_with fail
      refine (upNone _ _).mono ?_
      rintro e w8 ⟨rfl, m11⟩
      have m12 := m10.trans m11 (fun _ _ h => h)
      clear m10 m11
      go_wp2_with fail
      refine (portsNone _).mono ?_
      rintro e w9 ⟨rfl, m13⟩
      have m14 := m12.trans m13 (fun _ _ h => h)
      clear m12 m13
      go_wp2_with fail
      refine (leavesNone _).mono ?_
      rintro e w10 ⟨rfl, m15⟩
      have m16 := m14.trans m15 (fun _ _ h => h)
      clear m14 m15
      go_wp2_with fail
      refine (hopsNone _ _ _).mono ?_
      rintro e w11 ⟨rfl, m17⟩
      have m18 := m16.trans m17 (fun _ _ h => h)
      clear m16 m17
      go_wp2_with fail
      refine (awakeW _).mono ?_
      rintro e w12 ⟨rfl, m19⟩
      go_wp2
      go_ret
      exact ⟨rfl, m18.trans m19 (fun _ _ h => h)⟩
theorem walk_topoNames (h : Int) (wh : (Lit.int .i64 h).wf = true) (s : Int) (ws : (Lit.int .i64 s).wf = true) (k : Int) (wk : (Lit.int .i64 k).wf = true) (w : World) :
    Calls Tryd.prog 5 #[.int .i64 h, .int .i64 s, .int .i64 k] w fun e w' => e = .returned (.bool true) ∧ Below w.heap.size w w' := by
  by_cases hn : h < 2 ∨ 8 < h ∨ s < 1 ∨ 4 < s
  · exact (walk_namesNo h s k w hn).mono fun _ _ ⟨e, m⟩ => ⟨e, m.below⟩
  · exact (walk_namesIn h s k w (by omega) (by omega) (by omega) (by omega)).mono fun _ _ ⟨e, m⟩ => ⟨e, m.below⟩
end Go.Proofs.YtflkdkghpoccgaaDoor
