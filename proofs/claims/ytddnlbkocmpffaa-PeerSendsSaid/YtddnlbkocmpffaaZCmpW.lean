/- How numbers compare: the library's cmp; worlds that only grew. -/
import Derived.Test.YtddnlbkocmpffaaZG0
import Derived.Test.YtddnlbkocmpffaaRows
import Derived.Test.YtddnlbkocmpffaaZRow2
import Derived.Test.YtddnlbkocmpffaaZG7
import Derived.WalkKit
import Derived.Lib.Hide
import Derived.BigQuiet
import Derived.Shelf.SlSortCmp.Kit1
import Derived.Deep.DrawnRows
import Derived.Deep.CutBlock
import Derived.WalkLawsBesides
namespace Go.Proofs.Ytddnlbkocmpffaa
open Go.RowKit Go.Sort
set_option linter.unusedVariables false
set_option maxHeartbeats 2000000
set_option maxRecDepth 100000
attribute [local go_sem ↓] Go.wp_at_zero Go.wp_at_succ
theorem Has.atI {w : World} {B : Nat} {A : Option Addr} {n cap : Nat} {zs : List Int} (h : Has w B 1 encI (.slice A n cap) zs) {i : Nat} {x : Int} (hi : zs[i]? = some x) :
    ∃ g off, A = some ⟨g, off, none⟩ ∧ g < B ∧ w.cell? ⟨g, off + i, none⟩ = some (.int .i64 x) := by
  obtain ⟨g, off, h1, h2, h3⟩ := h.at_ encI_len hi
  refine ⟨g, off, h1, h2, ?_⟩
  have := h3 0 (by omega)
  rw [Nat.mul_one, Nat.add_zero] at this
  exact this
theorem nanI (a : Int) (w : World) : Calls Try.prog 97 #[.int .i64 a] w fun e w' => e = .returned (.bool false) ∧ w = w' := by
  have e0 : (a != a) = false := by simp
  go_enter Try.func97, Try.ntmps97
  go_wp2
  go_ret
  exact ⟨rfl, rfl⟩
theorem nanU (a : Int) (w : World) : Calls Try.prog 94 #[.int .u64 a] w fun e w' => e = .returned (.bool false) ∧ w = w' := by
  have e0 : (a != a) = false := by simp
  go_enter Try.func94, Try.ntmps94
  go_wp2
  go_ret
  exact ⟨rfl, rfl⟩
theorem compareI (a b : Int) (w : World) : Calls Try.prog 77 #[.int .i64 a, .int .i64 b] w fun e w' => e = .returned (.int .i64 (cmpZ a b)) ∧ w = w' := by
  unfold cmpZ
  by_cases h1 : a < b
  · rw [if_pos h1]
    go_enter Try.func77, Try.ntmps77
    go_wp2_with (go_at_call 97; refine (nanI _ _).mono ?_; rintro e w' ⟨rfl, rfl⟩)
    go_ret
    exact ⟨rfl, rfl⟩
  · rw [if_neg h1]
    by_cases h2 : b < a
    · rw [if_pos h2]
      go_enter Try.func77, Try.ntmps77
      go_wp2_with (go_at_call 97; refine (nanI _ _).mono ?_; rintro e w' ⟨rfl, rfl⟩)
      go_ret
      exact ⟨rfl, rfl⟩
    · rw [if_neg h2]
      go_enter Try.func77, Try.ntmps77
      go_wp2_with (go_at_call 97; refine (nanI _ _).mono ?_; rintro e w' ⟨rfl, rfl⟩)
      go_ret
      exact ⟨rfl, rfl⟩
theorem compareU (a b : Int) (w : World) : Calls Try.prog 72 #[.int .u64 a, .int .u64 b] w fun e w' => e = .returned (.int .i64 (cmpZ a b)) ∧ w = w' := by
  unfold cmpZ
  by_cases h1 : a < b
  · rw [if_pos h1]
    go_enter Try.func72, Try.ntmps72
    go_wp2_with (go_at_call 94; refine (nanU _ _).mono ?_; rintro e w' ⟨rfl, rfl⟩)
    go_ret
    exact ⟨rfl, rfl⟩
  · rw [if_neg h1]
    by_cases h2 : b < a
    · rw [if_pos h2]
      go_enter Try.func72, Try.ntmps72
      go_wp2_with (go_at_call 94; refine (nanU _ _).mono ?_; rintro e w' ⟨rfl, rfl⟩)
      go_ret
      exact ⟨rfl, rfl⟩
    · rw [if_neg h2]
      go_enter Try.func72, Try.ntmps72
      go_wp2_with (go_at_call 94; refine (nanU _ _).mono ?_; rintro e w' ⟨rfl, rfl⟩)
      go_ret
      exact ⟨rfl, rfl⟩
theorem orZ_drop {zs : List Int} {k : Nat} {x : Int} (h : zs[k]? = some x) : orZ (zs.drop k) = if x = 0 then orZ (zs.drop (k + 1)) else x := by
  have hk : k < zs.length := (List.getElem?_eq_some_iff.1 h).1
  rw [List.drop_eq_getElem_cons hk, orZ_cons]
  rw [List.getElem?_eq_getElem hk] at h
  rw [Option.some.inj h]
theorem orW (v : Value) (zs : List Int) (B : Nat) (w : World) (h : Has w B 1 encI v zs) (hl : zs.length ≤ 1000000) :
    Calls Try.prog 76 #[v] w fun e w' => e = .returned (.int .i64 (orZ zs)) ∧ w = w' := by
  obtain ⟨A, cap, rfl, hcap⟩ := h.form
  have HH := Lib.hid h
  clear h
  generalize hn : zs.length = n at *
  have HN := Lib.hid hn
  clear hn
  generalize ho : orZ zs = o
  have HO := Lib.hid ho
  clear ho
  go_enter Try.func76, Try.ntmps76
  go_wp2_with fail
  go_loop [8] (fun i => ∃ k : Nat, i = .int .i64 k ∧ k ≤ n ∧ orZ (zs.drop k) = o) (fun i => n - (intOf i).toNat)
  case atStart => exact ⟨0, rfl, by omega, HO.out⟩
  case round =>
    obtain ⟨k, rfl, hk, hd⟩ := hrel
    have HD := Lib.hid hd
    clear hd
    by_cases hkl : k < n
    · have hkx : k < zs.length := by rw [HN.out]; exact hkl
      have hx? := List.getElem?_eq_getElem hkx
      obtain ⟨g, off, rfl, _, hc⟩ := HH.out.atI hx?
      have hod := orZ_drop hx?
      generalize zs[k]'hkx = x at *
      have HOD := Lib.hid hod
      clear hod hx?
      by_cases h0 : x = 0
      · subst h0
        go_wp2_with fail
        go_round
        case rel => exact ⟨k + 1, by go_num, by omega, by rw [← HD.out, HOD.out, if_pos rfl]⟩
        case measure => simp [intOf]; omega
      · have h0' : (x != 0) = true := by simpa using h0
        go_wp2_with fail
        go_ret
        exact ⟨ret_int (by rw [← HD.out, HOD.out, if_neg h0]), rfl⟩
    · have he : o = 0 := by rw [← HD.out, List.drop_of_length_le (by rw [HN.out]; omega)]; rfl
      subst he
      go_wp2_with fail
      go_ret
      exact ⟨rfl, rfl⟩
/-- New blocks and draws alone. -/
def Grw (w w' : World) : Prop := ∃ q os, w' = Go.Sort.grow (w.drewN q) os
theorem Grw.of {w w' : World} (m : Mod (fun _ => False) w w') (hd : w.drawn ≤ w'.drawn) : Grw w w' := by
  refine ⟨w'.drawn - w.drawn, w'.heap.extract w.heap.size w'.heap.size, ?_⟩
  obtain ⟨h', t', d', o', u'⟩ := w'
  have h1 := m.os
  have h2 := m.tape
  have h3 := m.output
  have h4 := m.size
  have h5 := m.block
  simp only at h1 h2 h3 h4 h5 hd
  unfold Go.Sort.grow
  have hh : h' = w.heap ++ h'.extract w.heap.size h'.size := by
    apply Array.ext_getElem?
    intro i
    by_cases hi : i < w.heap.size
    · rw [Array.getElem?_append_left hi, h5 i hi (fun e => e)]
    · rw [Array.getElem?_append_right (by omega), Array.getElem?_extract]
      by_cases hi2 : i < h'.size
      · rw [if_pos (by omega), show w.heap.size + (i - w.heap.size) = i by omega]
      · rw [if_neg (by omega), Array.getElem?_eq_none (by omega)]
  subst h1 h2 h3
  have hd' : d' = w.drawn + (d' - w.drawn) := by omega
  show World.mk h' w.tape d' w.os w.output = World.mk (w.heap ++ h'.extract w.heap.size h'.size) w.tape (w.drawn + (d' - w.drawn)) w.os w.output
  rw [← hd', ← hh]
theorem Grw.refl (w : World) : Grw w w := ⟨0, #[], by simp [World.drewN_zero]⟩
theorem Grw.mod {w w' : World} (h : Grw w w') : Mod (fun _ => False) w w' := by
  obtain ⟨q, os, rfl⟩ := h
  refine ⟨rfl, rfl, rfl, by simp [Go.Sort.grow], fun k hk _ => ?_⟩
  show (w.heap ++ os)[k]? = _
  rw [Array.getElem?_append_left hk]
theorem Grw.drawn {w w' : World} (h : Grw w w') : w.drawn ≤ w'.drawn := by
  obtain ⟨q, os, rfl⟩ := h
  exact Nat.le_add_right _ _
theorem Grw.trans {a b c : World} (h : Grw a b) (k : Grw b c) : Grw a c := Grw.of (h.mod.trans k.mod (fun _ _ h => h)) (Nat.le_trans h.drawn k.drawn)
theorem Grw.alloc {w w' : World} (h : Grw w w') (o : Obj) : Grw w (w'.alloc o) := Grw.of (h.mod.alloc o) h.drawn
theorem Grw.drewN {w w' : World} (h : Grw w w') (n : Nat) : Grw w (w'.drewN n) := Grw.of (h.mod.drewN n) (Nat.le_trans h.drawn (Nat.le_add_right _ _))
theorem Grw.drew {w w' : World} (h : Grw w w') : Grw w w'.drew := h.drewN 1
theorem Grw.setCell {w w' : World} (h : Grw w w') {p : Addr} (hp : w.heap.size ≤ p.block) (v : Value) : Grw w (w'.setCell p v) := Grw.of (h.mod.setCell (fun e => by omega) v) h.drawn
end Go.Proofs.Ytddnlbkocmpffaa
