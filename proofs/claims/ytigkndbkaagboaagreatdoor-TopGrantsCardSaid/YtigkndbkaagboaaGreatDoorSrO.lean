/- The places of the messages that are not complete. -/
import Derived.Test.YtigkndbkaagboaaGreatDoorSrM
import Derived.WalkLawsBesides
namespace Go.Proofs.YtigkndbkaagboaaGreatDoor
open Go.RowKit
set_option linter.unusedVariables false
set_option linter.unusedSimpArgs false
set_option maxHeartbeats 2000000
set_option maxRecDepth 100000
theorem int_info : (Tryz.prog.info? 3).map (fun i => (i.zero, i.size, i.bytes)) = some (some (.int .i64 0), 1, 8) := by kernel_rfl
/-- Places, a cell each. -/
def encJ (i : Nat) : List Value := [.int .i64 (i : Int)]
theorem encJ_len (i : Nat) : (encJ i).length = 1 := rfl
theorem one_J (z : Nat) : ∀ y ∈ [Value.int .i64 (z : Int)], y.oneCell' = true := fun y hy => by
  simp at hy
  subst hy
  rfl
theorem flat_J (l : List Nat) : l.flatMap encJ = (l.map fun i : Nat => (i : Int)).flatMap encI := by
  induction l with
  | nil => rfl
  | cons z zs ih => rw [List.flatMap_cons, ih]; rfl
theorem Has.ints {w : World} {B : Nat} {v : Value} {l : List Nat} (h : Has w B 1 encJ v l) : Has w B 1 encI v (l.map fun i : Nat => (i : Int)) := by
  obtain ⟨A, cap, e, h1, h2, h3, h4⟩ := h
  refine ⟨A, cap, by rw [List.length_map]; exact e, by rw [List.length_map]; exact h1, h2, ?_, fun g e hn => h4 g e (by rwa [List.length_map] at hn)⟩
  rw [List.length_map, ← flat_J]
  exact h3
theorem Has.atJ {w : World} {B : Nat} {A : Option Addr} {n cap : Nat} {zs : List Nat} (h : Has w B 1 encJ (.slice A n cap) zs) {i : Nat} {x : Nat} (hi : zs[i]? = some x) :
    ∃ g off, A = some ⟨g, off, none⟩ ∧ g < B ∧ w.cell? ⟨g, off + i, none⟩ = some (.int .i64 (x : Int)) := by
  obtain ⟨g, off, h1, h2, h3⟩ := h.at_ encJ_len hi
  refine ⟨g, off, h1, h2, ?_⟩
  have := h3 0 (by omega)
  rw [Nat.mul_one, Nat.add_zero] at this
  exact this
theorem openW (v : Value) (ms : List Ms) (w : World) (h : Has w w.heap.size 6 encM v ms) (hl : ms.length ≤ 100000) :
    Calls Tryz.prog 41 #[v] w fun e w' => ∃ v', e = .returned v' ∧ Own w' w.heap.size 3 1 encJ v' (openL ms) ∧ Mod (fun _ => False) w w' := by
  obtain ⟨i0, hi0, hz0, hz1, hz2⟩ := info_parts int_info
  obtain ⟨A, cap, rfl, hcap⟩ := h.form
  have HH := Lib.hid h
  clear h
  unfold openL
  generalize hn : ms.length = n at *
  have HN := Lib.hid hn
  clear hn
  go_enter Tryz.func41, Tryz.ntmps41
  go_wp2_with fail
  go_loopw [2, 7] (fun o i wr => ∃ k : Nat, i = .int .i64 k ∧ k ≤ n ∧ Own wr w.heap.size 3 1 encJ o (openTo ms k) ∧ Mod (fun _ => False) w wr) (fun _ i _ => n - (intOf i).toNat)
  case atStart => exact ⟨0, rfl, by omega, Own.nil, Mod.refl _ _⟩
  case round =>
    obtain ⟨k, rfl, hk, hown, hm⟩ := hrel
    by_cases hkl : k < n
    · have hkx : k < ms.length := by rw [HN.out]; exact hkl
      have hx? := List.getElem?_eq_getElem hkx
      obtain ⟨g, off, rfl, hg, c0, c1, c2, c3, c4, c5⟩ := (HH.out.later hm (Nat.le_refl _)).atM hx?
      have hos := openTo_succ hx?
      have hol := openTo_len ms k
      generalize ms[k]'hkx = m at *
      have HOS := Lib.hid hos
      clear hos hx?
      have hMay := fun w' => mayW m w'
      unfold aggM at hMay
      have hb4 := Blk.new wr 28 #[.int .i64 m.peer, .int .u64 m.id, .int .i64 m.total, .int .i64 m.hav, .int .i64 m.granted, .int .i64 m.born]
      have HMAY := Lib.hid hMay
      have HB4 := Lib.hid hb4
      have HM := Lib.hid hm
      have HOWN := Lib.hid hown
      clear hMay hb4 hm hown
      go_wp2_with fail
      refine (HMAY.out _).mono ?_
      rintro e w5 ⟨rfl, m5⟩
      have m6 : Mod (fun _ => False) wr w5 := ((Mod.refl _ wr).alloc _).trans m5 (fun _ _ h => h)
      have hb5 := HB4.out.mod m5 (fun e => e)
      have hc5 := hb5.cell
      have M7 := Lib.hid (HM.out.trans m6 (fun _ _ h => h))
      have O7 := Lib.hid (HOWN.out.later m6)
      clear m5 m6 hb5 HOWN HM HB4
      cases hmay : mayB m with
      | false =>
        go_wp2_with fail
        go_roundw
        case rel => exact ⟨k + 1, by go_num, by omega, by rw [HOS.out, hmay]; exact O7.out, M7.out⟩
        case measure => simp [intOf]; omega
      | true =>
        by_cases hlt : m.hav < m.total
        · obtain ⟨A1, cap1, rfl, hcap1, _⟩ := O7.out.form
          have hlit := World.ownsRow_lit (base := 0) (size := 1) (e := 3) w5 #[.int .i64 (k : Int)] 1 (Nat.zero_le _) (by decide) rfl
          have HLIT := Lib.hid (Reads.of_own hlit)
          have HOWN := Lib.hid (Own.later ((Mod.refl (fun _ => False) w5).alloc (.cells #[.int .i64 (k : Int)] 3)) O7.out)
          have HBA := Lib.hid (fun q (e : (Value.slice A1 (openTo ms k).length cap1).ownBlock = some q) => O7.out.base e)
          have H1C := Lib.hid (one_J k)
          have hs5 := M7.out.size
          clear hlit
          go_wp2_with (at_builtin
                       refine wpList_append_any _ rfl (.tmp 21) (.tmp 23) _ rfl w.heap.size 3 i0 _ 1 8 Tryz.underlying36 hi0 hz0 hz1 hz2 rfl (by omega) (.slice A1 (openTo ms k).length cap1) (openTo ms k).length ((openTo ms k).flatMap encJ) rfl HOWN.out _ (some ⟨w5.heap.size, 0, none⟩) 1 1 [.int .i64 (k : Int)] rfl HLIT.out H1C.out (by simp only [maxLen]; omega) (by omega) (Nat.le_trans hs5 ((Mod.refl (fun _ => False) w5).alloc _).size) ?_
                       intro v2 w8 hown2 hgr2 hat2)
          have hown3 : Own w8 w.heap.size 3 1 encJ v2 (openTo ms (k + 1)) := by
            rw [HOS.out, hmay]
            rw [if_pos (by simp [hlt])]
            unfold Own
            rw [flat_snoc, List.length_append]
            exact hown2
          have m8 : Mod (fun _ => False) w w8 := (M7.out.alloc (.cells #[.int .i64 (k : Int)] 3)).trans (Mod.ofGrown hgr2) (fun q hq e => by
            have := HBA.out q e
            omega)
          go_roundw
          case rel => exact ⟨k + 1, by go_num, by omega, hown3, m8⟩
          case measure => simp [intOf]; omega
        · go_wp2_with fail
          go_roundw
          case rel => exact ⟨k + 1, by go_num, by omega, by rw [HOS.out, if_neg (by simp [hlt])]; exact O7.out, M7.out⟩
          case measure => simp [intOf]; omega
    · obtain rfl : n = k := by omega
      have HO := Lib.hid hown
      have HM := Lib.hid hm
      clear hown hm
      go_wp2_with fail
      go_ret
      exact ⟨_, rfl, HO.out, HM.out⟩
end Go.Proofs.YtigkndbkaagboaaGreatDoor
