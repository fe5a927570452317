/- Where a key stands among cells. -/
import Derived.Test.YtkfembhladjhdaaTabA
import Derived.Test.YtkfembhladjhdaaCellP
import Derived.Test.YtkfembhladjhdaaRow2
import Derived.Test.YtkfembhladjhdaaCmpW
namespace Go.Proofs.Ytkfembhladjhdaa
open Go.RowKit Go.Sort
set_option linter.unusedVariables false
set_option maxHeartbeats 4000000
set_option maxRecDepth 100000
attribute [local go_sem ↓] Go.wp_at_zero Go.wp_at_succ
theorem keptC {w w' : World} {p : Addr} {u : Value} (m : Mod (fun _ => False) w w') (h : w.cell? p = some u) : w'.cell? p = some u := by
  rw [m.cell (World.block_lt_of_cell? _ _ h) (fun e => e)]
  exact h
/-- A cell's cells. -/
def encC (c : Cl) : List Value := [.int .i64 c.1.1, .int .u64 c.1.2, .string c.2]
theorem encC_len (c : Cl) : (encC c).length = 3 := rfl
theorem Has.atC {w : World} {B : Nat} {A : Option Addr} {n cap : Nat} {m : List Cl} (h : Has w B 3 encC (.slice A n cap) m) {i : Nat} {c : Cl} (hi : m[i]? = some c) :
    ∃ g off, A = some ⟨g, off, none⟩ ∧ g < B ∧ w.cell? ⟨g, off + i * 3, none⟩ = some (.int .i64 c.1.1) ∧ w.cell? ⟨g, off + i * 3 + 1, none⟩ = some (.int .u64 c.1.2) ∧ w.cell? ⟨g, off + i * 3 + 2, none⟩ = some (.string c.2) := by
  obtain ⟨g, off, h1, h2, h3⟩ := h.at_ encC_len hi
  have e : ∀ j, off + (i * 3 + j) = off + i * 3 + j := fun j => (Nat.add_assoc _ _ _).symm
  exact ⟨g, off, h1, h2, (e 0) ▸ h3 0 (by omega), (e 1) ▸ h3 1 (by omega), (e 2) ▸ h3 2 (by omega)⟩
/-- Is the key there? -/
def isM (m : List Cl) (k : Int × Int) : Bool := match m[atM m k]? with
  | some c => decide (c.1 = k)
  | none => false
theorem findMW (v : Value) (m : List Cl) (p i : Int) (w : World) (h : Has w w.heap.size 3 encC v m) (hl : m.length ≤ 100000) :
    Calls Try.prog 14 #[v, .agg #[.int .i64 p, .int .u64 i]] w fun e w' => e = .returned (.tuple #[.int .i64 (atM m (p, i) : Nat), .bool (isM m (p, i))]) ∧ Mod (fun _ => False) w w' := by
  obtain ⟨A, cap, rfl, hcap⟩ := h.form
  have hb := Blk.new w 29 #[.int .i64 p, .int .u64 i]
  have hm0 : Mod (fun _ => False) w (w.alloc (.cells #[.int .i64 p, .int .u64 i] 29)) := (Mod.refl _ w).alloc _
  obtain ⟨b, hbe⟩ : ∃ b, b = w.heap.size := ⟨_, rfl⟩
  rw [← hbe] at hb
  generalize hw0 : w.alloc (.cells #[.int .i64 p, .int .u64 i] 29) = w0 at *
  have HH := Lib.hid h
  have HB := Lib.hid hb
  have HM0 := Lib.hid hm0
  have HW0 := Lib.hid hw0
  have HBE := Lib.hid hbe
  clear h hb hm0 hw0 hbe
  generalize hn : m.length = n at *
  have HN := Lib.hid hn
  clear hn
  obtain ⟨R, hR⟩ : ∃ R, atM m (p, i) = R := ⟨_, rfl⟩
  obtain ⟨T, hT⟩ : ∃ T, isM m (p, i) = T := ⟨_, rfl⟩
  rw [hR, hT]
  have HR := Lib.hid hR
  have HT := Lib.hid hT
  clear hR hT
  go_enter Try.func14, Try.ntmps14
  go_wp2_with fail
  rw [HW0.out, ← HBE.out]
  go_loopw [6] (fun x wr => ∃ j : Nat, x = .int .i64 j ∧ j ≤ n ∧ (∀ (q : Nat) (c : Cl), q < j → m[q]? = some c → ltK c.1 (p, i)) ∧ Mod (fun _ => False) w0 wr) (fun x _ => n - (intOf x).toNat)
  case atStart => exact ⟨0, rfl, by omega, fun q c h => absurd h (by omega), Mod.refl _ _⟩
  case round =>
    obtain ⟨j, rfl, hj, hlt, hm⟩ := hrel
    have hkc := (HB.out.mod hm (fun e => e)).cell
    have b0 : wr.cell? ⟨b, 0, none⟩ = some (.int .i64 p) := hkc 0
    have b1 : wr.cell? ⟨b, 1, none⟩ = some (.int .u64 i) := hkc 1
    have HLT := Lib.hid hlt
    have HM := Lib.hid hm
    clear hkc hlt
    by_cases hjn : j < n
    · have hjx : j < m.length := by rw [HN.out]; exact hjn
      have hc? := List.getElem?_eq_getElem hjx
      obtain ⟨g, off, rfl, _, c0, c1, c2⟩ := (HH.out.later (HM0.out.trans hm (fun _ _ e => e)) (Nat.le_refl _)).atC hc?
      generalize m[j]'hjx = c at *
      obtain ⟨⟨p', i'⟩, s'⟩ := c
      simp only at c0 c1 c2
      have HC := Lib.hid hc?
      have hls := lessW p' i' p i
      have HLS := Lib.hid hls
      have q0 := fun x : Later wr => keptC x.mod b0
      have q1 := fun x : Later wr => keptC x.mod b1
      have q2 := fun x : Later wr => keptC x.mod c0
      have q3 := fun x : Later wr => keptC x.mod c1
      have z1 : (j : Int) < (n : Int) := by omega
      clear hls hc? hm b0 b1 c0 c1 c2
      by_cases hlk : ltK (p', i') (p, i)
      · rw [show decide (ltK (p', i') (p, i)) = true by simpa using hlk] at HLS
        have HLK := Lib.hid hlk
        clear hlk
        go_upto_region 2 with fail
        refine region_later (by kernel_rfl) (by kernel_rfl) ?_
        repeat (go_big_quiet_step ((go_at_call 28; exact later_call (HLS.out _))))
        refine wpQuiet_nil ?_
        intro _ hw'
        obtain ⟨y, hw''⟩ := hw'
        subst hw''
        have HMY := Lib.hid (HM.out.trans y.mod (fun _ _ e => e))
        clear q0 q1 q2 q3
        go_wp2_with fail
        go_roundw
        case rel => exact ⟨j + 1, by go_num, by omega, fun q c hq hc => by
          rcases Nat.lt_succ_iff_lt_or_eq.1 hq with h | h
          · exact HLT.out q c h hc
          · subst h
            rw [HC.out] at hc
            obtain rfl := Option.some.inj hc
            exact HLK.out, HMY.out⟩
        case measure => simp [intOf]; omega
      · rw [show decide (ltK (p', i') (p, i)) = false by simpa using hlk] at HLS
        have hRj : R = j := HR.out.symm.trans (atM_of (by omega) HLT.out (fun c hc => by
          rw [HC.out] at hc
          obtain rfl := Option.some.inj hc
          exact hlk))
        have hTj : T = decide ((p', i') = (p, i)) := by
          rw [← HT.out]
          unfold isM
          rw [HR.out, hRj, HC.out]
        subst hRj
        clear hlk
        by_cases hp : p' = p
        · subst hp
          by_cases hi' : i' = i
          · subst hi'
            obtain rfl : T = true := by rw [hTj]; simp
            clear hTj
            go_upto_region 2 with fail
            refine region_later (by kernel_rfl) (by kernel_rfl) ?_
            repeat (go_big_quiet_step ((go_at_call 28; exact later_call (HLS.out _))))
            refine wpQuiet_nil ?_
            intro _ hw'
            obtain ⟨y, hw''⟩ := hw'
            subst hw''
            have HMY := Lib.hid (HM0.out.trans (HM.out.trans y.mod (fun _ _ e => e)) (fun _ _ e => e))
            have r0 := q0 y
            have r1 := q1 y
            have r2 := q2 y
            have r3 := q3 y
            clear q0 q1 q2 q3
            go_wp2_with fail
            go_quiet (fail)
            go_wp2_with fail
            go_ret2
            exact ⟨rfl, HMY.out.drewN _⟩
          · obtain rfl : T = false := by rw [hTj]; simp [hi']
            have e1 : (i' == i) = false := by simpa using hi'
            clear hTj hi'
            go_upto_region 2 with fail
            refine region_later (by kernel_rfl) (by kernel_rfl) ?_
            repeat (go_big_quiet_step ((go_at_call 28; exact later_call (HLS.out _))))
            refine wpQuiet_nil ?_
            intro _ hw'
            obtain ⟨y, hw''⟩ := hw'
            subst hw''
            have HMY := Lib.hid (HM0.out.trans (HM.out.trans y.mod (fun _ _ e => e)) (fun _ _ e => e))
            have r0 := q0 y
            have r1 := q1 y
            have r2 := q2 y
            have r3 := q3 y
            clear q0 q1 q2 q3
            go_wp2_with fail
            go_quiet (fail)
            go_wp2_with fail
            go_ret2
            exact ⟨rfl, HMY.out.drewN _⟩
        · obtain rfl : T = false := by rw [hTj]; simp [hp]
          have e1 : (p' == p) = false := by simpa using hp
          clear hTj hp
          go_upto_region 2 with fail
          refine region_later (by kernel_rfl) (by kernel_rfl) ?_
          repeat (go_big_quiet_step ((go_at_call 28; exact later_call (HLS.out _))))
          refine wpQuiet_nil ?_
          intro _ hw'
          obtain ⟨y, hw''⟩ := hw'
          subst hw''
          have HMY := Lib.hid (HM0.out.trans (HM.out.trans y.mod (fun _ _ e => e)) (fun _ _ e => e))
          have r0 := q0 y
          have r1 := q1 y
          have r2 := q2 y
          have r3 := q3 y
          clear q0 q1 q2 q3
          go_wp2_with fail
          go_quiet (fail)
          go_wp2_with fail
          go_ret2
          exact ⟨rfl, HMY.out.drewN _⟩
    · obtain rfl : n = j := by omega
      have hRj : n = R := (HR.out.symm.trans (atM_of (by rw [HN.out]; exact Nat.le_refl _) HLT.out (fun c hc => by
        rw [List.getElem?_eq_none (by rw [HN.out]; exact Nat.le_refl _)] at hc
        cases hc))).symm
      have hTj : T = false := by
        rw [← HT.out]
        unfold isM
        rw [HR.out, ← hRj, List.getElem?_eq_none (by rw [HN.out]; exact Nat.le_refl _)]
      subst hRj hTj
      have z1 : ¬ (n : Int) < (n : Int) := by omega
      have HMY := Lib.hid (HM0.out.trans HM.out (fun _ _ e => e))
      clear hm
      go_wp2_with fail
      go_quiet (fail)
      go_wp2_with fail
      go_quiet (fail)
      go_wp2_with fail
      go_ret2
      exact ⟨rfl, (HMY.out.drewN _).drewN _⟩
end Go.Proofs.Ytkfembhladjhdaa
