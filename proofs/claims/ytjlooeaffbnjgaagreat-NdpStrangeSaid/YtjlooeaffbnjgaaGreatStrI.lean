/- engine.Core.In: frames that may not be, or are not for this host, or come from itself or from nowhere: nothing is done. -/
import Derived.Test.YtjlooeaffbnjgaaGreatWirN
import Derived.BigQuiet
import Derived.Deep.Cut
namespace Go.Proofs.YtjlooeaffbnjgaaGreat
open Go.RowKit
set_option linter.unusedVariables false
set_option linter.unusedSimpArgs false
set_option maxHeartbeats 4000000
set_option maxRecDepth 100000
theorem inBad {cb : Nat} {w : World} (hMe : w.cell? ⟨cb, 14, none⟩ = some (.int .i64 1)) (hH : w.cell? ⟨cb, 1, none⟩ = some (.int .i64 2)) (hcb : cb < w.heap.size) {k s d p m o l t nn : Int} {n : Nat} (A : Option Addr) (c : Nat) (h : ¬ FrmOk k s d p m o l t nn n) :
    Calls Tryz.prog 33 #[.pointer (some ⟨cb, 0, none⟩), .agg #[.int .i64 k, .int .i64 s, .int .i64 d, .int .i64 p, .int .u64 m, .int .i64 o, .int .i64 l, .int .i64 t, .int .i64 nn, .slice A n c]] w fun e w' => e = .returned (.tuple #[]) ∧ Mod NoB w w' := by
  have HC := Lib.hid (fun W => wireCheckNo A c W h)
  clear h
  have hbx := Blk.new w 65 #[.int .i64 k, .int .i64 s, .int .i64 d, .int .i64 p, .int .u64 m, .int .i64 o, .int .i64 l, .int .i64 t, .int .i64 nn, .slice A n c]
  have ha := (Mod.refl NoB w).alloc (.cells #[.int .i64 k, .int .i64 s, .int .i64 d, .int .i64 p, .int .u64 m, .int .i64 o, .int .i64 l, .int .i64 t, .int .i64 nn, .slice A n c] 65)
  obtain ⟨w1, hw1⟩ : ∃ w1, w.alloc (.cells #[.int .i64 k, .int .i64 s, .int .i64 d, .int .i64 p, .int .u64 m, .int .i64 o, .int .i64 l, .int .i64 t, .int .i64 nn, .slice A n c] 65) = w1 := ⟨_, rfl⟩
  have HW1 := Lib.hid hw1
  rw [hw1] at hbx ha
  obtain ⟨xb, hxb⟩ : ∃ xb, w.heap.size = xb := ⟨_, rfl⟩
  have HXB := Lib.hid hxb
  rw [hxb] at hbx
  have HM1 := Lib.hid ha
  have hlt : xb < w1.heap.size := hbx.lt
  have hlt2 : cb < w1.heap.size := Nat.lt_of_lt_of_le hcb ha.size
  have g14 : w1.cell? ⟨cb, 14, none⟩ = some (.int .i64 1) := (ha.cell (p := ⟨cb, 14, none⟩) hcb (fun e => e)).trans hMe
  have g1 : w1.cell? ⟨cb, 1, none⟩ = some (.int .i64 2) := (ha.cell (p := ⟨cb, 1, none⟩) hcb (fun e => e)).trans hH
  have b0 : ∀ x : Later w1, x.world.cell? ⟨xb, 0, none⟩ = some (.int .i64 k) := fun x => by rw [(hbx.mod x.mod (fun e => e)).cell]; rfl
  have b1 : ∀ x : Later w1, x.world.cell? ⟨xb, 1, none⟩ = some (.int .i64 s) := fun x => by rw [(hbx.mod x.mod (fun e => e)).cell]; rfl
  have b2 : ∀ x : Later w1, x.world.cell? ⟨xb, 2, none⟩ = some (.int .i64 d) := fun x => by rw [(hbx.mod x.mod (fun e => e)).cell]; rfl
  have b3 : ∀ x : Later w1, x.world.cell? ⟨xb, 3, none⟩ = some (.int .i64 p) := fun x => by rw [(hbx.mod x.mod (fun e => e)).cell]; rfl
  have b4 : ∀ x : Later w1, x.world.cell? ⟨xb, 4, none⟩ = some (.int .u64 m) := fun x => by rw [(hbx.mod x.mod (fun e => e)).cell]; rfl
  have b5 : ∀ x : Later w1, x.world.cell? ⟨xb, 5, none⟩ = some (.int .i64 o) := fun x => by rw [(hbx.mod x.mod (fun e => e)).cell]; rfl
  have b6 : ∀ x : Later w1, x.world.cell? ⟨xb, 6, none⟩ = some (.int .i64 l) := fun x => by rw [(hbx.mod x.mod (fun e => e)).cell]; rfl
  have b7 : ∀ x : Later w1, x.world.cell? ⟨xb, 7, none⟩ = some (.int .i64 t) := fun x => by rw [(hbx.mod x.mod (fun e => e)).cell]; rfl
  have b8 : ∀ x : Later w1, x.world.cell? ⟨xb, 8, none⟩ = some (.int .i64 nn) := fun x => by rw [(hbx.mod x.mod (fun e => e)).cell]; rfl
  have b9 : ∀ x : Later w1, x.world.cell? ⟨xb, 9, none⟩ = some (.slice A n c) := fun x => by rw [(hbx.mod x.mod (fun e => e)).cell]; rfl
  have c14 : ∀ x : Later w1, x.world.cell? ⟨cb, 14, none⟩ = some (.int .i64 1) := fun x => (x.mod.cell (p := ⟨cb, 14, none⟩) hlt2 (fun e => e)).trans g14
  have c1 : ∀ x : Later w1, x.world.cell? ⟨cb, 1, none⟩ = some (.int .i64 2) := fun x => (x.mod.cell (p := ⟨cb, 1, none⟩) hlt2 (fun e => e)).trans g1
  clear hbx ha hw1 hxb hMe hH hcb g14 g1
  go_enter Tryz.func33, Tryz.ntmps33
  go_upto_region 1 with fail
  rw [HW1.out, HXB.out]
  refine region_later (by kernel_rfl) (by kernel_rfl) ?_
  repeat (go_big_quiet_step ((go_at_call 61; exact later_call (HC.out _))))
  refine wpQuiet_nil ?_
  intro _ hw'
  obtain ⟨y, hw''⟩ := hw'
  subst hw''
  have HY := Lib.hid y.mod
  clear b0 b1 b2 b3 b4 b5 b6 b7 b8 b9 c14 c1
  generalize y.world = W1 at *
  go_wp2_with fail
  refine bodyPost_ret (results_none rfl _ _ _) rfl ?_
  exact ⟨rfl, HM1.out.trans HY.out (fun _ _ e => e)⟩
theorem inDst {cb : Nat} {w : World} (hMe : w.cell? ⟨cb, 14, none⟩ = some (.int .i64 1)) (hH : w.cell? ⟨cb, 1, none⟩ = some (.int .i64 2)) (hcb : cb < w.heap.size) {k s d p m o l t nn : Int} {n : Nat} (A : Option Addr) (c : Nat) (h : FrmOk k s d p m o l t nn n) (hd : d ≠ 1) :
    Calls Tryz.prog 33 #[.pointer (some ⟨cb, 0, none⟩), .agg #[.int .i64 k, .int .i64 s, .int .i64 d, .int .i64 p, .int .u64 m, .int .i64 o, .int .i64 l, .int .i64 t, .int .i64 nn, .slice A n c]] w fun e w' => e = .returned (.tuple #[]) ∧ Mod NoB w w' := by
  have HC := Lib.hid (fun W => wireCheckOk h A c W)
  have q1 : (d != 1) = true := by simp [hd]
  clear h hd
  have hbx := Blk.new w 65 #[.int .i64 k, .int .i64 s, .int .i64 d, .int .i64 p, .int .u64 m, .int .i64 o, .int .i64 l, .int .i64 t, .int .i64 nn, .slice A n c]
  have ha := (Mod.refl NoB w).alloc (.cells #[.int .i64 k, .int .i64 s, .int .i64 d, .int .i64 p, .int .u64 m, .int .i64 o, .int .i64 l, .int .i64 t, .int .i64 nn, .slice A n c] 65)
  obtain ⟨w1, hw1⟩ : ∃ w1, w.alloc (.cells #[.int .i64 k, .int .i64 s, .int .i64 d, .int .i64 p, .int .u64 m, .int .i64 o, .int .i64 l, .int .i64 t, .int .i64 nn, .slice A n c] 65) = w1 := ⟨_, rfl⟩
  have HW1 := Lib.hid hw1
  rw [hw1] at hbx ha
  obtain ⟨xb, hxb⟩ : ∃ xb, w.heap.size = xb := ⟨_, rfl⟩
  have HXB := Lib.hid hxb
  rw [hxb] at hbx
  have HM1 := Lib.hid ha
  have hlt : xb < w1.heap.size := hbx.lt
  have hlt2 : cb < w1.heap.size := Nat.lt_of_lt_of_le hcb ha.size
  have g14 : w1.cell? ⟨cb, 14, none⟩ = some (.int .i64 1) := (ha.cell (p := ⟨cb, 14, none⟩) hcb (fun e => e)).trans hMe
  have g1 : w1.cell? ⟨cb, 1, none⟩ = some (.int .i64 2) := (ha.cell (p := ⟨cb, 1, none⟩) hcb (fun e => e)).trans hH
  have b0 : ∀ x : Later w1, x.world.cell? ⟨xb, 0, none⟩ = some (.int .i64 k) := fun x => by rw [(hbx.mod x.mod (fun e => e)).cell]; rfl
  have b1 : ∀ x : Later w1, x.world.cell? ⟨xb, 1, none⟩ = some (.int .i64 s) := fun x => by rw [(hbx.mod x.mod (fun e => e)).cell]; rfl
  have b2 : ∀ x : Later w1, x.world.cell? ⟨xb, 2, none⟩ = some (.int .i64 d) := fun x => by rw [(hbx.mod x.mod (fun e => e)).cell]; rfl
  have b3 : ∀ x : Later w1, x.world.cell? ⟨xb, 3, none⟩ = some (.int .i64 p) := fun x => by rw [(hbx.mod x.mod (fun e => e)).cell]; rfl
  have b4 : ∀ x : Later w1, x.world.cell? ⟨xb, 4, none⟩ = some (.int .u64 m) := fun x => by rw [(hbx.mod x.mod (fun e => e)).cell]; rfl
  have b5 : ∀ x : Later w1, x.world.cell? ⟨xb, 5, none⟩ = some (.int .i64 o) := fun x => by rw [(hbx.mod x.mod (fun e => e)).cell]; rfl
  have b6 : ∀ x : Later w1, x.world.cell? ⟨xb, 6, none⟩ = some (.int .i64 l) := fun x => by rw [(hbx.mod x.mod (fun e => e)).cell]; rfl
  have b7 : ∀ x : Later w1, x.world.cell? ⟨xb, 7, none⟩ = some (.int .i64 t) := fun x => by rw [(hbx.mod x.mod (fun e => e)).cell]; rfl
  have b8 : ∀ x : Later w1, x.world.cell? ⟨xb, 8, none⟩ = some (.int .i64 nn) := fun x => by rw [(hbx.mod x.mod (fun e => e)).cell]; rfl
  have b9 : ∀ x : Later w1, x.world.cell? ⟨xb, 9, none⟩ = some (.slice A n c) := fun x => by rw [(hbx.mod x.mod (fun e => e)).cell]; rfl
  have c14 : ∀ x : Later w1, x.world.cell? ⟨cb, 14, none⟩ = some (.int .i64 1) := fun x => (x.mod.cell (p := ⟨cb, 14, none⟩) hlt2 (fun e => e)).trans g14
  have c1 : ∀ x : Later w1, x.world.cell? ⟨cb, 1, none⟩ = some (.int .i64 2) := fun x => (x.mod.cell (p := ⟨cb, 1, none⟩) hlt2 (fun e => e)).trans g1
  clear hbx ha hw1 hxb hMe hH hcb g14 g1
  go_enter Tryz.func33, Tryz.ntmps33
  go_upto_region 1 with fail
  rw [HW1.out, HXB.out]
  refine region_later (by kernel_rfl) (by kernel_rfl) ?_
  repeat (go_big_quiet_step ((go_at_call 61; exact later_call (HC.out _))))
  refine wpQuiet_nil ?_
  intro _ hw'
  obtain ⟨y, hw''⟩ := hw'
  subst hw''
  have HY := Lib.hid y.mod
  clear b0 b1 b2 b3 b4 b5 b6 b7 b8 b9 c14 c1
  generalize y.world = W1 at *
  go_wp2_with fail
  refine bodyPost_ret (results_none rfl _ _ _) rfl ?_
  exact ⟨rfl, HM1.out.trans HY.out (fun _ _ e => e)⟩
theorem inSelf {cb : Nat} {w : World} (hMe : w.cell? ⟨cb, 14, none⟩ = some (.int .i64 1)) (hH : w.cell? ⟨cb, 1, none⟩ = some (.int .i64 2)) (hcb : cb < w.heap.size) {k s d p m o l t nn : Int} {n : Nat} (A : Option Addr) (c : Nat) (h : FrmOk k s d p m o l t nn n) (hd : d = 1) (hs : s = 1) :
    Calls Tryz.prog 33 #[.pointer (some ⟨cb, 0, none⟩), .agg #[.int .i64 k, .int .i64 s, .int .i64 d, .int .i64 p, .int .u64 m, .int .i64 o, .int .i64 l, .int .i64 t, .int .i64 nn, .slice A n c]] w fun e w' => e = .returned (.tuple #[]) ∧ Mod NoB w w' := by
  have HC := Lib.hid (fun W => wireCheckOk h A c W)
  clear h
  subst hd hs
  have hbx := Blk.new w 65 #[.int .i64 k, .int .i64 1, .int .i64 1, .int .i64 p, .int .u64 m, .int .i64 o, .int .i64 l, .int .i64 t, .int .i64 nn, .slice A n c]
  have ha := (Mod.refl NoB w).alloc (.cells #[.int .i64 k, .int .i64 1, .int .i64 1, .int .i64 p, .int .u64 m, .int .i64 o, .int .i64 l, .int .i64 t, .int .i64 nn, .slice A n c] 65)
  obtain ⟨w1, hw1⟩ : ∃ w1, w.alloc (.cells #[.int .i64 k, .int .i64 1, .int .i64 1, .int .i64 p, .int .u64 m, .int .i64 o, .int .i64 l, .int .i64 t, .int .i64 nn, .slice A n c] 65) = w1 := ⟨_, rfl⟩
  have HW1 := Lib.hid hw1
  rw [hw1] at hbx ha
  obtain ⟨xb, hxb⟩ : ∃ xb, w.heap.size = xb := ⟨_, rfl⟩
  have HXB := Lib.hid hxb
  rw [hxb] at hbx
  have HM1 := Lib.hid ha
  have hlt : xb < w1.heap.size := hbx.lt
  have hlt2 : cb < w1.heap.size := Nat.lt_of_lt_of_le hcb ha.size
  have g14 : w1.cell? ⟨cb, 14, none⟩ = some (.int .i64 1) := (ha.cell (p := ⟨cb, 14, none⟩) hcb (fun e => e)).trans hMe
  have g1 : w1.cell? ⟨cb, 1, none⟩ = some (.int .i64 2) := (ha.cell (p := ⟨cb, 1, none⟩) hcb (fun e => e)).trans hH
  have b0 : ∀ x : Later w1, x.world.cell? ⟨xb, 0, none⟩ = some (.int .i64 k) := fun x => by rw [(hbx.mod x.mod (fun e => e)).cell]; rfl
  have b1 : ∀ x : Later w1, x.world.cell? ⟨xb, 1, none⟩ = some (.int .i64 1) := fun x => by rw [(hbx.mod x.mod (fun e => e)).cell]; rfl
  have b2 : ∀ x : Later w1, x.world.cell? ⟨xb, 2, none⟩ = some (.int .i64 1) := fun x => by rw [(hbx.mod x.mod (fun e => e)).cell]; rfl
  have b3 : ∀ x : Later w1, x.world.cell? ⟨xb, 3, none⟩ = some (.int .i64 p) := fun x => by rw [(hbx.mod x.mod (fun e => e)).cell]; rfl
  have b4 : ∀ x : Later w1, x.world.cell? ⟨xb, 4, none⟩ = some (.int .u64 m) := fun x => by rw [(hbx.mod x.mod (fun e => e)).cell]; rfl
  have b5 : ∀ x : Later w1, x.world.cell? ⟨xb, 5, none⟩ = some (.int .i64 o) := fun x => by rw [(hbx.mod x.mod (fun e => e)).cell]; rfl
  have b6 : ∀ x : Later w1, x.world.cell? ⟨xb, 6, none⟩ = some (.int .i64 l) := fun x => by rw [(hbx.mod x.mod (fun e => e)).cell]; rfl
  have b7 : ∀ x : Later w1, x.world.cell? ⟨xb, 7, none⟩ = some (.int .i64 t) := fun x => by rw [(hbx.mod x.mod (fun e => e)).cell]; rfl
  have b8 : ∀ x : Later w1, x.world.cell? ⟨xb, 8, none⟩ = some (.int .i64 nn) := fun x => by rw [(hbx.mod x.mod (fun e => e)).cell]; rfl
  have b9 : ∀ x : Later w1, x.world.cell? ⟨xb, 9, none⟩ = some (.slice A n c) := fun x => by rw [(hbx.mod x.mod (fun e => e)).cell]; rfl
  have c14 : ∀ x : Later w1, x.world.cell? ⟨cb, 14, none⟩ = some (.int .i64 1) := fun x => (x.mod.cell (p := ⟨cb, 14, none⟩) hlt2 (fun e => e)).trans g14
  have c1 : ∀ x : Later w1, x.world.cell? ⟨cb, 1, none⟩ = some (.int .i64 2) := fun x => (x.mod.cell (p := ⟨cb, 1, none⟩) hlt2 (fun e => e)).trans g1
  clear hbx ha hw1 hxb hMe hH hcb g14 g1
  go_enter Tryz.func33, Tryz.ntmps33
  go_upto_region 1 with fail
  rw [HW1.out, HXB.out]
  refine region_later (by kernel_rfl) (by kernel_rfl) ?_
  repeat (go_big_quiet_step ((go_at_call 61; exact later_call (HC.out _))))
  refine wpQuiet_nil ?_
  intro _ hw'
  obtain ⟨y, hw''⟩ := hw'
  subst hw''
  have HY := Lib.hid y.mod
  clear b0 b1 b2 b3 b4 b5 b6 b7 b8 b9 c14 c1
  generalize y.world = W1 at *
  go_wp2_with fail
  refine bodyPost_ret (results_none rfl _ _ _) rfl ?_
  exact ⟨rfl, HM1.out.trans HY.out (fun _ _ e => e)⟩
theorem inFar {cb : Nat} {w : World} (hMe : w.cell? ⟨cb, 14, none⟩ = some (.int .i64 1)) (hH : w.cell? ⟨cb, 1, none⟩ = some (.int .i64 2)) (hcb : cb < w.heap.size) {k s d p m o l t nn : Int} {n : Nat} (A : Option Addr) (c : Nat) (h : FrmOk k s d p m o l t nn n) (hd : d = 1) (hs : 2 ≤ s) :
    Calls Tryz.prog 33 #[.pointer (some ⟨cb, 0, none⟩), .agg #[.int .i64 k, .int .i64 s, .int .i64 d, .int .i64 p, .int .u64 m, .int .i64 o, .int .i64 l, .int .i64 t, .int .i64 nn, .slice A n c]] w fun e w' => e = .returned (.tuple #[]) ∧ Mod NoB w w' := by
  have HC := Lib.hid (fun W => wireCheckOk h A c W)
  have q1 : (s == 1) = false := by simp; omega
  clear h
  subst hd
  have hbx := Blk.new w 65 #[.int .i64 k, .int .i64 s, .int .i64 1, .int .i64 p, .int .u64 m, .int .i64 o, .int .i64 l, .int .i64 t, .int .i64 nn, .slice A n c]
  have ha := (Mod.refl NoB w).alloc (.cells #[.int .i64 k, .int .i64 s, .int .i64 1, .int .i64 p, .int .u64 m, .int .i64 o, .int .i64 l, .int .i64 t, .int .i64 nn, .slice A n c] 65)
  obtain ⟨w1, hw1⟩ : ∃ w1, w.alloc (.cells #[.int .i64 k, .int .i64 s, .int .i64 1, .int .i64 p, .int .u64 m, .int .i64 o, .int .i64 l, .int .i64 t, .int .i64 nn, .slice A n c] 65) = w1 := ⟨_, rfl⟩
  have HW1 := Lib.hid hw1
  rw [hw1] at hbx ha
  obtain ⟨xb, hxb⟩ : ∃ xb, w.heap.size = xb := ⟨_, rfl⟩
  have HXB := Lib.hid hxb
  rw [hxb] at hbx
  have HM1 := Lib.hid ha
  have hlt : xb < w1.heap.size := hbx.lt
  have hlt2 : cb < w1.heap.size := Nat.lt_of_lt_of_le hcb ha.size
  have g14 : w1.cell? ⟨cb, 14, none⟩ = some (.int .i64 1) := (ha.cell (p := ⟨cb, 14, none⟩) hcb (fun e => e)).trans hMe
  have g1 : w1.cell? ⟨cb, 1, none⟩ = some (.int .i64 2) := (ha.cell (p := ⟨cb, 1, none⟩) hcb (fun e => e)).trans hH
  have b0 : ∀ x : Later w1, x.world.cell? ⟨xb, 0, none⟩ = some (.int .i64 k) := fun x => by rw [(hbx.mod x.mod (fun e => e)).cell]; rfl
  have b1 : ∀ x : Later w1, x.world.cell? ⟨xb, 1, none⟩ = some (.int .i64 s) := fun x => by rw [(hbx.mod x.mod (fun e => e)).cell]; rfl
  have b2 : ∀ x : Later w1, x.world.cell? ⟨xb, 2, none⟩ = some (.int .i64 1) := fun x => by rw [(hbx.mod x.mod (fun e => e)).cell]; rfl
  have b3 : ∀ x : Later w1, x.world.cell? ⟨xb, 3, none⟩ = some (.int .i64 p) := fun x => by rw [(hbx.mod x.mod (fun e => e)).cell]; rfl
  have b4 : ∀ x : Later w1, x.world.cell? ⟨xb, 4, none⟩ = some (.int .u64 m) := fun x => by rw [(hbx.mod x.mod (fun e => e)).cell]; rfl
  have b5 : ∀ x : Later w1, x.world.cell? ⟨xb, 5, none⟩ = some (.int .i64 o) := fun x => by rw [(hbx.mod x.mod (fun e => e)).cell]; rfl
  have b6 : ∀ x : Later w1, x.world.cell? ⟨xb, 6, none⟩ = some (.int .i64 l) := fun x => by rw [(hbx.mod x.mod (fun e => e)).cell]; rfl
  have b7 : ∀ x : Later w1, x.world.cell? ⟨xb, 7, none⟩ = some (.int .i64 t) := fun x => by rw [(hbx.mod x.mod (fun e => e)).cell]; rfl
  have b8 : ∀ x : Later w1, x.world.cell? ⟨xb, 8, none⟩ = some (.int .i64 nn) := fun x => by rw [(hbx.mod x.mod (fun e => e)).cell]; rfl
  have b9 : ∀ x : Later w1, x.world.cell? ⟨xb, 9, none⟩ = some (.slice A n c) := fun x => by rw [(hbx.mod x.mod (fun e => e)).cell]; rfl
  have c14 : ∀ x : Later w1, x.world.cell? ⟨cb, 14, none⟩ = some (.int .i64 1) := fun x => (x.mod.cell (p := ⟨cb, 14, none⟩) hlt2 (fun e => e)).trans g14
  have c1 : ∀ x : Later w1, x.world.cell? ⟨cb, 1, none⟩ = some (.int .i64 2) := fun x => (x.mod.cell (p := ⟨cb, 1, none⟩) hlt2 (fun e => e)).trans g1
  clear hbx ha hw1 hxb hMe hH hcb g14 g1
  go_enter Tryz.func33, Tryz.ntmps33
  go_upto_region 1 with fail
  rw [HW1.out, HXB.out]
  refine region_later (by kernel_rfl) (by kernel_rfl) ?_
  repeat (go_big_quiet_step ((go_at_call 61; exact later_call (HC.out _))))
  refine wpQuiet_nil ?_
  intro _ hw'
  obtain ⟨y, hw''⟩ := hw'
  subst hw''
  have HY := Lib.hid y.mod
  clear b0 b1 b2 b3 b4 b5 b6 b7 b8 b9 c14 c1
  generalize y.world = W1 at *
  go_wp2_with fail
  refine bodyPost_ret (results_none rfl _ _ _) rfl ?_
  exact ⟨rfl, HM1.out.trans HY.out (fun _ _ e => e)⟩
theorem inRefused {cb : Nat} {w : World} (hMe : w.cell? ⟨cb, 14, none⟩ = some (.int .i64 1)) (hH : w.cell? ⟨cb, 1, none⟩ = some (.int .i64 2)) (hcb : cb < w.heap.size) {k s d p m o l t nn : Int} {n : Nat} (A : Option Addr) (c : Nat) (hno : ¬ (FrmOk k s d p m o l t nn n ∧ d = 1 ∧ s = 0)) :
    Calls Tryz.prog 33 #[.pointer (some ⟨cb, 0, none⟩), .agg #[.int .i64 k, .int .i64 s, .int .i64 d, .int .i64 p, .int .u64 m, .int .i64 o, .int .i64 l, .int .i64 t, .int .i64 nn, .slice A n c]] w fun e w' => e = .returned (.tuple #[]) ∧ Mod NoB w w' := by
  by_cases h : FrmOk k s d p m o l t nn n
  · by_cases hd : d = 1
    · have hs : s ≠ 0 := fun e => hno ⟨h, hd, e⟩
      have h1 := h.s1
      by_cases hs1 : s = 1
      · exact inSelf hMe hH hcb A c h hd hs1
      · exact inFar hMe hH hcb A c h hd (by omega)
    · exact inDst hMe hH hcb A c h hd
  · exact inBad hMe hH hcb A c h
end Go.Proofs.YtjlooeaffbnjgaaGreat
