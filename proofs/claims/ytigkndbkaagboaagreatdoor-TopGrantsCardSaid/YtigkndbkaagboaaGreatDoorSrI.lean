/- Whom to grant: the program's Grants. -/
import Derived.Test.YtigkndbkaagboaaGreatDoorSrH
import Derived.Deep.LoopGhost
import Derived.Deep.CutBlock
namespace Go.Proofs.YtigkndbkaagboaaGreatDoor
open Go.RowKit Go.Sort
set_option linter.unusedVariables false
set_option linter.unusedSimpArgs false
set_option maxHeartbeats 4000000
set_option maxRecDepth 100000
attribute [local go_sem ↓] Go.wp_at_zero Go.wp_at_succ
def encG (g : Gr) : List Value := [.int .i64 g.peer, .int .u64 g.id, .int .i64 g.upto, .int .i64 g.prio]
theorem encG_len (g : Gr) : (encG g).length = 4 := rfl
theorem one_G (a b c d : Int) : ∀ y ∈ [Value.int .i64 a, Value.int .u64 b, Value.int .i64 c, Value.int .i64 d], y.oneCell' = true := fun y hy => by
  simp at hy
  rcases hy with rfl | rfl | rfl | rfl <;> rfl
theorem grant_info : (Tryz.prog.info? 40).map (fun i => (i.zero, i.size, i.bytes)) = some (some (.agg #[.int .i64 0, .int .u64 0, .int .i64 0, .int .i64 0]), 4, 32) := by kernel_rfl
theorem Reads.take {w : World} {B size n : Nat} {A : Option Addr} {xs : List Value} (h : Reads w B size A n xs) {m : Nat} (hm : m ≤ n) : Reads w B size A m (xs.take (m * size)) := by
  refine ⟨?_, fun h0 => ?_⟩
  · rw [List.length_take, h.1]
    exact Nat.min_eq_left (Nat.mul_le_mul_right _ hm)
  · obtain ⟨ad, e, hb, hc⟩ := h.2 (by omega)
    refine ⟨ad, e, hb, fun j u hu => hc j u ?_⟩
    rw [List.getElem?_take] at hu
    split at hu
    · exact hu
    · cases hu
theorem Has.take {α : Type} {enc : α → List Value} {sz : Nat} {w : World} {B : Nat} {A : Option Addr} {n cap m : Nat} {xs : List α} (hE : ∀ x, (enc x).length = sz) (h : Has w B sz enc (.slice A n cap) xs) (hm : m ≤ n) : Has w B sz enc (.slice A m cap) (xs.take m) := by
  obtain ⟨A', cap', e, h1, h2, h3, h4⟩ := h
  injection e with e1 e2 e3
  subst e1 e2 e3
  have hl : (xs.take m).length = m := by rw [List.length_take]; omega
  refine ⟨A, cap, by rw [hl], by omega, h2, ?_, fun g e hn => h4 g e (by omega)⟩
  rw [hl]
  have := h3.take hm
  have ht : (xs.flatMap enc).take (m * sz) = (xs.take m).flatMap enc := by
    clear h1 h3 h4 hl this hm
    induction xs generalizing m with
    | nil => simp
    | cons x xs ih =>
      cases m with
      | zero => simp
      | succ m =>
        rw [List.flatMap_cons, List.take_succ_cons, List.flatMap_cons, Nat.succ_mul, List.take_append, hE, List.take_of_length_le (by rw [hE]; omega), show m * sz + sz - sz = m * sz by omega, ih]
  rw [← ht]
  exact this
theorem idxFromJ (x : Nat) : ∀ (l : List Nat) (i : Nat), Lib.idxFrom (l.map fun i : Nat => (i : Int)) (x : Int) i = if x ∈ l then ((i + l.idxOf x : Nat) : Int) else -1
  | [], i => by simp [Lib.idxFrom]
  | y :: l, i => by
    rw [List.map_cons, Lib.idxFrom, idxFromJ x l (i + 1)]
    by_cases h : y = x
    · subst h
      simp
    · have h' : ¬ (y : Int) = (x : Int) := by omega
      have h2 : ¬ x = y := fun e => h e.symm
      rw [List.idxOf_cons, show (y == x) = false by simpa using h, cond_false]
      by_cases hm : x ∈ l
      · simp [h, h', h2, hm]
        omega
      · simp [h, h', h2, hm]
theorem idxZ (l : List Nat) (x : Nat) : Lib.idxOf (l.map fun i : Nat => (i : Int)) (x : Int) = idxN l x := by
  unfold Lib.idxOf idxN
  rw [idxFromJ]
  simp
theorem indexW (v : Value) (l : List Nat) (x B : Nat) (w : World) (h : Has w B 1 encJ v l) (hl : l.length ≤ 1000000) :
    Calls Tryz.prog 37 #[v, .int .i64 (x : Int)] w fun e w' => e = .returned (.int .i64 (idxN l x)) ∧ w = w' := by
  obtain ⟨A, cap, rfl, hcap⟩ := h.form
  rcases Nat.eq_zero_or_pos l.length with h0 | h0
  · have : l = [] := List.eq_nil_of_length_eq_zero h0
    subst this
    refine (Tryz.slices_Index_int_empty A cap x w).mono ?_
    rintro e w' ⟨rfl, rfl⟩
    exact ⟨rfl, rfl⟩
  · obtain ⟨g, off, rfl, _⟩ := h.atJ (List.getElem?_eq_getElem h0)
    obtain ⟨_, hc⟩ := IntsAtJ h
    refine (Tryz.slices_Index_int g off l.length cap (l.map fun i : Nat => (i : Int)) x w (by simp) (by omega) (fun j hj => hc j (by simpa using hj))).mono ?_
    rintro e w' ⟨rfl, rfl⟩
    refine ⟨ret_int ?_, rfl⟩
    rw [List.take_of_length_le (by simp), idxZ]
theorem ownForm1 {w : World} {base : Nat} {e : TypeId} {size : Nat} {v : Value} {n : Nat} {xs : List Value} (h : w.ownsRow base e size v n xs) (hn : 0 < n) : ∃ g cap, v = .slice (some ⟨g, 0, none⟩) n cap ∧ g < w.heap.size ∧ n ≤ cap := by
  have hl := h.lt
  rcases h.2 with ⟨_, h0⟩ | ⟨g, cap, cur, hv, hb, hg, h1, _⟩
  · omega
  · subst hv
    exact ⟨g, cap, rfl, (hl g rfl).2, h1⟩
/-- The start of grants under way: how far each of the first k may go. -/
def Tk (w : World) (B b : Nat) (vl : Value) (room : Int) (up : List Int) : Prop :=
  ∃ vu : Value, Blk w b 86 #[vl, .int .i64 room, vu, .slice none 0 0] ∧ Own w B 3 1 encI vu up ∧ B ≤ b ∧ ∀ k, vu.ownBlock = some k → k ≠ b
theorem grantsW (v : Value) (ms : List Ms) (k budget share : Int) (w : World) (h : Has w w.heap.size 6 encM v ms) (hl : ms.length ≤ 10000) (k1 : 1 ≤ k) (k8 : k ≤ 8) (b0 : 0 ≤ budget) (b1 : budget ≤ 1099511627776) (s0 : 0 ≤ share) (s1 : share ≤ budget) :
    Calls Tryz.prog 8 #[v, .int .i64 k, .int .i64 budget, .int .i64 share] w fun e w' => ∃ v', e = .returned (.tuple #[v', .int .i64 0]) ∧ Own w' w.heap.size 40 4 encG v' (grantsL ms k budget share) ∧ Mod (fun _ => False) w w' := by
  obtain ⟨i0, hi0, hz0, hz1, hz2⟩ := info_parts int_info
  obtain ⟨A, cap, rfl, hcap⟩ := h.form
  have hah := aheadW _ ms w h (by omega)
  have hahb : 0 ≤ aheadZ ms ∧ aheadZ ms ≤ 107374182400000 := by
    have hb := ahead_bd (ms := ms) (l := openL ms) fun i hi => by
      obtain ⟨m, a, b, c, _⟩ := open_mem hi
      exact ⟨m, a, b, c⟩
    have := openTo_len ms ms.length
    unfold aheadZ openL at *
    omega
  have hsub : subZ budget (aheadZ ms) = (startG ms budget).room := by
    unfold subZ startG wholeZ clampZ
    simp only
    have h1 : ¬ budget < 0 := by omega
    have h2 : ¬ 1125899906842624 < budget := by omega
    have h3 : ¬ aheadZ ms < 0 := by omega
    have h4 : ¬ 1125899906842624 < aheadZ ms := by omega
    rw [if_neg h1, if_neg h2, if_neg h3, if_neg h4]
    split
    · omega
    · split <;> omega
  have HH := Lib.hid h
  have HAH := Lib.hid hah
  have HSUB := Lib.hid hsub
  clear h hah hsub
  generalize hn : ms.length = n at *
  have HN := Lib.hid hn
  clear hn
  go_enter Tryz.func8, Tryz.ntmps8
  go_wp2_with fail
  refine HAH.out.mono ?_
  rintro e w1 ⟨rfl, m1⟩
  go_wp2_with fail
  refine (numSub _ _ _).mono ?_
  rintro e w' ⟨rfl, rfl⟩
  rw [HSUB.out]
  generalize hroom : (startG ms budget).room = room
  have HROOM := Lib.hid hroom
  obtain ⟨b, hb⟩ : ∃ b, b = w1.heap.size := ⟨_, rfl⟩
  have tk0 : Tk (w1.alloc (.cells #[.slice A n cap, .int .i64 room, .slice none 0 0, .slice none 0 0] 86)) w.heap.size b (.slice A n cap) room ((ms.take 0).map fun m => m.granted) :=
    ⟨.slice none 0 0, hb ▸ Blk.new _ _ _, Own.nil, hb ▸ m1.size, fun k h => by simp [Value.ownBlock] at h⟩
  have M0 := Lib.hid (m1.alloc (.cells #[.slice A n cap, .int .i64 room, .slice none 0 0, .slice none 0 0] 86))
  have TK := Lib.hid tk0
  have HB := Lib.hid hb
  clear hroom tk0 m1 hb
  go_wp2_with fail
  rw [← HB.out]
  go_loopg [53] n (fun gk i wr => ∃ j : Nat, gk + j = n ∧ i = .int .i64 j ∧ Tk wr w.heap.size b (.slice A n cap) room ((ms.take j).map fun m => m.granted) ∧ Mod (fun _ => False) w wr)
  case atStart => exact ⟨0, by omega, rfl, TK.out, M0.out⟩
  case round =>
    clear TK M0
    obtain ⟨j, hgj, rfl, ⟨vu, tb, tu, tB, tne⟩, hm⟩ := hrel
    obtain ⟨gout, rfl⟩ : ∃ n : Nat, n = gk := ⟨_, rfl⟩
    by_cases hjn : j < n
    · have hjx : j < ms.length := by rw [HN.out]; exact hjn
      have hx? := List.getElem?_eq_getElem hjx
      obtain ⟨g, off, rfl, hg, c0, c1, c2, c3, c4, c5⟩ := (HH.out.later hm (Nat.le_refl _)).atM hx?
      have hsn : (ms.take (j + 1)).map (fun m => m.granted) = (ms.take j).map (fun m => m.granted) ++ [ms[j].granted] := by
        rw [List.take_succ_eq_append_getElem hjx, List.map_append]; rfl
      have hul : ((ms.take j).map fun m => m.granted).length = j := by rw [List.length_map, List.length_take]; omega
      generalize ms[j]'hjx = m at *
      generalize (ms.take j).map (fun m => m.granted) = up at *
      have HSN := Lib.hid hsn
      clear hsn hx?
      have hcb := tb.cell
      have hfb := tb.free
      obtain ⟨Au, cu, rfl, hcu, -⟩ := tu.form
      rw [hul] at tb hcb hcu tne
      go_upto_block 1 with fail
      go_cut [12] from 55 to 67 (fun x wx => Tk wx w.heap.size b (.slice (some ⟨g, off, none⟩) n cap) room (up ++ [m.granted]) ∧ Mod (fun _ => False) w wx)
      case first =>
        go_upto_region 7 with fail
        have hbs := tb.lt
        have hnw : ¬ b = wr.heap.size := by omega
        have hrow : wr.ownsRow w.heap.size 3 1 (.slice Au j cu) j (up.flatMap encI) := by
          have h := tu
          unfold Own at h
          rw [hul] at h
          exact h
        have hbase : ∀ q, (Value.slice Au j cu).ownBlock = some q → w.heap.size ≤ q := fun q e => tu.base (by rw [hul]; exact e)
        have HRW := Lib.hid (own_mod (((Mod.refl (fun _ => False) wr).alloc (.cells #[.int .i64 m.peer, .int .u64 m.id, .int .i64 m.total, .int .i64 m.hav, .int .i64 m.granted, .int .i64 m.born] 28)).alloc (.cells #[.int .i64 m.granted] 3)) hrow (fun _ _ e => e))
        have hlit := World.ownsRow_lit (base := 0) (size := 1) (e := 3) (wr.alloc (.cells #[.int .i64 m.peer, .int .u64 m.id, .int .i64 m.total, .int .i64 m.hav, .int .i64 m.granted, .int .i64 m.born] 28)) #[.int .i64 m.granted] 1 (Nat.zero_le _) (by decide) rfl
        have hsz1 : (wr.alloc (.cells #[.int .i64 m.peer, .int .u64 m.id, .int .i64 m.total, .int .i64 m.hav, .int .i64 m.granted, .int .i64 m.born] 28)).heap.size = wr.heap.size + 1 := by simp
        rw [hsz1] at hlit
        have HLIT := Lib.hid (Reads.of_own hlit)
        have H1C := Lib.hid (one_I m.granted)
        clear hsz1
        have HTB := Lib.hid tb
        have HNE := Lib.hid tne
        have HBA := Lib.hid hbase
        have hszr := hm.size
        have hj9 : j ≤ 10000 := by omega
        have hsz2 : ((wr.alloc (.cells #[.int .i64 m.peer, .int .u64 m.id, .int .i64 m.total, .int .i64 m.hav, .int .i64 m.granted, .int .i64 m.born] 28)).alloc (.cells #[.int .i64 m.granted] 3)).heap.size = wr.heap.size + 2 := by simp
        have HSZ2 := Lib.hid hsz2
        have HM := Lib.hid hm
        clear hlit hrow tb tu tne hbase hsz2 c0 c1 c2 c3 c4 c5 hm
        go_region_law (first
          | (refine step_append_any _ (by rfl) (.tmp 61) (.tmp 64) 36 (by rfl) w.heap.size 3 i0 _ 1 8 Tryz.underlying36 hi0 hz0 hz1 hz2 (by rfl) (by omega) (.slice Au j cu) j (up.flatMap encI) (by rfl) HRW.out _ (some ⟨wr.heap.size + 1, 0, none⟩) 1 1 [.int .i64 m.granted] (by rfl) HLIT.out H1C.out (by simp only [maxLen]; omega) (by omega) (by simp; omega) ?_; intro v' w7 hown' hgr' hat'; obtain ⟨g', cap', rfl, hgl, hcapn⟩ := ownForm1 hown' (by omega); have hb7 := ((HTB.out.old (.cells #[.int .i64 m.peer, .int .u64 m.id, .int .i64 m.total, .int .i64 m.hav, .int .i64 m.granted, .int .i64 m.born] 28)).old (.cells #[.int .i64 m.granted] 3)).mod (Mod.ofGrown hgr') (fun e => HNE.out b e rfl); have hk7 : w7.cell? ⟨b, 2, none⟩ = some (.slice Au j cu) := hb7.cell 2; have hf7 : w7.frozen? ⟨b, 2, none⟩ = false := hb7.free 2))
        all_goals
          have hgb : ∀ q, (Value.slice (some ⟨g', 0, none⟩) (j + 1) cap').ownBlock = some q → q ≠ b := fun q hq e => by
            rcases hat' with h | h
            · rw [h] at hq
              exact HNE.out q hq e
            · rw [h] at hq
              have h' := Option.some.inj hq
              have h2 := HSZ2.out
              have h3 : ((wr.alloc (.cells #[.int .i64 m.peer, .int .u64 m.id, .int .i64 m.total, .int .i64 m.hav, .int .i64 m.granted, .int .i64 m.born] 28)).alloc (.cells #[.int .i64 m.granted] 3)).drew.heap.size = wr.heap.size + 2 := h2
              omega
          have m8 : Mod (fun _ => False) w w7 := ((HM.out.alloc _).alloc _).drew.trans (Mod.ofGrown hgr') (fun q hq e => by
            have := HBA.out q e
            omega)
          have hown8 : Own (w7.setCell ⟨b, 2, none⟩ (.slice (some ⟨g', 0, none⟩) (j + 1) cap')) w.heap.size 3 1 encI (.slice (some ⟨g', 0, none⟩) (j + 1) cap') (up ++ [m.granted]) := by
            refine Own.mod ((Mod.refl (fun k => k = b) w7).set1 2 _) ?_ hgb
            unfold Own
            rw [flat_snoc, List.length_append, hul]
            exact hown'
          have tk8 : Tk (w7.setCell ⟨b, 2, none⟩ (.slice (some ⟨g', 0, none⟩) (j + 1) cap')) w.heap.size b (.slice (some ⟨g, off, none⟩) n cap) room (up ++ [m.granted]) := ⟨_, hb7.set 2 _, hown8, tB, hgb⟩
          have m9 := m8.setCell (p := ⟨b, 2, none⟩) (fun e => (Nat.not_lt.2 tB e : False)) (.slice (some ⟨g', 0, none⟩) (j + 1) cap')
          have TK8 := Lib.hid tk8
          have M9 := Lib.hid m9
          clear hgb m8 hown8 tk8 m9 hown' hgr' hat'
          go_wp2_with fail
          go_meet
          case rel => exact ⟨TK8.out, M9.out⟩
      case rest =>
        obtain ⟨tk8, m9⟩ := hcut
        rw [← HSN.out] at tk8
        have TK8 := Lib.hid tk8
        have M9 := Lib.hid m9
        clear tk8 m9 tb tu tne hm c0 c1 c2 c3 c4 c5
        go_wp2_with fail
        go_roundg (gout - 1)
        case measure => omega
        case rel => exact ⟨j + 1, by omega, by go_num, TK8.out, M9.out⟩
    · have hjn2 : j = n := by omega
      have hups : (ms.take j).map (fun m => m.granted) = (startG ms budget).upto := by
        rw [hjn2, ← HN.out, List.take_length]
        rfl
      rw [hups] at tu
      have tn0 : Tn wr (fun q => q < w.heap.size) b (.slice A n cap) (startG ms budget) := ⟨vu, .slice none 0 0, by rw [HROOM.out]; exact tb, tu.le (Nat.zero_le _), Own.nil, fun e => Nat.not_lt.2 tB e, fun k h => ⟨fun e => Nat.not_lt.2 (tu.base h) e, tne k h⟩, fun k h => by simp [Value.ownBlock] at h⟩
      have hok0 := startG_ok ms b0 b1
      have hld := oldestW (.slice A n cap) ms wr ((HH.out.later hm (Nat.le_refl _)).more hm.size) (by rw [HN.out]; omega)
      have HLD := Lib.hid hld
      have TN0 := Lib.hid tn0
      have HOK0 := Lib.hid hok0
      have HM := Lib.hid hm
      clear hjn2 hups tb tu tB tne tn0 hok0 hld hm
      go_wp2_with fail
      refine HLD.out.mono ?_
      rintro e w3 ⟨rfl, m3⟩
      have TN3 := Lib.hid (TN0.out.later m3)
      have HM3 := Lib.hid (HM.out.trans m3 (fun _ _ e => e))
      clear m3
      obtain ⟨β, hβ⟩ : ∃ β, decide (0 < share ∧ 0 ≤ oldestZ ms) = β := ⟨_, rfl⟩
      have HBT := Lib.hid hβ
      clear hβ
      go_upto_region 10 with fail
      go_cut [76] from 71 to 75 (fun x wx => x = .bool β ∧ wx = w3)
      case first =>
        by_cases c1 : 0 < share
        · by_cases c2 : 0 ≤ oldestZ ms
          · have HB3 : Hid (true = β) := Lib.hid (by rw [← HBT.out]; simp [c1, c2])
            go_wp2_with fail
            go_meet
            case rel => exact ⟨congrArg Value.bool HB3.out, rfl⟩
          · have HB3 : Hid (false = β) := Lib.hid (by rw [← HBT.out]; simp [c2])
            have c3 : decide (0 ≤ oldestZ ms) = false := by simpa using c2
            go_wp2_with fail
            go_meet
            case rel => exact ⟨congrArg Value.bool HB3.out, rfl⟩
        · have HB3 : Hid (false = β) := Lib.hid (by rw [← HBT.out]; simp [c1])
          go_wp2_with fail
          go_meet
          case rel => exact ⟨congrArg Value.bool HB3.out, rfl⟩
      case rest =>
        obtain ⟨rfl, hwc⟩ := hcut
        rw [hwc]
        clear hwc
        go_upto_if 76 with fail
        go_cut [] from 77 to 80 (fun wx => Tn wx (fun q => q < w.heap.size) b (.slice A n cap) (shareG ms budget share) ∧ Mod (fun _ => False) w wx)
        case first =>
          cases β with
          | true =>
            have hc : 0 < share ∧ 0 ≤ oldestZ ms := by simpa using HBT.out
            obtain ⟨m, hm, hp, ho⟩ := oldest_mem hc.2
            have hq := oldest_eq hc.2
            have hcall := grantsMW (fun q => q < w.heap.size) w.heap.size b A n cap ms (startG ms budget) (oldestZ ms).toNat m share w3 (HH.out.later HM3.out (Nat.le_refl _)) (fun q e => Nat.lt_of_lt_of_le e HM3.out.size) TN3.out HOK0.out hm hp ho s0 (by omega) (by rw [HN.out]; omega) (by simp [startG])
            rw [← hq] at hcall
            have hsh : shareG ms budget share = stepG ms (startG ms budget) (oldestZ ms).toNat share := if_pos hc
            have HSH := Lib.hid hsh
            have HCALL := Lib.hid hcall
            clear hcall hsh hq hc hm hp ho
            go_wp2_with fail
            refine HCALL.out.mono ?_
            rintro e w4 ⟨rfl, tn4, m4⟩
            have TN4 := Lib.hid (HSH.out ▸ tn4)
            have M4 := Lib.hid (HM3.out.trans m4 (fun q hq e => e hq))
            clear tn4 m4
            go_wp2_with fail
            go_meet
            case rel => exact ⟨TN4.out, M4.out⟩
          | false =>
            have hsh : shareG ms budget share = startG ms budget := if_neg (by simpa using HBT.out)
            have HSH := Lib.hid hsh
            clear hsh
            go_wp2_with fail
            go_meet
            case rel => exact ⟨HSH.out ▸ TN3.out, HM3.out⟩
        case rest =>
          obtain ⟨tn5, m5⟩ := hcut
          obtain ⟨w5, rfl⟩ : ∃ z : World, z = wc := ⟨_, rfl⟩
          have hord := orderW (.slice A n cap) ms w5 ((HH.out.later m5 (Nat.le_refl _)).more m5.size) (by rw [HN.out]; omega)
          have hok5 := shareG_ok ms (share := share) b0 b1
          have HORD := Lib.hid hord
          have TN5 := Lib.hid tn5
          have M5 := Lib.hid m5
          have HOK5 := Lib.hid hok5
          clear hord tn5 m5 hok5 TN3 HM3 TN0 HM HOK0
          go_wp2_with fail
          refine HORD.out.mono ?_
          rintro e w6 ⟨v6, rfl, hown6, m6⟩
          obtain ⟨A6, cap6, rfl, hcap6, -⟩ := hown6.form
          have TN6 := Lib.hid ((TN5.out.more (F' := fun q => q < w.heap.size ∨ (Value.slice A6 (orderL false ms).length cap6).ownBlock = some q) (fun q e => by
            rcases e with e | e
            · exact .inl e
            · exact .inr (hown6.base e))).later m6)
          have M6 := Lib.hid (M5.out.trans m6 (fun _ _ e => e))
          have hfl6 : ∀ q, (q < w.heap.size ∨ (Value.slice A6 (orderL false ms).length cap6).ownBlock = some q) → q < w6.heap.size := fun q e => by
            rcases e with e | e
            · exact Nat.lt_of_lt_of_le e M6.out.size
            · exact (hown6.lt q e).2
          have HFL6 := Lib.hid hfl6
          have hlo : (orderL false ms).length ≤ n := by
            rw [order_len, ← HN.out]
            exact openTo_len ms ms.length
          have HO6 := Lib.hid hown6.has
          clear hown6 m6 hfl6
          generalize hL : (orderL false ms).length = nl at *
          have HL := Lib.hid hL
          obtain ⟨K, hK⟩ : ∃ K : Nat, K = min nl k.toNat := ⟨_, rfl⟩
          have hKk : min (nl : Int) k = (K : Int) := by omega
          have hKl : K ≤ nl := by omega
          have hKl2 : (K : Int) ≤ (nl : Int) := by omega
          have hKc : (K : Int) ≤ (cap6 : Int) := by omega
          have HK := Lib.hid hK
          have htake : (orderL false ms).take K = firstK ms k := by
            unfold firstK
            rw [hK]
            by_cases h : nl ≤ k.toNat
            · rw [Nat.min_eq_left h, List.take_of_length_le (by omega), List.take_of_length_le (by omega)]
            · rw [Nat.min_eq_right (by omega)]
          have HTK := Lib.hid htake
          have HF6 := Lib.hid (htake ▸ HO6.out.take encJ_len hKl)
          have hqb : 0 ≤ budget / k ∧ budget / k ≤ 1099511627776 := by
            have h1 := Int.ediv_le_self k b0
            have h2 := Int.ediv_nonneg b0 (show 0 ≤ k by omega)
            omega
          have hkl : (firstK ms k).length = K := by rw [← htake, List.length_take]; omega
          have HKL := Lib.hid hkl
          have hmle : ∀ l : List Nat, (∀ i ∈ l, ∃ m, ms[i]? = some m ∧ mayP m ∧ m.hav < m.total) → GsOk ms (stepsG ms (budget / k) l (shareG ms budget share)) := fun l hl => stepsG_ok _ _ _ HOK5.out hl
          have HML := Lib.hid hmle
          clear hL hK htake hkl hmle
          go_wp2_with fail
          go_loopg [91] K (fun gk i wr => ∃ q : Nat, gk + q = K ∧ i = .int .i64 q ∧ Tn wr (fun q => q < w.heap.size ∨ (Value.slice A6 nl cap6).ownBlock = some q) b (.slice A n cap) (stepsG ms (budget / k) ((firstK ms k).take q) (shareG ms budget share)) ∧ Mod (fun _ => False) w wr ∧ Mod (fun q => ¬ (q < w.heap.size ∨ (Value.slice A6 nl cap6).ownBlock = some q)) w6 wr)
          case atStart => exact ⟨0, by omega, rfl, TN6.out, M6.out, Mod.refl _ _⟩
          case round =>
            obtain ⟨q, hgq, rfl, htn, hmw, hm6⟩ := hrel
            obtain ⟨g0, rfl⟩ : ∃ n : Nat, n = gk := ⟨_, rfl⟩
            have hsz6 := hm6.size
            have hFw : ∀ q, (q < w.heap.size ∨ (Value.slice A6 nl cap6).ownBlock = some q) → q < wr.heap.size := fun q e => Nat.lt_of_lt_of_le (HFL6.out q e) hsz6
            have hfk := HF6.out.mod hm6 (Nat.le_refl _) (fun q hq e => e (.inr (by cases A6 <;> exact hq)))
            by_cases hqK : q < K
            · have hqx : q < (firstK ms k).length := by rw [HKL.out]; exact hqK
              have hi? := List.getElem?_eq_getElem hqx
              obtain ⟨g1, off1, rfl, _, hci⟩ := hfk.atJ hi?
              obtain ⟨m, hm, hp, ho⟩ := firstK_mem _ (List.getElem_mem hqx)
              have hokq := HML.out ((firstK ms k).take q) (fun i hi => firstK_mem i (List.mem_of_mem_take hi))
              have hlenq : (stepsG ms (budget / k) ((firstK ms k).take q) (shareG ms budget share)).met.length ≤ 100000 := by
                have h1 := stepsG_len ms (budget / k) ((firstK ms k).take q) (shareG ms budget share)
                have h2 := shareG_len ms budget share
                rw [List.length_take] at h1
                have := HKL.out
                omega
              have hcall := grantsMW (fun q => q < w.heap.size ∨ (Value.slice (some ⟨g1, off1, none⟩) nl cap6).ownBlock = some q) w.heap.size b A n cap ms _ _ m (budget / k) wr (HH.out.later hmw (Nat.le_refl _)) hFw htn hokq hm hp ho hqb.1 hqb.2 (by rw [HN.out]; omega) hlenq
              rw [← stepsG_snoc, ← List.take_succ_eq_append_getElem hqx] at hcall
              generalize (firstK ms k)[q]'hqx = i at *
              have HCALL := Lib.hid hcall
              have HMW := Lib.hid hmw
              have HM6 := Lib.hid hm6
              clear hcall hm hp ho hi? hokq hlenq htn hmw hm6 hfk hFw
              go_wp2_with fail
              refine HCALL.out.mono ?_
              rintro e w7 ⟨rfl, tn7, m7⟩
              have TN7 := Lib.hid tn7
              have MW7 := Lib.hid (HMW.out.trans m7 (fun q hq e => e (.inl hq)))
              have M67 := Lib.hid (HM6.out.trans m7 (fun q hq e => e))
              clear tn7 m7
              go_wp2_with fail
              go_roundg (g0 - 1)
              case measure => omega
              case rel => exact ⟨q + 1, by omega, by go_num, TN7.out, MW7.out, M67.out⟩
            · have hqe : q = K := by omega
              have hend : stepsG ms (budget / k) ((firstK ms k).take q) (shareG ms budget share) = endG ms k budget share := by
                rw [hqe, List.take_of_length_le (by rw [HKL.out]; exact Nat.le_refl _)]
                rfl
              rw [hend] at htn
              have hokE := endG_ok ms (k := k) (share := share) b0 b1
              have hfk' := hfk
              obtain ⟨vu9, vm9, tb, tu, tm, tF, tuF, tmF⟩ := htn
              obtain ⟨Am, cm, rfl, hcm, -⟩ := tm.form
              obtain ⟨iG, hiG, hzG0, hzG1, hzG2⟩ := info_parts grant_info
              have hcb := tb.cell
              have HTB := Lib.hid tb
              have HTU := Lib.hid tu
              have HTM := Lib.hid tm.has
              have HFK := Lib.hid hfk'
              have HOKE := Lib.hid hokE
              have HMW := Lib.hid hmw
              have hgr : grantsL ms k budget share = (endG ms k budget share).met.map (grantOf ms (endG ms k budget share) (firstK ms k)) := rfl
              have hmlen : (endG ms k budget share).met.length ≤ 100000 := by
                have h1 := stepsG_len ms (budget / k) (firstK ms k) (shareG ms budget share)
                have h2 := shareG_len ms budget share
                have h3 := HKL.out
                unfold endG
                omega
              obtain ⟨Au, cu, rfl, hcu, -⟩ := tu.form
              have hul := hokE.len
              rw [HN.out] at hul
              have HGR := Lib.hid hgr
              generalize endG ms k budget share = st at *
              have hsm := hmw.size
              clear hend hgr tb tu tm tF tuF tmF hokE hmw hm6 hfk hfk' hqe
              obtain ⟨wE, rfl⟩ : ∃ z : World, z = wr := ⟨_, rfl⟩
              generalize hnm : st.met.length = nm at *
              have HNM := Lib.hid hnm
              have HUL := Lib.hid hul
              clear hnm
              go_wp2_with fail
              go_loopg [8, 107] nm (fun gk o i wi => ∃ q : Nat, gk + q = nm ∧ i = .int .i64 q ∧ Own wi wE.heap.size 40 4 encG o ((st.met.take q).map (grantOf ms st (firstK ms k))) ∧ Mod (fun _ => False) wE wi)
              case atStart => exact ⟨0, by omega, rfl, Own.nil, Mod.refl _ _⟩
              case round =>
                obtain ⟨q, hgq, rfl, hout, hmi⟩ := hrel
                obtain ⟨g0, rfl⟩ : ∃ n : Nat, n = gk := ⟨_, rfl⟩
                have hxl : q ≤ nm → ((st.met.take q).map (grantOf ms st (firstK ms k))).length = q := fun h => by
                  rw [List.length_map, List.length_take, HNM.out]
                  omega
                obtain ⟨Ao, co, rfl, hco, -⟩ := hout.form
                rw [hxl (by omega)] at hout hco ⊢
                have hbi := HTB.out.mod hmi (fun e => e)
                have hcbi := hbi.cell
                have hti := HTU.out.later hmi
                by_cases hqn : q < nm
                · have hqx : q < st.met.length := by rw [HNM.out]; exact hqn
                  have hi? := List.getElem?_eq_getElem hqx
                  obtain ⟨gm, offm, rfl, _, hci⟩ := (HTM.out.later hmi (Nat.le_refl _)).atJ hi?
                  obtain ⟨m, hm, hp, ho⟩ := HOKE.out.mem _ (List.getElem_mem hqx)
                  obtain ⟨u, hu, u1, _, u3⟩ := HOKE.out.at_ hm
                  have hult : m.granted < u := u3.1 (List.getElem_mem hqx)
                  have hsn : (st.met.take (q + 1)).map (grantOf ms st (firstK ms k)) = (st.met.take q).map (grantOf ms st (firstK ms k)) ++ [⟨m.peer, m.id, u, prioG (firstK ms k) st.met[q]⟩] := by
                    rw [List.take_succ_eq_append_getElem hqx, List.map_append]
                    unfold grantOf
                    simp only [List.map_cons, List.map_nil]
                    rw [List.getD_eq_getElem?_getD, List.getD_eq_getElem?_getD, hm, hu]
                    rfl
                  have hidx := indexW (.slice A6 K cap6) (firstK ms k) st.met[q]
                  have hprio : prioG (firstK ms k) st.met[q] = if 0 ≤ idxN (firstK ms k) st.met[q] then max (6 - idxN (firstK ms k) st.met[q]) 0 else 0 := by
                    unfold prioG idxN
                    by_cases hin : st.met[q] ∈ firstK ms k
                    · rw [if_pos hin, if_pos hin, if_pos (by omega)]
                    · rw [if_neg hin, if_neg hin, if_neg (by omega)]
                  have hib : -1 ≤ idxN (firstK ms k) st.met[q] ∧ idxN (firstK ms k) st.met[q] ≤ 8 := by
                    unfold idxN
                    split
                    · rename_i hin
                      have h1 := List.idxOf_lt_length_of_mem hin
                      have := HKL.out
                      omega
                    · omega
                  generalize st.met[q]'hqx = i at *
                  obtain ⟨g, off, rfl, hg, c0, c1, c2, c3, c4, c5⟩ := (HH.out.later (HMW.out.trans hmi (fun _ _ e => e)) (Nat.le_refl _)).atM hm
                  obtain ⟨gu, offu, rfl, _, hcu'⟩ := hti.has.atI hu
                  obtain rfl : offu = 0 := by
                    obtain ⟨A', c', e', _, h2 | ⟨g', h2, _⟩⟩ := hti.form
                    · injection e' with e1
                      rw [h2.1] at e1
                      cases e1
                    · injection e' with e1
                      rw [h2] at e1
                      injection e1 with e1
                      injection e1 with _ e2
                  rw [Nat.zero_add] at hcu'
                  have hil : i < n := by
                    have := (List.getElem?_eq_some_iff.1 hm).1
                    rw [HN.out] at this
                    exact this
                  generalize prioG (firstK ms k) i = pr at *
                  generalize idxN (firstK ms k) i = ix at *
                  have ii0 : (0 : Int) ≤ (i : Int) := by omega
                  have ii1 : (i : Int) < (n : Int) := by omega
                  have ii2 : (i : Int) < (st.upto.length : Int) := by rw [HUL.out]; exact ii1
                  have hle : decide (u ≤ m.granted) = false := by simpa using hult
                  have HIDX := Lib.hid hidx
                  have HPR := Lib.hid hprio
                  have HSN := Lib.hid hsn
                  have HMI := Lib.hid hmi
                  have HOUT := Lib.hid hout
                  clear hidx hprio hsn hm hp hu u3 hmi hout hti
                  have hbE : b < wE.heap.size := HTB.out.lt
                  have hguE : gu < wE.heap.size := (HTU.out.lt gu rfl).2
                  have hgE : g < wE.heap.size := Nat.lt_of_lt_of_le hg hsm
                  have hEr := HMI.out.size
                  have hrow : wr.ownsRow wE.heap.size 40 4 (.slice Ao q co) q (((st.met.take q).map (grantOf ms st (firstK ms k))).flatMap encG) := by
                    have h := HOUT.out
                    unfold Own at h
                    rw [hxl (by omega)] at h
                    exact h
                  have hbase : ∀ k, (Value.slice Ao q co).ownBlock = some k → wE.heap.size ≤ k := fun q e => HOUT.out.base e
                  have HRW := Lib.hid fun p : Int => own_mod ((Mod.refl (fun _ => False) wr).alloc (.cells #[.int .i64 m.peer, .int .u64 m.id, .int .i64 u, .int .i64 p] 40)) hrow (fun _ _ e => e)
                  have HLIT := Lib.hid fun p : Int => Reads.of_own (World.ownsRow_lit (base := 0) (size := 4) (e := 40) wr #[.int .i64 m.peer, .int .u64 m.id, .int .i64 u, .int .i64 p] 1 (Nat.zero_le _) (by decide) rfl)
                  have hkeep : ∀ (o : Obj) (w9 : World), Mod (fun k => (Value.slice Ao q co).ownBlock = some k) (wr.alloc o) w9 → w9.cell? ⟨g, off + i * 6, none⟩ = some (.int .i64 m.peer) ∧ w9.cell? ⟨g, off + i * 6 + 1, none⟩ = some (.int .u64 m.id) ∧ w9.cell? ⟨b, 2, none⟩ = some (.slice (some ⟨gu, 0, none⟩) n cu) ∧ w9.cell? ⟨gu, i, none⟩ = some (.int .i64 u) := fun o w9 m9 => by
                    have hsz : (wr.alloc o).heap.size = wr.heap.size + 1 := by simp
                    have far : ∀ p : Addr, p.block < wE.heap.size → w9.cell? p = wr.cell? p := fun p hp => by
                      rw [m9.cell (p := p) (by omega) (fun e => by have := hbase _ e; omega), World.cell?_alloc_lt wr o p (by omega)]
                    have hb2 := hcbi 2
                    rw [hul] at hb2
                    exact ⟨(far _ hgE).trans c0, (far _ hgE).trans c1, (far _ hbE).trans hb2, (far _ hguE).trans hcu'⟩
                  have HBASE := Lib.hid hbase
                  have KEEP := Lib.hid hkeep
                  have nb1 := World.new_ne wr ⟨b, 2, none⟩ (hcbi 2)
                  have nb2 := World.new_ne wr ⟨gu, i, none⟩ hcu'
                  have nb3 := World.new_ne wr ⟨g, off + i * 6, none⟩ c0
                  clear hrow hbase hkeep
                  go_upto_region 22 with fail
                  go_quiet (fail)
                  go_wp2_with fail
                  have HHF := Lib.hid ((HFK.out.later HMI.out hsz6).drewN)
                  refine (HIDX.out _ _ (HHF.out _) (by rw [HKL.out]; omega)).mono ?_
                  rintro e w8 ⟨rfl, rfl⟩
                  by_cases hix : 0 ≤ ix
                  · have hpv : pr = max (6 - ix) 0 := by rw [HPR.out, if_pos hix]
                    have HPV := Lib.hid hpv
                    clear hpv
                    go_upto_region 27 with fail
                    go_region_held3 (fun w' => w'.cell? ⟨g, off + i * 6, none⟩ = some (.int .i64 m.peer) ∧ w'.cell? ⟨g, off + i * 6 + 1, none⟩ = some (.int .u64 m.id) ∧ w'.cell? ⟨b, 2, none⟩ = some (.slice (some ⟨gu, 0, none⟩) n cu) ∧ w'.cell? ⟨gu, i, none⟩ = some (.int .i64 u)) (go_keep)
                      ((refine step_append_any _ (by rfl) (.tmp 132) (.tmp 152) 29 (by rfl) wE.heap.size 40 iG _ 4 32 Tryz.underlying29 hiG hzG0 hzG1 hzG2 (by rfl) (by omega) (.slice Ao q co) q (((st.met.take q).map (grantOf ms st (firstK ms k))).flatMap encG) (by rfl) (HRW.out (max (6 - ix) 0)) _ (some ⟨wr.heap.size, 0, none⟩) 1 1 [.int .i64 m.peer, .int .u64 m.id, .int .i64 u, .int .i64 (max (6 - ix) 0)] (by rfl) (HLIT.out (max (6 - ix) 0)) (one_G _ _ _ _) (by simp only [maxLen]; omega) (by omega) (by simp; omega) ?_; intro v9 w9 hown9 hgr9 hat9; obtain ⟨kk0, kk1, kk2, kk3⟩ := KEEP.out _ w9 ⟨(Mod.ofGrown hgr9).os, (Mod.ofGrown hgr9).tape, (Mod.ofGrown hgr9).output, (Mod.ofGrown hgr9).size, (Mod.ofGrown hgr9).block⟩))
                    all_goals
                      have hown10 : Own w9 wE.heap.size 40 4 encG v9 ((st.met.take (q + 1)).map (grantOf ms st (firstK ms k))) := by
                        unfold Own
                        rw [HSN.out, HPV.out, flat_snoc, List.length_append, hxl (by omega)]
                        exact hown9
                      have m10 : Mod (fun _ => False) wE w9 := ((HMI.out.drewN _).alloc _).trans (Mod.ofGrown hgr9) (fun k hk e => by
                        have := HBASE.out k e
                        omega)
                      have HO10 := Lib.hid hown10
                      have HM10 := Lib.hid m10
                      clear hown10 m10 hown9 hgr9 hat9
                      go_wp2_with fail
                      go_roundg (g0 - 1)
                      case measure => omega
                      case rel => exact ⟨q + 1, by omega, by go_num, HO10.out, HM10.out⟩
                  · have hpv : pr = 0 := by rw [HPR.out, if_neg hix]
                    have HPV := Lib.hid hpv
                    clear hpv
                    go_upto_region 27 with fail
                    go_region_held3 (fun w' => w'.cell? ⟨g, off + i * 6, none⟩ = some (.int .i64 m.peer) ∧ w'.cell? ⟨g, off + i * 6 + 1, none⟩ = some (.int .u64 m.id) ∧ w'.cell? ⟨b, 2, none⟩ = some (.slice (some ⟨gu, 0, none⟩) n cu) ∧ w'.cell? ⟨gu, i, none⟩ = some (.int .i64 u)) (go_keep)
                      ((refine step_append_any _ (by rfl) (.tmp 132) (.tmp 152) 29 (by rfl) wE.heap.size 40 iG _ 4 32 Tryz.underlying29 hiG hzG0 hzG1 hzG2 (by rfl) (by omega) (.slice Ao q co) q (((st.met.take q).map (grantOf ms st (firstK ms k))).flatMap encG) (by rfl) (HRW.out 0) _ (some ⟨wr.heap.size, 0, none⟩) 1 1 [.int .i64 m.peer, .int .u64 m.id, .int .i64 u, .int .i64 0] (by rfl) (HLIT.out 0) (one_G _ _ _ _) (by simp only [maxLen]; omega) (by omega) (by simp; omega) ?_; intro v9 w9 hown9 hgr9 hat9; obtain ⟨kk0, kk1, kk2, kk3⟩ := KEEP.out _ w9 ⟨(Mod.ofGrown hgr9).os, (Mod.ofGrown hgr9).tape, (Mod.ofGrown hgr9).output, (Mod.ofGrown hgr9).size, (Mod.ofGrown hgr9).block⟩))
                    all_goals
                      have hown10 : Own w9 wE.heap.size 40 4 encG v9 ((st.met.take (q + 1)).map (grantOf ms st (firstK ms k))) := by
                        unfold Own
                        rw [HSN.out, HPV.out, flat_snoc, List.length_append, hxl (by omega)]
                        exact hown9
                      have m10 : Mod (fun _ => False) wE w9 := ((HMI.out.drewN _).alloc _).trans (Mod.ofGrown hgr9) (fun k hk e => by
                        have := HBASE.out k e
                        omega)
                      have HO10 := Lib.hid hown10
                      have HM10 := Lib.hid m10
                      clear hown10 m10 hown9 hgr9 hat9
                      go_wp2_with fail
                      go_roundg (g0 - 1)
                      case measure => omega
                      case rel => exact ⟨q + 1, by omega, by go_num, HO10.out, HM10.out⟩
                · have htk : st.met.take q = st.met := List.take_of_length_le (by rw [HNM.out]; omega)
                  rw [htk, ← HGR.out] at hout
                  have HO := Lib.hid (hout.le hsm)
                  have HMF := Lib.hid (HMW.out.trans hmi (fun _ _ e => e))
                  clear hout htk hmi
                  go_wp2_with fail
                  go_ret2
                  exact ⟨_, rfl, HO.out, HMF.out⟩
end Go.Proofs.YtigkndbkaagboaaGreatDoor
