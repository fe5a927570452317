/- Numbers that have ended: plain. -/
import Derived.Test.YtddnlbkocmpffaaZBinU
import Derived.Test.YtddnlbkocmpffaaZG1
import Derived.StillTailTactics
import Derived.Test.YtddnlbkocmpffaaZG7
import Derived.Deep.QuietTactic
import Derived.BigQuiet
import Derived.Deep.CutBlock
namespace Go.Proofs.Ytddnlbkocmpffaa
set_option linter.unusedVariables false
/-- The mark goes on over all that have ended. -/
def goesL : Int → List Int → Int × List Int
  | m, [] => (m, [])
  | m, r :: rs => if r ≤ m then goesL (max m (r + 1)) rs else (m, r :: rs)
/-- A window that may be: its mark, and records that rise beyond it. -/
structure WinOk (m : Int) (l : List Int) : Prop where
  lo : 1 ≤ m
  hi : m ≤ 1152921504606846977
  rise : l.Pairwise (· < ·)
  beyond : ∀ r ∈ l, m < r ∧ r ≤ 1152921504606846976
def winIs (m : Int) (l : List Int) (id : Int) : Bool := decide (id ≠ 0) && (decide (id ∈ l) || decide (id < m))
theorem goesL_ok : ∀ (l : List Int) (m : Int), 1 ≤ m → m ≤ 1152921504606846977 → l.Pairwise (· < ·) → (∀ r ∈ l, r ≤ 1152921504606846976) → WinOk (goesL m l).1 (goesL m l).2
  | [], m, h1, h2, _, _ => ⟨h1, h2, List.Pairwise.nil, fun r h => by cases h⟩
  | r :: rs, m, h1, h2, h3, h4 => by
    have hr := h4 r (List.mem_cons_self ..)
    rw [List.pairwise_cons] at h3
    unfold goesL
    split
    · exact goesL_ok rs _ (by omega) (by omega) h3.2 fun x hx => h4 x (List.mem_cons_of_mem _ hx)
    · refine ⟨h1, h2, List.pairwise_cons.2 h3, fun x hx => ?_⟩
      rcases List.mem_cons.1 hx with rfl | hx'
      · exact ⟨by omega, hr⟩
      · have := h3.1 x hx'
        exact ⟨by omega, h4 x hx⟩
theorem goesL_is : ∀ (l : List Int) (m id : Int), (id ∈ (goesL m l).2 ∨ id < (goesL m l).1) ↔ (id ∈ l ∨ id < m)
  | [], m, id => by simp [goesL]
  | r :: rs, m, id => by
    unfold goesL
    split
    · rename_i h
      rw [goesL_is rs]
      have : id < max m (r + 1) ↔ (id = r ∨ id < m) := by omega
      rw [this, List.mem_cons]
      constructor
      · rintro (h | h | h)
        · exact .inl (.inr h)
        · exact .inl (.inl h)
        · exact .inr h
      · rintro ((h | h) | h)
        · exact .inr (.inl h)
        · exact .inl h
        · exact .inr (.inr h)
    · exact Iff.rfl
theorem goesL_len : ∀ (l : List Int) (m : Int), (goesL m l).2.length ≤ l.length
  | [], m => Nat.le_refl _
  | r :: rs, m => by
    unfold goesL
    split
    · have := goesL_len rs (max m (r + 1))
      simp; omega
    · exact Nat.le_refl _
theorem goesL_first {l : List Int} {m r : Int} (h : r ∈ l) (hr : r ≤ m) (hp : l.Pairwise (· < ·)) : (goesL m l).2.length < l.length := by
  cases l with
  | nil => cases h
  | cons x xs =>
    have hx : x ≤ m := by
      rcases List.mem_cons.1 h with rfl | h
      · exact hr
      · have := (List.pairwise_cons.1 hp).1 r h
        omega
    unfold goesL
    rw [if_pos hx]
    have := goesL_len xs (max m (x + 1))
    simp; omega
/-- One more put in, in order. -/
def putIn (l : List Int) (id : Int) : List Int := l.take (placeU l id) ++ id :: l.drop (placeU l id)
theorem putIn_mem (l : List Int) (id x : Int) : x ∈ putIn l id ↔ x = id ∨ x ∈ l := by
  unfold putIn
  conv => rhs; rw [← List.take_append_drop (placeU l id) l]
  simp only [List.mem_append, List.mem_cons]
  constructor
  · rintro (h | h | h)
    · exact .inr (.inl h)
    · exact .inl h
    · exact .inr (.inr h)
  · rintro (h | h | h)
    · exact .inr (.inl h)
    · exact .inl h
    · exact .inr (.inr h)
theorem putIn_len (l : List Int) (id : Int) : (putIn l id).length = l.length + 1 := by
  unfold putIn
  have := placeU_le l id
  rw [List.length_append, List.length_cons, List.length_take, List.length_drop]
  omega
theorem place_split {l : List Int} {id : Int} (h : l.Pairwise (· < ·)) : (∀ z ∈ l.take (placeU l id), z < id) ∧ ∀ z ∈ l.drop (placeU l id), id ≤ z := by
  induction l with
  | nil => exact ⟨fun z h => by simp at h, fun z h => by simp at h⟩
  | cons x xs ih =>
    rw [List.pairwise_cons] at h
    obtain ⟨i1, i2⟩ := ih h.2
    by_cases hx : x < id
    · have e : placeU (x :: xs) id = placeU xs id + 1 := by unfold placeU; rw [List.countP_cons_of_pos (by simpa using hx)]
      rw [e, List.take_succ_cons, List.drop_succ_cons]
      refine ⟨fun z hz => ?_, i2⟩
      rcases List.mem_cons.1 hz with rfl | hz
      · exact hx
      · exact i1 z hz
    · have e : placeU (x :: xs) id = 0 := by
        unfold placeU
        rw [List.countP_eq_zero]
        intro z hz
        rcases List.mem_cons.1 hz with rfl | hz
        · simpa using hx
        · have := h.1 z hz
          simp; omega
      rw [e, List.take_zero, List.drop_zero]
      refine ⟨fun z hz => (by cases hz), fun z hz => ?_⟩
      rcases List.mem_cons.1 hz with rfl | hz
      · omega
      · have := h.1 z hz
        omega
theorem putIn_rise {l : List Int} {id : Int} (h : l.Pairwise (· < ·)) (hn : id ∉ l) : (putIn l id).Pairwise (· < ·) := by
  obtain ⟨h1, h2⟩ := place_split (id := id) h
  unfold putIn
  rw [List.pairwise_append, List.pairwise_cons]
  refine ⟨h.sublist (List.take_sublist _ _), ⟨fun z hz => ?_, h.sublist (List.drop_sublist _ _)⟩, fun x hx y hy => ?_⟩
  · have := h2 z hz
    have hne : id ≠ z := fun e => hn (by rw [e]; exact List.mem_of_mem_drop hz)
    omega
  · have := h1 x hx
    rcases List.mem_cons.1 hy with rfl | hy
    · exact this
    · have := h2 y hy
      omega
/-- A window behind 'Done'. -/
def doneL (m : Int) (l : List Int) (id : Int) : Int × List Int := goesL m (putIn l id)
theorem doneL_ok {m : Int} {l : List Int} {id : Int} (h : WinOk m l) (h1 : 1 ≤ id) (h2 : id ≤ 1152921504606846976) (hn : id ∉ l) : WinOk (doneL m l id).1 (doneL m l id).2 :=
  goesL_ok _ _ h.lo h.hi (putIn_rise h.rise hn) fun r hr => by
    rcases (putIn_mem l id r).1 hr with rfl | hr
    · exact h2
    · exact (h.beyond r hr).2
theorem doneL_is (m : Int) (l : List Int) (id x : Int) (h0 : id ≠ 0) : winIs (doneL m l id).1 (doneL m l id).2 x = (winIs m l x || decide (x = id)) := by
  unfold winIs doneL
  have h := goesL_is (putIn l id) m x
  rw [putIn_mem] at h
  rw [Bool.eq_iff_iff]
  simp only [Bool.and_eq_true, Bool.or_eq_true, decide_eq_true_eq, h]
  constructor
  · rintro ⟨h1, (h2 | h2) | h2⟩
    · exact .inr h2
    · exact .inl ⟨h1, .inl h2⟩
    · exact .inl ⟨h1, .inr h2⟩
  · rintro (⟨h1, h2 | h2⟩ | h2)
    · exact ⟨h1, .inl (.inr h2)⟩
    · exact ⟨h1, .inr h2⟩
    · exact ⟨by rw [h2]; exact h0, .inl (.inl h2)⟩
/-- .. and behind 'Retire'. -/
def retL (m : Int) (l : List Int) (below : Int) : Int × List Int := goesL (max m (min below 1152921504606846977)) l
theorem retL_ok {m : Int} {l : List Int} {b : Int} (h : WinOk m l) : WinOk (retL m l b).1 (retL m l b).2 :=
  goesL_ok _ _ (by have := h.lo; omega) (by have := h.hi; omega) h.rise fun r hr => (h.beyond r hr).2
theorem retL_is (m : Int) (l : List Int) (b x : Int) : winIs (retL m l b).1 (retL m l b).2 x = (winIs m l x || (decide (x ≠ 0) && decide (x < min b 1152921504606846977))) := by
  unfold winIs retL
  have h := goesL_is l (max m (min b 1152921504606846977)) x
  rw [Bool.eq_iff_iff]
  simp only [Bool.and_eq_true, Bool.or_eq_true, decide_eq_true_eq, h]
  constructor
  · rintro ⟨h1, h2 | h2⟩
    · exact .inl ⟨h1, .inl h2⟩
    · rcases (show x < m ∨ x < min b 1152921504606846977 by omega) with h3 | h3
      · exact .inl ⟨h1, .inr h3⟩
      · exact .inr ⟨h1, h3⟩
  · rintro (⟨h1, h2 | h2⟩ | ⟨h1, h2⟩)
    · exact ⟨h1, .inl h2⟩
    · exact ⟨h1, .inr (by omega)⟩
    · exact ⟨h1, .inr (by omega)⟩
end Go.Proofs.Ytddnlbkocmpffaa
namespace Go.Proofs.Ytddnlbkocmpffaa
open Go.RowKit
set_option linter.unusedVariables false
set_option maxHeartbeats 4000000
set_option maxRecDepth 100000
/-- Nothing taken out. -/
theorem delete0 (A : Option Addr) (n cap i : Nat) (w : World) (hi : i ≤ n) (hn : n ≤ cap) (hb : cap ≤ maxLen) :
    Calls Try.prog 93 #[.slice A n cap, .int .i64 i, .int .i64 i] w fun e w' => e = .returned (.slice A n cap) ∧ w = w' := by
  have h1 : (i : Int) ≤ (n : Int) := by omega
  have h2 : (i : Int) ≤ (cap : Int) := by omega
  have h3 : (n : Int) ≤ (cap : Int) := by omega
  by_cases hc : cap = i
  · subst hc
    obtain rfl : n = cap := by omega
    go_enter Try.func93, Try.ntmps93
    go_wp2_with fail
    go_ret
    exact ⟨rfl, rfl⟩
  · by_cases hni : n = i
    · subst hni
      go_enter Try.func93, Try.ntmps93
      go_wp2_with fail
      go_ret
      exact ⟨rfl, rfl⟩
    · go_enter Try.func93, Try.ntmps93
      go_wp2_with fail
      go_ret
      exact ⟨rfl, rfl⟩
/-- A window in memory: its block, its records' row. -/
structure WinB (w : World) (B bw : Nat) (most mark : Int) (v : Value) (l : List Int) : Prop where
  blk : Blk w bw 119 #[.int .i64 most, .int .u64 mark, v]
  own : Own w B 29 1 encU v l
  apart : v.ownBlock ≠ some bw
  base : B ≤ bw
  ok : WinOk mark l
  room : l.length ≤ most
  small : most ≤ 100000
theorem WinB.mod {S : Nat → Prop} {w w' : World} {B bw : Nat} {most mark : Int} {v : Value} {l : List Int} (h : WinB w B bw most mark v l) (m : Mod S w w') (h1 : ¬ S bw) (h2 : ∀ k, v.ownBlock = some k → ¬ S k) : WinB w' B bw most mark v l :=
  ⟨h.blk.mod m h1, h.own.mod m h2, h.apart, h.base, h.ok, h.room, h.small⟩
theorem isNone (id : Int) (w : World) : Calls Try.prog 55 #[.pointer none, .int .u64 id] w fun e w' => e = .returned (.bool false) ∧ w = w' := by
  go_enter Try.func55, Try.ntmps55
  go_wp2
  go_ret
  exact ⟨rfl, rfl⟩
theorem isW (bw : Nat) (most mark id : Int) (v : Value) (l : List Int) (w : World) (B : Nat) (h : WinB w B bw most mark v l) :
    Calls Try.prog 55 #[.pointer (some ⟨bw, 0, none⟩), .int .u64 id] w fun e w' => e = .returned (.bool (winIs mark l id)) ∧ Mod (fun _ => False) w w' := by
  obtain ⟨R, hR⟩ : ∃ R, winIs mark l id = R := ⟨_, rfl⟩
  rw [hR]
  unfold winIs at hR
  have hb := binU v l id w B h.own h.ok.rise (by have := h.room; have := h.small; omega)
  generalize decide (id ∈ l) = D at *
  generalize placeU l id = p at *
  have HB := Lib.hid hb
  have HH := Lib.hid h.blk
  have c1 : w.cell? ⟨bw, 1, none⟩ = some (.int .u64 mark) := h.blk.cell 1
  have c2 : w.cell? ⟨bw, 2, none⟩ = some v := h.blk.cell 2
  have HR := Lib.hid hR
  clear hR hb h
  by_cases h0 : id = 0
  · obtain rfl : R = false := by rw [← HR.out, h0]; rfl
    subst h0
    go_enter Try.func55, Try.ntmps55
    go_wp2_with fail
    go_ret
    exact ⟨rfl, Mod.refl _ _⟩
  · have h0b : (id == 0) = false := by simpa using h0
    go_enter Try.func55, Try.ntmps55
    go_wp2_with fail
    refine HB.out.mono ?_
    rintro e w2 ⟨rfl, m2⟩
    have d1 : w2.cell? ⟨bw, 1, none⟩ = some (.int .u64 mark) := (HH.out.mod m2 (fun e => e)).cell 1
    have HM := Lib.hid m2
    clear m2 c1 c2
    cases D with
    | true =>
      obtain rfl : R = true := by rw [← HR.out]; simp [h0]
      go_wp2_with fail
      go_ret
      exact ⟨rfl, HM.out⟩
    | false =>
      obtain rfl : R = decide (id < mark) := by rw [← HR.out]; simp [h0]
      go_wp2_with fail
      go_ret
      exact ⟨rfl, HM.out⟩
/-- The first k taken out. -/
theorem deleteHead (v : Value) (l : List Int) (k : Nat) (w : World) (B : Nat) (h : Own w B 29 1 encU v l) (hk : k ≤ l.length) (hl : l.length ≤ 1000000) :
    Calls Try.prog 93 #[v, .int .i64 0, .int .i64 k] w fun e w' => ∃ v', e = .returned v' ∧ Own w' B 29 1 encU v' (l.drop k) ∧ v'.ownBlock = v.ownBlock ∧ Mod (fun j => v.ownBlock = some j) w w' := by
  rcases Nat.eq_zero_or_pos k with rfl | hk0
  · obtain ⟨A, cap, rfl, hc, hA⟩ := h.form
    have hcm : cap ≤ maxLen := by
      rcases hA with ⟨_, _, rfl⟩ | ⟨g, rfl, _⟩
      · exact Nat.zero_le _
      · obtain ⟨cur, r, _, _, _, _, h5, _⟩ := h.row
        exact h5
    refine (delete0 A l.length cap 0 w (Nat.zero_le _) hc hcm).mono ?_
    rintro e w' ⟨rfl, rfl⟩
    exact ⟨_, rfl, by rw [List.drop_zero]; exact h, rfl, Mod.refl _ _⟩
  · obtain ⟨g, cap, rfl, hc, hg1, hg2⟩ := h.form1 (by omega)
    refine (SlU.deleteW g cap l.length 0 k l w B h hk0 hk hl).mono ?_
    rintro e w' ⟨rfl, h1, h2⟩
    refine ⟨_, rfl, ?_, rfl, h2.mono (fun i hi e => by rw [e]; rfl)⟩
    simpa using h1
theorem goesW (bw : Nat) (most mark m0 : Int) (v : Value) (l : List Int) (w : World) (B : Nat) (hb : Blk w bw 119 #[.int .i64 most, .int .u64 mark, v]) (ho : Own w B 29 1 encU v l) (hap : v.ownBlock ≠ some bw) (hl : l.length ≤ 1000000) (hi : ∀ r ∈ l, 0 ≤ r ∧ r ≤ 1152921504606846976) (hm0 : 0 ≤ mark ∧ mark ≤ 1152921504606846977) :
    Calls Try.prog 69 #[.pointer (some ⟨bw, 0, none⟩), .int .u64 m0] w fun e w' => (∃ v', e = .returned (.int .i64 (l.length - (goesL (max mark m0) l).2.length : Nat)) ∧ Blk w' bw 119 #[.int .i64 most, .int .u64 (goesL (max mark m0) l).1, v'] ∧ Own w' B 29 1 encU v' (goesL (max mark m0) l).2 ∧ v'.ownBlock = v.ownBlock) ∧ Mod (fun k => k = bw ∨ v.ownBlock = some k) w w' := by
  obtain ⟨A, cap, rfl, hc, hA⟩ := ho.form
  have hcm : cap ≤ maxLen := by
    rcases hA with ⟨_, _, rfl⟩ | ⟨g, rfl, _⟩
    · exact Nat.zero_le _
    · obtain ⟨cur, r, _, _, _, _, h5, _⟩ := ho.row
      exact h5
  have HA := Lib.hid hA
  have HCM := Lib.hid hcm
  have HO := Lib.hid ho
  have HB := Lib.hid hb
  have HI := Lib.hid hi
  have HAP := Lib.hid hap
  have c1 : w.cell? ⟨bw, 1, none⟩ = some (.int .u64 mark) := hb.cell 1
  have f1 : w.frozen? ⟨bw, 1, none⟩ = false := hb.free 1
  obtain ⟨R, hR⟩ : ∃ R, goesL (max mark m0) l = R := ⟨_, rfl⟩
  rw [hR]
  obtain ⟨mm, hmm⟩ : ∃ mm, max mark m0 = mm := ⟨_, rfl⟩
  rw [hmm] at hR
  have HR := Lib.hid hR
  obtain ⟨n, hn⟩ : ∃ n, l.length = n := ⟨_, rfl⟩
  rw [hn] at HO HB hl hc ⊢
  have HN := Lib.hid hn
  have HB1 := Lib.hid (show Blk (w.setCell ⟨bw, 1, none⟩ (.int .u64 mm)) bw 119 #[.int .i64 most, .int .u64 mm, .slice A n cap] from HB.out.set 1 _)
  have HM1 := Lib.hid (((Mod.refl (fun k => k = bw) w).setCell (p := ⟨bw, 1, none⟩) (fun _ => rfl) (.int .u64 mm)))
  have hmb : 0 ≤ mm := by omega
  have hsp : (mark < m0 ∧ m0 = mm) ∨ (¬ mark < m0 ∧ mark = mm) := by omega
  clear hR hn ho hb hi hA hcm hap hmm hm0
  rcases hsp with ⟨hlt, h2⟩ | ⟨hlt, h2⟩
  all_goals
    go_enter Try.func69, Try.ntmps69
    go_wp2_with fail
    clear c1 f1 hlt h2
    generalize w.setCell ⟨bw, 1, none⟩ (.int .u64 mm) = w1 at *
    go_loopw [4] (fun q wr => ∃ (k : Nat) (mk : Int), q = .int .i64 k ∧ k ≤ n ∧ 0 ≤ mk ∧ Hid (goesL mk (l.drop k) = R) ∧ Blk wr bw 119 #[.int .i64 most, .int .u64 mk, .slice A n cap] ∧ Mod (fun k => k = bw) w1 wr) (fun q _ => n - (intOf q).toNat)
    case atStart => exact ⟨0, mm, rfl, by omega, hmb, by rw [List.drop_zero]; exact HR, HB1.out, Mod.refl _ _⟩
    case round =>
      obtain ⟨k, mk, rfl, hk, hmk, hrel, hbr, hmr⟩ := hrel
      have c1 : wr.cell? ⟨bw, 1, none⟩ = some (.int .u64 mk) := hbr.cell 1
      have c2 : wr.cell? ⟨bw, 2, none⟩ = some (.slice A n cap) := hbr.cell 2
      have f1 : wr.frozen? ⟨bw, 1, none⟩ = false := hbr.free 1
      have f2 : wr.frozen? ⟨bw, 2, none⟩ = false := hbr.free 2
      have hown := HO.out.mod (HM1.out.trans hmr (fun i hi e => e)) (fun z e1 e2 => HAP.out (by rw [HN.out, ← e2]; exact e1))
      have hdel := deleteHead (.slice A n cap) l k wr B hown (by rw [HN.out]; exact hk) (by rw [HN.out]; exact hl)
      have HDEL := Lib.hid hdel
      have HMR := Lib.hid (HM1.out.trans hmr (fun i hi e => e))
      have HBR := Lib.hid hbr
      have HMW := Lib.hid hmr
      clear hdel hbr hmr
      by_cases hkn : k < n
      · have hkx : k < l.length := by rw [HN.out]; exact hkn
        have hkz : (k : Int) < (n : Int) := by omega
        have hkz0 : (0 : Int) ≤ (k : Int) := by omega
        have hkd : decide ((k : Int) < (n : Int)) = true := by simpa using hkz
        have hx? := List.getElem?_eq_getElem hkx
        have hdr := List.drop_eq_getElem_cons hkx
        have hxb := HI.out _ (List.getElem_mem hkx)
        obtain ⟨g, rfl⟩ : ∃ g, A = some ⟨g, 0, none⟩ := by
          rcases HA.out with ⟨_, hnil, _⟩ | ⟨g, e, _⟩
          · rw [hnil] at hkx; simp at hkx
          · exact ⟨g, e⟩
        have c3 : wr.cell? ⟨g, k, none⟩ = some (.int .u64 (l[k]'hkx)) := by
          have := hown.cell encU_len hx? (j := 0) (by omega)
          simpa using this
        rw [hdr] at hrel
        have HDR := Lib.hid hdr
        generalize l[k]'hkx = x at *
        clear hx? hdr hown hkx
        by_cases hxm : x ≤ mk
        · have hxd : decide (x ≤ mk) = true := by simpa using hxm
          have hnx : goesL (max mk (x + 1)) (l.drop (k + 1)) = R := by
            have := hrel.out
            unfold goesL at this
            rwa [if_pos hxm] at this
          have HNX := Lib.hid hnx
          have hw : IntKind.u64.wrap (x + 1) = x + 1 := by rw [IntKind.wrap_u64]; omega
          clear hrel hnx HDEL HDR
          go_wp2_with fail
          go_quiet (fail)
          go_wp2_with fail
          by_cases hxe : mk < x + 1
          · have hmx : max mk (x + 1) = x + 1 := by omega
            rw [hmx] at HNX
            have hd2 : decide (mk < x + 1) = true := by simpa using hxe
            clear hmx
            refine region_quiet_tail 16 (by kernel_rfl) (by kernel_rfl) ?_
            simp only [List.take_succ_cons, List.take_zero, List.drop_succ_cons, List.drop_zero]
            repeat (go_big_quiet_step (fail))
            refine wpQuiet_nil ?_
            intro _ hw'
            obtain ⟨nk, hw''⟩ := hw'
            subst hw''
            have HB5 := Lib.hid (show Blk (wr.setCell ⟨bw, 1, none⟩ (.int .u64 (x + 1))) bw 119 #[.int .i64 most, .int .u64 (x + 1), .slice (some ⟨g, 0, none⟩) n cap] from HBR.out.set 1 _)
            have HM5 := Lib.hid (HMW.out.setCell (p := ⟨bw, 1, none⟩) (fun _ => rfl) (.int .u64 (x + 1)))
            go_wp2_with fail
            go_roundw
            case rel => exact ⟨k + 1, x + 1, by go_num, by omega, by omega, HNX, HB5.out, HM5.out.drewN _⟩
            case measure => simp [intOf]; omega
          · have hmx : max mk (x + 1) = mk := by omega
            rw [hmx] at HNX
            clear hmx
            refine region_quiet_tail 16 (by kernel_rfl) (by kernel_rfl) ?_
            simp only [List.take_succ_cons, List.take_zero, List.drop_succ_cons, List.drop_zero]
            repeat (go_big_quiet_step (fail))
            refine wpQuiet_nil ?_
            intro _ hw'
            obtain ⟨nk, hw''⟩ := hw'
            subst hw''
            have HB5 := Lib.hid (show Blk (wr.setCell ⟨bw, 1, none⟩ (.int .u64 (mk))) bw 119 #[.int .i64 most, .int .u64 (mk), .slice (some ⟨g, 0, none⟩) n cap] from HBR.out.set 1 _)
            have HM5 := Lib.hid (HMW.out.setCell (p := ⟨bw, 1, none⟩) (fun _ => rfl) (.int .u64 (mk)))
            go_wp2_with fail
            go_roundw
            case rel => exact ⟨k + 1, mk, by go_num, by omega, by omega, HNX, HB5.out, HM5.out.drewN _⟩
            case measure => simp [intOf]; omega
        · have hxd : ¬ x ≤ mk := hxm
          have hxd2 : decide (x ≤ mk) = false := by simpa using hxm
          have hRR : R = (mk, l.drop k) := by
            have := hrel.out
            unfold goesL at this
            rw [if_neg hxm] at this
            rw [← this, HDR.out]
          subst hRR
          have hlen : n - (l.drop k).length = k := by rw [List.length_drop, HN.out]; omega
          have HLE := Lib.hid hlen
          have hdel := fun N : Nat => deleteHead (.slice (some ⟨g, 0, none⟩) n cap) l k (wr.drewN N) B ((HO.out.mod HMR.out (fun z e1 e2 => HAP.out (by rw [HN.out, ← e2]; exact e1))).mod ((Mod.refl (fun _ => False) wr).drewN N) (fun _ _ e => e)) (by rw [HN.out]; exact hk) (by rw [HN.out]; exact hl)
          have HDL := Lib.hid hdel
          clear hdel hrel HDEL hlen HDR
          generalize hD : l.drop k = D at *
          have HD := Lib.hid hD
          clear hD
          go_wp2_with fail
          go_quiet (fail)
          go_wp2_with fail
          refine (HDL.out nq).mono ?_
          rintro e w6 ⟨v', rfl, hv1, hv2, hv3⟩
          have hb6 := (HBR.out.drewN nq).mod hv3 (fun e => HAP.out (by rw [HN.out]; exact e))
          have f6 := hb6.free 2
          have c6 : w6.cell? ⟨bw, 2, none⟩ = some (.slice (some ⟨g, 0, none⟩) n cap) := hb6.cell 2
          obtain ⟨A6, c6', rfl, -, -⟩ := hv1.form
          have HB7 := Lib.hid (show Blk (w6.setCell ⟨bw, 2, none⟩ (.slice A6 D.length c6')) bw 119 #[.int .i64 most, .int .u64 mk, (.slice A6 D.length c6')] from hb6.set 2 _)
          have hm7 : Mod (fun k => k = bw) w6 (w6.setCell ⟨bw, 2, none⟩ (.slice A6 D.length c6')) := (Mod.refl (fun k => k = bw) w6).setCell (p := ⟨bw, 2, none⟩) (fun _ => rfl) _
          have HO7 := Lib.hid (hv1.mod hm7 (fun z e1 e2 => HAP.out (by rw [HN.out, ← hv2, ← e2]; exact e1)))
          have HM7 := Lib.hid (((HMR.out.drewN nq).mono (S' := fun z => z = bw ∨ (Value.slice (some ⟨g, 0, none⟩) n cap).ownBlock = some z) (fun i hi e => .inl e)).trans ((hv3.mono (S' := fun z => z = bw ∨ (Value.slice (some ⟨g, 0, none⟩) n cap).ownBlock = some z) (fun i hi e => .inr e)).trans (hm7.mono (S' := fun z => z = bw ∨ (Value.slice (some ⟨g, 0, none⟩) n cap).ownBlock = some z) (fun i hi e => .inl e)) (fun i hi e => e)) (fun i hi e => e))
          have HV2 := Lib.hid hv2
          clear hv1 hv2 hv3 hb6 hm7
          go_wp2_with fail
          go_ret
          exact ⟨⟨by rw [show n - (l.length - k) = k by have := HN.out; omega]; rfl, _, HB7.out, by rw [HD.out]; exact HO7.out, HV2.out⟩, HM7.out⟩
      · obtain rfl : k = n := by omega
        have hkz : ¬ (k : Int) < (k : Int) := by omega
        have hdn : l.drop k = [] := List.drop_eq_nil_of_le (by rw [HN.out]; exact Nat.le_refl _)
        rw [hdn] at hrel
        have hRR : R = (mk, l.drop k) := by rw [hdn]; exact hrel.out.symm
        subst hRR
        have hlen : k - (l.drop k).length = k := by rw [hdn]; rfl
        have HLE := Lib.hid hlen
        have hdel := fun N : Nat => deleteHead (.slice A k cap) l k (wr.drewN N) B ((HO.out.mod HMR.out (fun z e1 e2 => HAP.out (by rw [HN.out, ← e2]; exact e1))).mod ((Mod.refl (fun _ => False) wr).drewN N) (fun _ _ e => e)) (by rw [HN.out]; exact Nat.le_refl _) (by rw [HN.out]; exact hl)
        have HDL := Lib.hid hdel
        have hkd : decide ((k : Int) < (k : Int)) = false := by simp
        clear hdel hrel HDEL hlen hdn hown
        generalize hD : l.drop k = D at *
        have HD := Lib.hid hD
        clear hD
        go_wp2_with fail
        go_quiet (fail)
        go_wp2_with fail
        refine (HDL.out nq).mono ?_
        rintro e w6 ⟨v', rfl, hv1, hv2, hv3⟩
        have hb6 := (HBR.out.drewN nq).mod hv3 (fun e => HAP.out (by rw [HN.out]; exact e))
        have f6 := hb6.free 2
        have c6 : w6.cell? ⟨bw, 2, none⟩ = some (.slice A k cap) := hb6.cell 2
        obtain ⟨A6, c6', rfl, -, -⟩ := hv1.form
        have HB7 := Lib.hid (show Blk (w6.setCell ⟨bw, 2, none⟩ (.slice A6 D.length c6')) bw 119 #[.int .i64 most, .int .u64 mk, (.slice A6 D.length c6')] from hb6.set 2 _)
        have hm7 : Mod (fun k => k = bw) w6 (w6.setCell ⟨bw, 2, none⟩ (.slice A6 D.length c6')) := (Mod.refl (fun k => k = bw) w6).setCell (p := ⟨bw, 2, none⟩) (fun _ => rfl) _
        have HO7 := Lib.hid (hv1.mod hm7 (fun z e1 e2 => HAP.out (by rw [HN.out, ← hv2, ← e2]; exact e1)))
        have HM7 := Lib.hid (((HMR.out.drewN nq).mono (S' := fun z => z = bw ∨ (Value.slice A k cap).ownBlock = some z) (fun i hi e => .inl e)).trans ((hv3.mono (S' := fun z => z = bw ∨ (Value.slice A k cap).ownBlock = some z) (fun i hi e => .inr e)).trans (hm7.mono (S' := fun z => z = bw ∨ (Value.slice A k cap).ownBlock = some z) (fun i hi e => .inl e)) (fun i hi e => e)) (fun i hi e => e))
        have HV2 := Lib.hid hv2
        clear hv1 hv2 hv3 hb6 hm7
        go_wp2_with fail
        go_ret
        exact ⟨⟨by rw [show k - (l.length - k) = k by have := HN.out; omega]; rfl, _, HB7.out, by rw [HD.out]; exact HO7.out, HV2.out⟩, HM7.out⟩
end Go.Proofs.Ytddnlbkocmpffaa
namespace Go.Proofs.Ytddnlbkocmpffaa
open Go.RowKit
set_option linter.unusedVariables false
set_option maxHeartbeats 4000000
set_option maxRecDepth 100000
theorem doneW (bw : Nat) (most mark id : Int) (v : Value) (l : List Int) (w : World) (B : Nat) (h : WinB w B bw most mark v l) (h1 : 1 ≤ id) (h2 : id ≤ 1152921504606846976) (hn : winIs mark l id = false) (hr : (l.length : Int) < most ∨ id = mark) (hB : B ≤ w.heap.size) :
    Calls Try.prog 40 #[.pointer (some ⟨bw, 0, none⟩), .int .u64 id] w fun e w' => e = .returned (.int .i64 0) ∧ ∃ v', WinB w' B bw most (doneL mark l id).1 v' (doneL mark l id).2 ∧ Mod (fun z => z = bw ∨ v.ownBlock = some z) w w' ∧ (v'.ownBlock = v.ownBlock ∨ ∃ g, v'.ownBlock = some g ∧ w.heap.size ≤ g) := by
  have hlen : l.length ≤ 100000 := by have := h.room; have := h.small; omega
  have hnot : id ∉ l := fun e => by
    unfold winIs at hn
    simp [e] at hn
    omega
  have his := isW bw most mark id v l w B h
  rw [hn] at his
  have hbl := h.blk.lt
  obtain ⟨A, cap, rfl, hc, hA⟩ := h.own.form
  have HA := Lib.hid hA
  have HIS := Lib.hid his
  have HH := Lib.hid h
  have HNOT := Lib.hid hnot
  obtain ⟨n, hnl⟩ : ∃ n, l.length = n := ⟨_, rfl⟩
  rw [hnl] at hr hlen hc
  have HN := Lib.hid hnl
  have HR := Lib.hid hr
  have h0b : (id == 0) = false := by simp; omega
  have h2b : ¬ 1152921504606846976 < id := by omega
  have hg : (¬ most ≤ (n : Int)) ∨ (most ≤ (n : Int) ∧ (id != mark) = false) := by
    rcases hr with e | e
    · exact .inl (by omega)
    · by_cases hm : most ≤ (n : Int)
      · exact .inr ⟨hm, by simp [e]⟩
      · exact .inl hm
  clear h his hA hn hnot hnl hr
  have hgd : (¬ most ≤ (n : Int) ∧ decide (most ≤ (n : Int)) = false) ∨ (most ≤ (n : Int) ∧ decide (most ≤ (n : Int)) = true ∧ (id != mark) = false) := by
    rcases hg with e | ⟨e, e2⟩
    · exact .inl ⟨e, by simpa using e⟩
    · exact .inr ⟨e, by simpa using e, e2⟩
  clear hg
  rcases hgd with ⟨hg, hg2⟩ | ⟨hg, hg2, hge⟩
  all_goals
    go_enter Try.func40, Try.ntmps40
    go_wp2_with fail
    refine HIS.out.mono ?_
    rintro e w2 ⟨rfl, m2⟩
    have HB2 := Lib.hid (HH.out.mod m2 (fun e => e) (fun _ _ e => e))
    have c0 : w2.cell? ⟨bw, 0, none⟩ = some (.int .i64 most) := HB2.out.blk.cell 0
    have c1 : w2.cell? ⟨bw, 1, none⟩ = some (.int .u64 mark) := HB2.out.blk.cell 1
    have c2 : w2.cell? ⟨bw, 2, none⟩ = some (.slice A n cap) := by rw [← HN.out]; exact HB2.out.blk.cell 2
    have HM2 := Lib.hid m2
    clear m2
    go_wp2_with fail
    go_quiet (fail)
    clear hg hg2
    go_wp2_with fail
    refine (binU (.slice A n cap) l id (w2.drewN nq) B (by rw [← HN.out]; exact HB2.out.own.mod ((Mod.refl (fun _ => False) w2).drewN nq) (fun _ _ e => e)) HB2.out.ok.rise (by rw [HN.out]; omega)).mono ?_
    rintro e w3 ⟨rfl, m3⟩
    obtain ⟨p, hp⟩ : ∃ p, placeU l id = p := ⟨_, rfl⟩
    have HP := Lib.hid hp
    have hm3 := (HM2.out.drewN nq).trans m3 (fun _ _ e => e)
    have hm4 := hm3.alloc (.cells #[.int .u64 id] 29)
    have HB4 := Lib.hid (HH.out.mod hm4 (fun e => e) (fun _ _ e => e))
    have hvb := Blk.new w3 29 #[.int .u64 id]
    have hs3 := hm3.size
    have hs4 : (w3.alloc (.cells #[.int .u64 id] 29)).heap.size = w3.heap.size + 1 := by simp
    have hins := SlU.insertW (.slice A n cap) p l id (w3.alloc (.cells #[.int .u64 id] 29)) B (by rw [← HN.out]; exact HB4.out.own) (by rw [← hp]; exact placeU_le l id) (by rw [HN.out]; omega) w3.heap.size hvb (fun e => by
      have := (HH.out.own.lt w3.heap.size (by rw [HN.out]; exact e)).2
      omega) (by rw [hs4]; omega)
    rw [hs4] at hins
    have d2 : w3.cell? ⟨bw, 2, none⟩ = some (.slice A n cap) := by rw [← HN.out]; exact (HH.out.mod hm3 (fun e => e) (fun _ _ e => e)).blk.cell 2
    rw [hp]
    have HINS := Lib.hid hins
    have HM4 := Lib.hid hm4
    clear c0 c1 c2 m3 hm3 hm4 hvb hins hp
    go_wp2_with fail
    refine HINS.out.mono ?_
    rintro e w5 ⟨v5, rfl, ho5, m5, hv5⟩
    have hap : ∀ z, (Value.slice A n cap).ownBlock = some z → z ≠ bw := fun z e1 e2 => HH.out.apart (by rw [HN.out, ← e2]; exact e1)
    have hb5 := HB4.out.blk.mod m5 (fun e => hap bw e rfl)
    have c2 : w5.cell? ⟨bw, 2, none⟩ = some (.slice A l.length cap) := hb5.cell 2
    have f2 := hb5.free 2
    obtain ⟨A5, cap5, rfl, -, -⟩ := ho5.form
    have hv5' : ∀ z, (Value.slice A5 (List.take p l ++ id :: List.drop p l).length cap5).ownBlock = some z → z ≠ bw := fun z e1 e2 => by
      rcases hv5 with e | e
      · rw [e] at e1; exact hap z e1 e2
      · rw [e] at e1; have := Option.some.inj e1; omega
    obtain ⟨N5, hN5⟩ : ∃ N5, (List.take p l ++ id :: List.drop p l).length = N5 := ⟨_, rfl⟩
    rw [hN5] at hv5 hv5' ho5 ⊢
    have hput : List.take p l ++ id :: List.drop p l = putIn l id := by unfold putIn; rw [HP.out]
    rw [hput] at ho5 hN5
    have HB6 := Lib.hid (show Blk (w5.setCell ⟨bw, 2, none⟩ (.slice A5 N5 cap5)) bw 119 #[.int .i64 most, .int .u64 mark, .slice A5 N5 cap5] from hb5.set 2 _)
    have hm6 : Mod (fun z => z = bw) w5 (w5.setCell ⟨bw, 2, none⟩ (.slice A5 N5 cap5)) := (Mod.refl (fun z => z = bw) w5).setCell (p := ⟨bw, 2, none⟩) (fun _ => rfl) _
    have HO6 := Lib.hid (ho5.mod hm6 (fun z e1 e2 => hv5' z e1 e2))
    have HM6 := Lib.hid ((HM4.out.mono (S' := fun z => z = bw ∨ (Value.slice A n cap).ownBlock = some z) (fun i hi e => e.elim)).trans ((m5.mono (S' := fun z => z = bw ∨ (Value.slice A n cap).ownBlock = some z) (fun i hi e => .inr e)).trans (hm6.mono (S' := fun z => z = bw ∨ (Value.slice A n cap).ownBlock = some z) (fun i hi e => .inl e)) (fun i hi e => e)) (fun i hi e => e))
    have HV5 := Lib.hid hv5
    have HV5' := Lib.hid hv5'
    have HN5 := Lib.hid hN5
    have hs5 := m5.size
    clear m5 hm6 ho5 hv5 hv5' hN5 hput hb5 hap d2
    go_upto_region 9 with fail
    generalize w5.setCell ⟨bw, 2, none⟩ (.slice A5 N5 cap5) = w6 at *
    have c1 : w6.cell? ⟨bw, 1, none⟩ = some (.int .u64 mark) := HB6.out.cell 1
    clear c2 f2
    have hok := doneL_ok HH.out.ok h1 h2 HNOT.out
    have hg7 := goesW bw most mark mark (.slice A5 N5 cap5) (putIn l id) w6 B HB6.out HO6.out (fun e => HV5'.out bw e rfl) (by rw [putIn_len, HN.out]; omega) (fun r hr => by
      rcases (putIn_mem l id r).1 hr with rfl | hr
      · omega
      · have := HH.out.ok.beyond r hr
        have := HH.out.ok.lo
        omega) ⟨by have := HH.out.ok.lo; omega, HH.out.ok.hi⟩
    rw [show max mark mark = mark by omega] at hg7
    have HG7 := Lib.hid hg7
    have HOK := Lib.hid hok
    clear hg7 hok
    go_wp2_with fail
    refine HG7.out.mono ?_
    rintro e w7 ⟨⟨v7, rfl, hb7, ho7, hv7⟩, m7⟩
    have hroom : ((doneL mark l id).2.length : Int) ≤ most := by
      have e1 := goesL_len (putIn l id) mark
      rw [putIn_len, HN.out] at e1
      unfold doneL
      rcases HR.out with h | h
      · omega
      · have e2 := goesL_first (l := putIn l id) (m := mark) (r := id) ((putIn_mem l id id).2 (.inl rfl)) (by omega) (putIn_rise HH.out.ok.rise HNOT.out)
        rw [putIn_len, HN.out] at e2
        have := HH.out.room
        rw [HN.out] at this
        omega
    have HF := Lib.hid (⟨hb7, ho7, fun e => HV5'.out bw (by rw [← hv7]; exact e) rfl, HH.out.base, HOK.out, hroom, HH.out.small⟩ : WinB w7 B bw most (doneL mark l id).1 v7 (doneL mark l id).2)
    have HMF := Lib.hid (HM6.out.trans m7 (S' := fun z => z = bw ∨ (Value.slice A5 N5 cap5).ownBlock = some z) (fun i hi e => by
      rcases e with e | e
      · exact .inl e
      · rcases HV5.out with e2 | e2
        · rw [e2] at e; exact .inr e
        · rw [e2] at e; have := Option.some.inj e; omega))
    have hvf : v7.ownBlock = (Value.slice A n cap).ownBlock ∨ ∃ g, v7.ownBlock = some g ∧ w.heap.size ≤ g := by
      rw [hv7]
      rcases HV5.out with e | e
      · exact .inl e
      · exact .inr ⟨_, e, by omega⟩
    have HVF := Lib.hid hvf
    clear hb7 ho7 hv7 m7 hroom hvf
    go_wp2_with fail
    go_ret
    have hE : (Value.slice A n cap) = .slice A l.length cap := by rw [HN.out]
    rw [hE] at HMF HVF
    exact ⟨rfl, v7, HF.out, HMF.out, HVF.out⟩
theorem doneIs (bw : Nat) (most mark id : Int) (v : Value) (l : List Int) (w : World) (B : Nat) (h : WinB w B bw most mark v l) (h1 : 1 ≤ id) (h2 : id ≤ 1152921504606846976) (hn : winIs mark l id = true) :
    Calls Try.prog 40 #[.pointer (some ⟨bw, 0, none⟩), .int .u64 id] w fun e w' => e = .returned (.int .i64 0) ∧ Mod (fun _ => False) w w' := by
  have his := isW bw most mark id v l w B h
  rw [hn] at his
  have HIS := Lib.hid his
  have h0b : (id == 0) = false := by simp; omega
  have h2b : ¬ 1152921504606846976 < id := by omega
  clear h his hn
  go_enter Try.func40, Try.ntmps40
  go_wp2_with fail
  refine HIS.out.mono ?_
  rintro e w2 ⟨rfl, m2⟩
  go_wp2_with fail
  go_ret
  exact ⟨rfl, m2⟩
theorem lenW (bw : Nat) (most mark : Int) (v : Value) (l : List Int) (w : World) (B : Nat) (h : WinB w B bw most mark v l) :
    Calls Try.prog 58 #[.pointer (some ⟨bw, 0, none⟩)] w fun e w' => e = .returned (.int .i64 (l.length : Nat)) ∧ w = w' := by
  obtain ⟨A, cap, rfl, hc, -⟩ := h.own.form
  have c2 : w.cell? ⟨bw, 2, none⟩ = some (.slice A l.length cap) := h.blk.cell 2
  clear h
  go_enter Try.func58, Try.ntmps58
  go_wp2
  go_ret
  exact ⟨rfl, rfl⟩
theorem markW (bw : Nat) (most mark : Int) (v : Value) (l : List Int) (w : World) (B : Nat) (h : WinB w B bw most mark v l) :
    Calls Try.prog 59 #[.pointer (some ⟨bw, 0, none⟩)] w fun e w' => e = .returned (.int .u64 mark) ∧ w = w' := by
  have c1 : w.cell? ⟨bw, 1, none⟩ = some (.int .u64 mark) := h.blk.cell 1
  clear h
  go_enter Try.func59, Try.ntmps59
  go_wp2
  go_ret
  exact ⟨rfl, rfl⟩
theorem newW (most : Int) (w : World) (h1 : 1 ≤ most) (h2 : most ≤ 100000) :
    Calls Try.prog 34 #[.int .i64 most] w fun e w' => e = .returned (.tuple #[.pointer (some ⟨w.heap.size, 0, none⟩), .int .i64 0]) ∧ WinB w' w.heap.size w.heap.size most 1 (.slice none 0 0) [] ∧ w'.heap.size = w.heap.size + 1 ∧ Mod (fun _ => False) w w' := by
  have hb := Blk.new w 119 #[.int .i64 most, .int .u64 1, .slice none 0 0]
  have HF := Lib.hid (⟨hb, Own.nil, fun e => by simp [Value.ownBlock] at e, Nat.le_refl _, ⟨by omega, by omega, List.Pairwise.nil, fun r h => by cases h⟩, by simp; omega, h2⟩ : WinB (w.alloc (.cells #[.int .i64 most, .int .u64 1, .slice none 0 0] 119)) w.heap.size w.heap.size most 1 (.slice none 0 0) [])
  have HM := Lib.hid ((Mod.refl (fun _ => False) w).alloc (.cells #[.int .i64 most, .int .u64 1, .slice none 0 0] 119))
  have h1d : ¬ most < 1 := by omega
  have h2d : ¬ 100000 < most := by omega
  clear hb h1 h2
  go_enter Try.func34, Try.ntmps34
  go_wp2
  go_ret2
  exact ⟨rfl, HF.out, by simp, HM.out⟩
end Go.Proofs.Ytddnlbkocmpffaa
namespace Go.Proofs.Ytddnlbkocmpffaa
open Go.RowKit
set_option linter.unusedVariables false
set_option maxHeartbeats 4000000
set_option maxRecDepth 100000
theorem minW (a b : Int) (g : Nat) (w : World) (hg : w.cell? ⟨g, 0, none⟩ = some (.int .u64 b)) :
    Calls Try.prog 73 #[.int .u64 a, .slice (some ⟨g, 0, none⟩) 1 1] w fun e w' => e = .returned (.int .u64 (min a b)) ∧ w = w' := by
  obtain ⟨R, hR⟩ : ∃ R, min a b = R := ⟨_, rfl⟩
  rw [hR]
  have hsp : (b < a ∧ b = R) ∨ (¬ b < a ∧ a = R) := by omega
  clear hR
  go_enter Try.func73, Try.ntmps73
  go_wp2_with fail
  go_loopw [9, 0] (fun i m wr => wr = w ∧ ((i = .int .i64 0 ∧ m = .int .u64 a) ∨ (i = .int .i64 1 ∧ m = .int .u64 R))) (fun i _ _ => 1 - (intOf i).toNat)
  case atStart => exact ⟨rfl, .inl ⟨rfl, rfl⟩⟩
  case round =>
    obtain ⟨rfl, ⟨rfl, rfl⟩ | ⟨rfl, rfl⟩⟩ := hrel
    · rcases hsp with ⟨h1, h2⟩ | ⟨h1, h2⟩
      all_goals
        go_wp2_with fail
        go_roundw
        case rel => exact ⟨trivial, .inr ⟨by go_num, by trivial⟩⟩
        case measure => simp [intOf]
    · go_wp2_with fail
      go_ret
      exact ⟨rfl, rfl⟩
theorem retireW (bw : Nat) (most mark below : Int) (v : Value) (l : List Int) (w : World) (B : Nat) (h : WinB w B bw most mark v l) (h0 : 0 ≤ below) :
    Calls Try.prog 53 #[.pointer (some ⟨bw, 0, none⟩), .int .u64 below] w fun e w' => (∃ n : Int, e = .returned (.int .i64 n)) ∧ ∃ v', WinB w' B bw most (retL mark l below).1 v' (retL mark l below).2 ∧ Mod (fun z => z = bw ∨ v.ownBlock = some z) w w' ∧ v'.ownBlock = v.ownBlock := by
  have hbl := h.blk.lt
  have hap := h.apart
  have ha := (Mod.refl (fun _ => False) w).alloc (.cells #[.int .u64 1152921504606846977] 29)
  have HM := Lib.hid ha
  have HH := Lib.hid (h.mod ha (fun e => e) (fun _ _ e => e))
  have HV : Hid (∀ z, v.ownBlock = some z → z < w.heap.size) := Lib.hid (fun z e => (h.own.lt z e).2)
  obtain ⟨mm, hmm⟩ : ∃ mm, min below 1152921504606846977 = mm := ⟨_, rfl⟩
  have hmb : 0 ≤ mm := by omega
  have hmin := minW below 1152921504606846977 w.heap.size (w.alloc (.cells #[.int .u64 1152921504606846977] 29)) ((Blk.new w 29 #[.int .u64 1152921504606846977]).cell 0)
  rw [hmm] at hmin
  have HMIN := Lib.hid hmin
  have hgo := goesW bw most mark mm v l (w.alloc (.cells #[.int .u64 1152921504606846977] 29)) B HH.out.blk HH.out.own hap (by have := h.room; have := h.small; omega) (fun r hr => by
    have := h.ok.beyond r hr
    have := h.ok.lo
    omega) ⟨by have := h.ok.lo; omega, h.ok.hi⟩
  have HGO := Lib.hid hgo
  have HRL := Lib.hid (show retL mark l below = goesL (max mark mm) l by unfold retL; rw [hmm])
  have HOK := Lib.hid (retL_ok h.ok (b := below))
  have HH0 := Lib.hid h
  clear h ha hmm hmin hgo
  go_enter Try.func53, Try.ntmps53
  go_wp2_with fail
  refine HMIN.out.mono ?_
  rintro e w2 ⟨rfl, rfl⟩
  go_wp2_with fail
  refine HGO.out.mono ?_
  rintro e w3 ⟨⟨v', rfl, hb, ho, hv⟩, m3⟩
  have HM3 := Lib.hid (HM.out.mono (S' := fun z => z = bw ∨ v.ownBlock = some z) (fun i hi e => e.elim) |>.trans m3 (fun i hi e => e))
  have HF := Lib.hid (show WinB w3 B bw most (retL mark l below).1 v' (retL mark l below).2 from ⟨by rw [HRL.out]; exact hb, by rw [HRL.out]; exact ho, by rw [hv]; exact HH0.out.apart, HH0.out.base, HOK.out, by
    have := goesL_len l (max mark mm)
    have := HH0.out.room
    rw [HRL.out]; omega, HH0.out.small⟩)
  have HVV := Lib.hid hv
  clear hb ho hv m3
  go_wp2_with fail
  go_ret
  exact ⟨⟨_, rfl⟩, v', HF.out, HM3.out, HVV.out⟩
end Go.Proofs.Ytddnlbkocmpffaa
