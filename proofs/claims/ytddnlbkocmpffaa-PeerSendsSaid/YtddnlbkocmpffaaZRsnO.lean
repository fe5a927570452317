/- mizzenref16.Senders: Open, Lowest; mizzenalike.Words. -/
import Derived.Test.YtddnlbkocmpffaaZRsnP
import Derived.Test.YtddnlbkocmpffaaZOpenI
import Derived.BigQuiet
namespace Go.Proofs.Ytddnlbkocmpffaa
open Go.RowKit
set_option linter.unusedVariables false
set_option maxHeartbeats 4000000
set_option maxRecDepth 100000
theorem lowAt_drop {dst : Int} {l : List OutA} {k : Nat} {a : OutA} (hk : l[k]? = some a) :
    (l.drop k).find? (fun a => decide (a.dst = dst ∧ a.st = 1)) = if a.dst = dst ∧ a.st = 1 then some a else (l.drop (k + 1)).find? (fun a => decide (a.dst = dst ∧ a.st = 1)) := by
  obtain ⟨h1, h2⟩ := List.getElem?_eq_some_iff.1 hk
  rw [List.drop_eq_getElem_cons h1, h2]
  by_cases hp : a.dst = dst ∧ a.st = 1
  · rw [if_pos hp, List.find?_cons_of_pos (by simpa using hp)]
  · rw [if_neg hp, List.find?_cons_of_neg (by simpa using hp)]
section
variable {B rb : Nat} {lv : Value} {ovs : List OutV} {S : SndA} {w w' : World}
theorem ropenW (h : RSnd B rb lv ovs S w) (hn : S.l.length ≤ 1000000) :
    Calls Try.prog 27 #[.pointer (some ⟨rb, 0, none⟩)] w fun e w' => (∃ v, e = .returned v ∧ Own w' w.heap.size 29 1 (encN .u64) v (openA S.l)) ∧ Mod NoB w w' := by
  obtain ⟨i0, hi0, hz0, hz1, hz2⟩ := info_parts encU_info
  obtain ⟨A, cap, hv, -, -⟩ := h.row.form
  obtain ⟨n, hnn⟩ : ∃ n, S.l.length = n := ⟨_, rfl⟩
  rw [h.len, hnn] at hv
  have hrl := h.blk.lt
  have c4 : w.cell? ⟨rb, 4, none⟩ = some (.slice A n cap) := by rw [h.blk.cell, ← hv]; rfl
  have HATS := Lib.hid (fun (k : Nat) (a : OutA) (hk : S.l[k]? = some a) => h.ats hk)
  have hrow := h.row
  rw [hv] at hrow
  have HROW := Lib.hid hrow.has
  have HN := Lib.hid hnn
  rw [hnn] at hn
  generalize S.l = l at *
  have HC4 := Lib.hid c4
  clear h hrow hv hnn c4
  go_enter Try.func27, Try.ntmps27
  go_wp2_with fail
  go_loopw [3, 4] (fun o i wr => ∃ k : Nat, i = .int .i64 k ∧ k ≤ n ∧ Own wr w.heap.size 29 1 (encN .u64) o (openA (l.take k)) ∧ Mod NoB w wr) (fun _ i _ => n - (intOf i).toNat)
  case atStart => exact ⟨0, rfl, by omega, Own.nil, Mod.refl _ _⟩
  case round =>
    obtain ⟨k, rfl, hk, hown, hm⟩ := hrel
    have c4 := (hm.cell (p := ⟨rb, 4, none⟩) hrl (fun e => e)).trans HC4.out
    by_cases hkl : k < n
    · have hkz : (k : Int) < (n : Int) := by omega
      have hkz0 : (0 : Int) ≤ (k : Int) := by omega
      have hkx : k < l.length := by rw [HN.out]; exact hkl
      have hx? := List.getElem?_eq_getElem hkx
      obtain ⟨o, ho, e1, e2, e3, -⟩ := HATS.out k _ hx?
      obtain ⟨g, off, rfl, hg, c0⟩ := (HROW.out.later hm (Nat.le_refl _)).at_ encR4_len ho
      have hos := openA_snoc hx?
      have hol := Nat.le_trans (openA_le (l.take k)) (by rw [List.length_take]; exact Nat.min_le_left k _)
      generalize l[k]'hkx = a at *
      have q1 := c0 0 (by omega)
      have q4 := c0 3 (by omega)
      obtain ⟨oid, odst, odv, ost, one⟩ := o
      dsimp only at e1 e2 e3
      subst e1 e2 e3
      simp only [encR4, List.getElem?_cons_zero, List.getElem?_cons_succ, ← Nat.add_assoc, Nat.add_zero] at q1 q4
      have HM := Lib.hid hm
      have HOWN := Lib.hid hown
      have HOS := Lib.hid hos
      obtain ⟨L0, hL0⟩ : ∃ L0, openA (l.take k) = L0 := ⟨_, rfl⟩
      rw [hL0] at HOWN HOS hol
      obtain ⟨aid, adst, adata, ast⟩ := a
      dsimp only at q1 q4 HOS
      clear c0 hx? ho hos hm hown hL0 hkx
      obtain ⟨A1, cap1, rfl, hcap1, _⟩ := HOWN.out.form
      by_cases hst : ast = 1
      · subst hst
        have hlit := World.ownsRow_lit (base := 0) (size := 1) (e := 29) wr #[.int .u64 aid] 1 (Nat.zero_le _) (by decide) rfl
        have HLIT := Lib.hid (Reads.of_own hlit)
        have HOWN2 := Lib.hid (Own.later ((Mod.refl (fun _ => False) wr).alloc (.cells #[.int .u64 aid] 29)) HOWN.out)
        have HBA := Lib.hid (fun q (e : (Value.slice A1 L0.length cap1).ownBlock = some q) => HOWN.out.base e)
        have H1C := Lib.hid (show ∀ y ∈ [Value.int .u64 aid], y.oneCell' = true from fun y hy => by simp at hy; subst hy; rfl)
        have hs5 := HM.out.size
        clear hlit
        go_wp2_with (at_builtin
                     refine wpList_append_any _ rfl (.tmp 23) (.tmp 32) _ rfl w.heap.size 29 i0 _ 1 8 Try.underlying67 hi0 hz0 hz1 hz2 rfl (by omega) (.slice A1 L0.length cap1) L0.length (L0.flatMap (encN .u64)) rfl HOWN2.out _ (some ⟨wr.heap.size, 0, none⟩) 1 1 [.int .u64 aid] rfl HLIT.out H1C.out (by simp only [maxLen]; omega) (by omega) (by simp; omega) ?_
                     intro v2 w8 hown2 hgr2 hat2)
        have hown3 : Own w8 w.heap.size 29 1 (encN .u64) v2 (openA (l.take (k + 1))) := by
          rw [HOS.out]
          unfold Own
          rw [if_pos (by rfl), flat_snoc, List.length_append]
          exact hown2
        have m8 : Mod (fun _ => False) w w8 := (HM.out.alloc (.cells #[.int .u64 aid] 29)).trans (Mod.ofGrown hgr2) (fun q hq e => by
          have := HBA.out q e
          omega)
        go_roundw
        case rel => exact ⟨k + 1, by go_num, by omega, hown3, m8⟩
        case measure => simp [intOf]; omega
      · have hb1 : (ast == 1) = false := by simp [hst]
        go_wp2_with fail
        go_roundw
        case rel => exact ⟨k + 1, by go_num, by omega, by rw [HOS.out, if_neg (by rw [hb1]; decide), List.append_nil]; exact HOWN.out, HM.out⟩
        case measure => simp [intOf]; omega
    · obtain rfl : n = k := by omega
      have hkz : ¬ (n : Int) < (n : Int) := by omega
      have ht : l.take n = l := List.take_of_length_le (by rw [HN.out]; exact Nat.le_refl _)
      rw [ht] at hown
      have HO := Lib.hid hown
      have HM := Lib.hid hm
      clear hown hm
      go_wp2_with fail
      go_ret
      exact ⟨⟨_, rfl, HO.out⟩, HM.out⟩
theorem rlowestW (h : RSnd B rb lv ovs S w) (dst : Int) (hn : S.l.length ≤ 1000000) (h0 : 0 ≤ S.gl) (h1 : S.gl ≤ 1152921504606846976) :
    Calls Try.prog 29 #[.pointer (some ⟨rb, 0, none⟩), .int .i64 dst] w fun e w' => e = .returned (.int .u64 (lowA S dst)) ∧ w = w' := by
  obtain ⟨A, cap, hv, -, -⟩ := h.row.form
  obtain ⟨n, hnn⟩ : ∃ n, S.l.length = n := ⟨_, rfl⟩
  rw [h.len, hnn] at hv
  have c4 : w.cell? ⟨rb, 4, none⟩ = some (.slice A n cap) := by rw [h.blk.cell, ← hv]; rfl
  have c3 : w.cell? ⟨rb, 3, none⟩ = some (.int .u64 S.gl) := by rw [h.blk.cell]; rfl
  have HATS := Lib.hid (fun (k : Nat) (a : OutA) (hk : S.l[k]? = some a) => h.ats hk)
  have hrow := h.row
  rw [hv] at hrow
  have HROW := Lib.hid hrow.has
  have HN := Lib.hid hnn
  rw [hnn] at hn
  have hwr : IntKind.u64.wrap (S.gl + 1) = S.gl + 1 := by rw [IntKind.wrap_u64]; omega
  obtain ⟨R, hR⟩ : ∃ R, lowA S dst = R := ⟨_, rfl⟩
  rw [hR]
  have HR := Lib.hid (show (match S.l.find? (fun a => decide (a.dst = dst ∧ a.st = 1)) with | some a => a.id | none => S.gl + 1) = R from hR)
  generalize S.l = l at *
  generalize S.gl = gl at *
  clear h hrow hv hnn hR h0 h1
  go_enter Try.func29, Try.ntmps29
  go_wp2_with fail
  go_loopw [5] (fun i wr => ∃ k : Nat, i = .int .i64 k ∧ k ≤ n ∧ wr = w ∧ Hid (l.find? (fun a => decide (a.dst = dst ∧ a.st = 1)) = (l.drop k).find? (fun a => decide (a.dst = dst ∧ a.st = 1)))) (fun i _ => n - (intOf i).toNat)
  case atStart => exact ⟨0, rfl, by omega, rfl, Lib.hid rfl⟩
  case round =>
    obtain ⟨k, rfl, hk, hwr2, hfi⟩ := hrel
    subst hwr2
    by_cases hkl : k < n
    · have hkz : (k : Int) < (n : Int) := by omega
      have hkz0 : (0 : Int) ≤ (k : Int) := by omega
      have hkx : k < l.length := by rw [HN.out]; exact hkl
      have hx? := List.getElem?_eq_getElem hkx
      obtain ⟨o, ho, e1, e2, e3, -⟩ := HATS.out k _ hx?
      obtain ⟨g, off, rfl, hg, c0⟩ := HROW.out.at_ encR4_len ho
      have HDR := Lib.hid (hfi.out.trans (lowAt_drop (dst := dst) hx?))
      generalize l[k]'hkx = a at *
      have q1 := c0 0 (by omega)
      have q2 := c0 1 (by omega)
      have q4 := c0 3 (by omega)
      obtain ⟨oid, odst, odv, ost, one⟩ := o
      dsimp only at e1 e2 e3
      obtain ⟨aid, adst, adata, ast⟩ := a
      dsimp only at e1 e2 e3 HDR
      subst e1 e2 e3
      simp only [encR4, List.getElem?_cons_zero, List.getElem?_cons_succ, ← Nat.add_assoc, Nat.add_zero] at q1 q2 q4
      clear c0 hx? ho hkx hfi
      by_cases hst : ost = 1
      · subst hst
        by_cases hd : odst = dst
        · subst hd
          have hfo := HDR.out
          rw [if_pos ⟨rfl, rfl⟩] at hfo
          have hrr := HR.out
          rw [hfo] at hrr
          dsimp only at hrr
          subst hrr
          clear HR HDR hfo
          go_wp2_with fail
          go_ret
          exact ⟨rfl, rfl⟩
        · have hfo := HDR.out
          rw [if_neg (fun e => hd e.1)] at hfo
          have HFO := Lib.hid hfo
          have hb : (odst == dst) = false := by simp [hd]
          clear hfo HDR
          go_wp2_with fail
          go_roundw
          case rel => exact ⟨k + 1, by go_num, by omega, by first | trivial | rfl, HFO⟩
          case measure => simp [intOf]; omega
      · have hfo := HDR.out
        rw [if_neg (fun e => hst e.2)] at hfo
        have HFO := Lib.hid hfo
        have hb : (ost == 1) = false := by simp [hst]
        clear hfo HDR
        go_wp2_with fail
        go_roundw
        case rel => exact ⟨k + 1, by go_num, by omega, by first | trivial | rfl, HFO⟩
        case measure => simp [intOf]; omega
    · obtain rfl : n = k := by omega
      have hkz : ¬ (n : Int) < (n : Int) := by omega
      have hfo := hfi.out
      rw [List.drop_eq_nil_of_le (by rw [HN.out]; exact Nat.le_refl _)] at hfo
      have hrr := HR.out
      rw [hfo] at hrr
      dsimp only [List.find?_nil] at hrr
      have HRR := Lib.hid hrr
      clear hfi hfo hrr HR
      go_wp2_with fail
      go_ret
      exact ⟨by rw [← HRR.out]; rfl, rfl⟩
end
theorem Has.atU {w : World} {B : Nat} {A : Option Addr} {n cap : Nat} {zs : List Int} (h : Has w B 1 (encN .u64) (.slice A n cap) zs) {i : Nat} {x : Int} (hi : zs[i]? = some x) :
    ∃ g off, A = some ⟨g, off, none⟩ ∧ g < B ∧ w.cell? ⟨g, off + i, none⟩ = some (.int .u64 x) := by
  obtain ⟨g, off, h1, h2, h3⟩ := h.at_ (encN_len .u64) hi
  refine ⟨g, off, h1, h2, ?_⟩
  have := h3 0 (by omega)
  rw [Nat.mul_one, Nat.add_zero] at this
  exact this
theorem wordsAlike (v u : Value) (zs : List Int) (B C : Nat) (w : World) (hv : Has w B 1 (encN .u64) v zs) (hu : Has w C 1 (encN .u64) u zs) (hl : zs.length ≤ 1000000) :
    Calls Try.prog 25 #[v, u] w fun e w' => e = .returned (.bool true) ∧ Mod (fun _ => False) w w' := by
  obtain ⟨A1, c1, rfl, _⟩ := hv.form
  obtain ⟨A2, c2, rfl, _⟩ := hu.form
  have HV := Lib.hid hv
  have HU := Lib.hid hu
  clear hv hu
  have e0 : ((zs.length : Int) != (zs.length : Int)) = false := by simp
  go_enter Try.func25, Try.ntmps25
  go_wp2_with fail
  go_loopw [5] (fun i wr => ∃ k nn : Nat, i = .int .i64 k ∧ k ≤ zs.length ∧ wr = w.drewN nn) (fun i _ => zs.length - (intOf i).toNat)
  case atStart => exact ⟨0, 0, rfl, by omega, rfl⟩
  case round =>
    obtain ⟨k, nn, rfl, hk, hwr⟩ := hrel
    subst hwr
    by_cases hkl : k < zs.length
    · obtain ⟨g, off, rfl, hg, hc⟩ := HV.out.atU (List.getElem?_eq_getElem hkl)
      obtain ⟨g', off', rfl, hg', hc'⟩ := HU.out.atU (List.getElem?_eq_getElem hkl)
      generalize zs[k]'hkl = z at *
      have hi0 : (0 : Int) ≤ (k : Int) := by omega
      have hi1 : (k : Int) < (zs.length : Int) := by omega
      have e1 : (z != z) = false := by simp
      go_wp2_with fail
      go_quiet (fail)
      go_wp2_with fail
      go_roundw
      case rel => exact ⟨k + 1, _, by go_num, by omega, rfl⟩
      case measure => simp [intOf]; omega
    · go_wp2
      go_ret
      exact ⟨rfl, (Mod.refl _ w).drewN nn⟩
end Go.Proofs.Ytddnlbkocmpffaa
