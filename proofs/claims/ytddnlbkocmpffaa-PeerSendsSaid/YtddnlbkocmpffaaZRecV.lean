/- peer.Receivers.Data, whole. -/
import Derived.Test.YtddnlbkocmpffaaZRecK
namespace Go.Proofs.Ytddnlbkocmpffaa
open Go.RowKit
set_option linter.unusedVariables false
set_option maxHeartbeats 4000000
set_option maxRecDepth 100000
section
variable {rb : Nat} {ad : RAd} {R : RecA} {w : World} {s : Nat → Prop}
theorem RecX.n_le (h : RecX rb ad R w s) : R.n ≤ R.most := by
  obtain ⟨t, -, ht, -⟩ := h.tabP
  exact ht.bd.2.1
theorem dataW (h : RecO rb R w s) (hok : RecOk R) (i : Nat) (hi : i < 8) (id : Int) (hid1 : 1 ≤ id) (hid2 : id ≤ 1152921504606846976) (tot off : Nat) (d : List Int) (dv : Value) (hd : Has w w.heap.size 1 encB dv d) (hot : off + d.length ≤ tot) (htm : (tot : Int) ≤ 9223372036854775807)
    (hap : 0 < d.length → ∀ k, dv.ownBlock = some k → ¬ s k) (hbt : Byt d) (hout : R.out.length ≤ 1000000) :
    Calls Try.prog 9 #[.pointer (some ⟨rb, 0, none⟩), .int .i64 i, .int .u64 id, .int .i64 tot, .int .i64 off, dv] w (DataPost rb w s (R.data i id tot off d)) := by
  obtain ⟨ad, h, hl⟩ := h
  unfold RecA.data
  by_cases he : winIs (R.win i).1 (R.win i).2 id = true
  · rw [if_pos he]
    exact dataEnded h hl i hi id hid1 hid2 tot off d dv hd hot htm he
  · rw [if_neg he]
    have he' : winIs (R.win i).1 (R.win i).2 id = false := by simpa using he
    by_cases hm : R.maxMsg < (tot : Int)
    · rw [if_pos hm]
      exact dataBig h hl i hi id hid1 hid2 tot off d dv hd hot htm he' hm
    · rw [if_neg hm]
      have hm' : (tot : Int) ≤ R.maxMsg := by omega
      have hkn := hok.knownB hi
      cases hk : R.tab ((i : Int), id) with
      | some b =>
        dsimp only
        by_cases hbl : b.bs.length = tot
        · rw [if_pos hbl]
          refine dataPut h hl i hi id hid1 hid2 tot off d dv hd hot htm hap hbt he' hm' R b hk hbl hkn (hok.roomDone hi (by rw [hk]; rfl)) he' hout fun w2 m2 => ?_
          refine (opensOld (h.later m2) hl i hi id tot hk hbl).mono ?_
          rintro e w3 ⟨rfl, m3⟩
          exact ⟨ad, rfl, ((h.later m2).later m3).up (fun _ e => .inl e), hl, m3.mono (fun _ _ e => e.elim)⟩
        · rw [if_neg hbl]
          refine dataNo h hl i hi id hid1 hid2 tot off d dv hd hot htm he' hm' 2 (.inl rfl) fun w2 m2 => ?_
          exact opensBad (h.later m2) hl i hi id tot hk hbl
      | none =>
        dsimp only
        by_cases hg : R.n < R.most ∧ (¬ R.most ≤ ((R.win i).2.length : Int) + R.known i ∨ (R.win i).1 = id)
        · rw [if_pos hg]
          have ho := hok.open hi hid1 hid2 hm' hk he' hg
          have hk1 : (R.open i id tot).tab ((i : Int), id) = some (newBuf tot) := setBuf_same
          have hlb : (newBuf tot).bs.length = tot := by simp [newBuf]
          refine dataPut h hl i hi id hid1 hid2 tot off d dv hd hot htm hap hbt he' hm' (R.open i id tot) (newBuf tot) hk1 hlb (ho.knownB hi) (ho.roomDone hi (by rw [hk1]; rfl)) he' hout fun w2 m2 => ?_
          exact opensNew (h.later m2) hl i hi id tot hk hkn hg hm' hok.x1
        · rw [if_neg hg]
          refine dataNo h hl i hi id hid1 hid2 tot off d dv hd hot htm he' hm' 4 (.inr rfl) fun w2 m2 => ?_
          refine opensFull (h.later m2) hl i hi id tot hk hkn ?_
          by_cases h1 : R.most ≤ R.n
          · exact .inl h1
          · refine .inr ?_
            have h2 : ¬ (¬ R.most ≤ ((R.win i).2.length : Int) + R.known i ∨ (R.win i).1 = id) := fun e => hg ⟨by omega, e⟩
            have h3 := not_or.1 h2
            exact ⟨Classical.byContradiction h3.1, h3.2⟩
/-- Arguments that may not be. -/
theorem dataArg (p : Value) (src id tot off : Int) (A : Option Addr) (n c : Nat) (w : World) (hs : -9223372036854775808 ≤ tot ∧ tot ≤ 9223372036854775807 ∧ -9223372036854775808 ≤ off ∧ off ≤ 9223372036854775807)
    (hb : src < 0 ∨ 8 ≤ src ∨ id = 0 ∨ 1152921504606846976 < id ∨ tot < 0 ∨ off < 0 ∨ tot < off ∨ tot - off < (n : Int)) :
    Calls Try.prog 9 #[p, .int .i64 src, .int .u64 id, .int .i64 tot, .int .i64 off, .slice A n c] w fun e w' => e = .returned (.tuple #[.int .i64 0, .bool false, .int .i64 1]) ∧ w = w' := by
  have hsp : src < 0 ∨ (¬ src < 0 ∧ 8 ≤ src) ∨ (¬ src < 0 ∧ ¬ 8 ≤ src ∧ (id == 0) = true) ∨ (¬ src < 0 ∧ ¬ 8 ≤ src ∧ (id == 0) = false ∧ 1152921504606846976 < id) ∨ (¬ src < 0 ∧ ¬ 8 ≤ src ∧ (id == 0) = false ∧ ¬ 1152921504606846976 < id ∧ tot < 0) ∨ (¬ src < 0 ∧ ¬ 8 ≤ src ∧ (id == 0) = false ∧ ¬ 1152921504606846976 < id ∧ ¬ tot < 0 ∧ off < 0)
      ∨ (¬ src < 0 ∧ ¬ 8 ≤ src ∧ (id == 0) = false ∧ ¬ 1152921504606846976 < id ∧ ¬ tot < 0 ∧ ¬ off < 0 ∧ tot < off) ∨ (¬ src < 0 ∧ ¬ 8 ≤ src ∧ (id == 0) = false ∧ ¬ 1152921504606846976 < id ∧ ¬ tot < 0 ∧ ¬ off < 0 ∧ ¬ tot < off ∧ tot - off < (n : Int)) := by
    simp only [beq_iff_eq, beq_eq_false_iff_ne]
    omega
  obtain ⟨h1, h2, h3, h4⟩ := hs
  clear hb
  rcases hsp with h | ⟨h, h'⟩ | ⟨h, h', h''⟩ | ⟨h, h', h'', h6⟩ | ⟨h, h', h'', h6, h7⟩ | ⟨h, h', h'', h6, h7, h8⟩ | ⟨h, h', h'', h6, h7, h8, h9⟩ | ⟨h, h', h'', h6, h7, h8, h9, h10⟩
  all_goals
    go_enter Try.func9, Try.ntmps9
    go_wp2
    go_ret3
    exact ⟨rfl, rfl⟩
theorem dataNil (i : Nat) (hi : i < 8) (id : Int) (hid1 : 1 ≤ id) (hid2 : id ≤ 1152921504606846976) (tot off : Nat) (A : Option Addr) (n c : Nat) (w : World) (hot : off + n ≤ tot) (htm : (tot : Int) ≤ 9223372036854775807) :
    Calls Try.prog 9 #[.pointer none, .int .i64 i, .int .u64 id, .int .i64 tot, .int .i64 off, .slice A n c] w fun e w' => e = .returned (.tuple #[.int .i64 0, .bool false, .int .i64 4]) ∧ w = w' := by
  have a1 : ¬ (i : Int) < 0 := by omega
  have a2 : ¬ 8 ≤ (i : Int) := by omega
  have a3 : (id == 0) = false := by rw [beq_eq_false_iff_ne]; omega
  have a4 : ¬ 1152921504606846976 < id := by omega
  have a5 : ¬ (tot : Int) < 0 := by omega
  have a6 : ¬ (off : Int) < 0 := by omega
  have a7 : ¬ (tot : Int) < (off : Int) := by omega
  have a8 : ¬ ((tot : Int) - (off : Int) < (n : Int)) := by omega
  go_enter Try.func9, Try.ntmps9
  go_wp2
  go_ret3
  exact ⟨rfl, rfl⟩
end
end Go.Proofs.Ytddnlbkocmpffaa
