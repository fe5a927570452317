/- The contract of the reference's ParseOp. -/
import Derived.Test.YtpnicodjjbincaaDoorSTxtR
import Derived.Test.YtpnicodjjbincaaDoorScrR
import Derived.Test.YtpnicodjjbincaaDoorSUnhR
namespace Go.Proofs.YtpnicodjjbincaaDoor
open Go.RowKit
set_option linter.unusedVariables false
set_option maxHeartbeats 8000000
set_option maxRecDepth 100000
theorem kindUp_step (x : Tx) (q : Nat) (h : 1 ≤ q) : kindUp x (q + 1) = if wordK q = x then q else kindUp x q := by
  rw [kindUp]
  by_cases e : wordK q = x
  · rw [if_pos ⟨h, e⟩, if_pos e]
  · rw [if_neg (fun h' => e h'.2), if_neg e]
theorem kindUp_top (x : Tx) : kindUp x 15 < 15 := by
  rw [kindUp_step x 14 (by decide)]
  split
  · decide
  · have := kindUp_lt x 14
    omega
theorem combos : ∀ k : Fin 15, (k.val = 0 ∧ fieldsK k.val = []) ∨ (1 ≤ k.val ∧ (fieldsK k.val = [] ∨ fieldsK k.val = [97] ∨ fieldsK k.val = [97, 98] ∨ fieldsK k.val = [110] ∨ fieldsK k.val = [97, 110] ∨ fieldsK k.val = [97, 100] ∨ fieldsK k.val = [97, 98, 100])) := by decide +kernel
theorem refP_of {tx x : Tx} {ws : List Tx} (h : cutT 32 tx = x :: ws) : refK tx = kindUp x 15 ∧ refO tx = fillR { zeroO with kind := (kindUp x 15 : Int) } (fieldsK (kindUp x 15)) (ws ++ [[], [], [], []]) := by
  have hk : refK tx = kindUp x 15 := by
    unfold refK
    rw [show wordsT tx = cutT 32 tx from rfl, h]
    rfl
  refine ⟨hk, ?_⟩
  unfold refO
  rw [hk, show wordsT tx = cutT 32 tx from rfl, h]
  rfl
theorem pairs_len : ∀ (s t : Tx), unhexPairs s = some t → t.length ≤ s.length
  | [], t, h => by simp [unhexPairs] at h; subst h; simp
  | [_], t, h => by simp [unhexPairs] at h
  | x :: y :: r, t, h => by
    rw [pairs_step] at h
    cases hx : digitR x with
    | none => rw [hx] at h; simp at h
    | some a =>
      cases hy : digitR y with
      | none => rw [hx, hy] at h; simp at h
      | some b =>
        cases hr : unhexPairs r with
        | none => rw [hx, hy, hr] at h; simp at h
        | some u =>
          rw [hx, hy, hr] at h
          simp at h
          subst h
          have := pairs_len r u hr
          simp
          omega
theorem unhexR_len (s : Tx) : (unhexR s).length ≤ s.length := by
  unfold unhexR
  split
  · simp
  · split
    · simp
    · cases h : unhexPairs s with
      | none => simp
      | some t => exact pairs_len s t h
theorem parseRW (s : ByteArray) (hs : s.size ≤ 100000) (w : World) :
    Calls Tryd.prog 9 #[.string s] w fun e w' => (∃ dv, e = .returned (.tuple #[.agg (opV (refP s.data.toList).1 dv), .int .i64 (refP s.data.toList).2]) ∧ Has w' w'.heap.size 1 encB dv (refP s.data.toList).1.data) ∧ Mod (fun _ => False) w w' := by
  obtain ⟨i0, hi0, hz0, hz1, hz2⟩ := info_parts str_info
  obtain ⟨tx, rfl⟩ : ∃ tx, s = tb tx := ⟨s.data.toList, (tb_of s).symm⟩
  rw [tb_data]
  rw [tb_size] at hs
  generalize hR : refP tx = R
  have HR := Lib.hid hR
  clear hR
  have hm1 := (Mod.refl (fun _ => False) w).alloc (.cells #[.int .i64 0, .int .i64 0, .int .i64 0, .int .i64 0, .slice none 0 0] 24)
  have hb1 := Blk.new w 24 #[.int .i64 0, .int .i64 0, .int .i64 0, .int .i64 0, .slice none 0 0]
  go_enter Tryd.func9, Tryd.ntmps9
  go_wp2_with fail
  generalize hw1 : w.alloc (.cells #[.int .i64 0, .int .i64 0, .int .i64 0, .int .i64 0, .slice none 0 0] 24) = w1 at *
  generalize hb2 : w.heap.size = b2 at *
  have hs1 : b2 < w1.heap.size := hb1.lt
  refine (splitRW (tb tx) (by rw [tb_size]; omega) w1).mono ?_
  rintro e w2 ⟨⟨v2, rfl, ho2⟩, m2⟩
  rw [tb_data] at ho2
  obtain ⟨x, ws, hxw⟩ : ∃ x ws, cutT 32 tx = x :: ws := by
    cases h : cutT 32 tx with
    | nil => exact absurd h (wordsT_ne 32 tx)
    | cons x ws => exact ⟨x, ws, rfl⟩
  rw [show wordsT tx = cutT 32 tx from rfl, hxw] at ho2
  obtain ⟨gl, cl, rfl, hcl, hgl1, hgl2⟩ := ho2.form1 (by simp)
  obtain ⟨hrk, hro⟩ := refP_of hxw
  have hwb : ∀ t ∈ x :: ws, t.length ≤ 100000 := fun t ht => by
    have := wordsT_bound 32 tx t (by rw [hxw]; exact ht)
    omega
  have hnl : (x :: ws).length ≤ 100001 := by
    rw [← hxw, wordsT_len]
    have := List.count_le_length (a := 32) (l := tx)
    omega
  generalize hnw : (x :: ws).length = nw at *
  have hnw0 : 0 < nw := by rw [← hnw]; simp
  have hm2 := hm1.trans m2 (fun _ _ e => e)
  have HBR2 := Lib.hid (hb1.mod m2 (fun e => e))
  have HO2 := Lib.hid ho2
  have HM2 := Lib.hid hm2
  have hs2 := m2.size
  have HRK := Lib.hid hrk
  have HRO := Lib.hid hro
  have HNW := Lib.hid hnw
  have HWB := Lib.hid hwb
  clear hm1 hb1 hw1 m2 hm2 hxw ho2 hrk hro hnw hwb
  go_wp2_with fail
  refine (wordsRW w2).mono ?_
  rintro e w3 ⟨rfl, hbn, m3⟩
  generalize hgn : w2.heap.size = gn at *
  have hm4 := m3.alloc (.cells #[.int .i64 0, .int .i64 0, .int .i64 0, .int .i64 0, .slice none 0 0] 24)
  have HM4 := Lib.hid (HM2.out.trans hm4 (fun _ _ e => e))
  have HBR4 := Lib.hid (HBR2.out.mod hm4 (fun e => e))
  have HO4 := Lib.hid (HO2.out.later hm4)
  have HBN4 := Lib.hid (hbn.old (.cells #[.int .i64 0, .int .i64 0, .int .i64 0, .int .i64 0, .slice none 0 0] 24))
  have HB64 := Lib.hid (Blk.new w3 24 #[.int .i64 0, .int .i64 0, .int .i64 0, .int .i64 0, .slice none 0 0])
  have hs3 := m3.size
  have hgn3 := hbn.lt
  clear hbn m3 hm4
  go_wp2_with fail
  have hs4 : (w3.alloc (.cells #[.int .i64 0, .int .i64 0, .int .i64 0, .int .i64 0, .slice none 0 0] 24)).heap.size = w3.heap.size + 1 := by simp
  generalize w3.alloc (.cells #[.int .i64 0, .int .i64 0, .int .i64 0, .int .i64 0, .slice none 0 0] 24) = w4 at *
  generalize w3.heap.size = b6 at *
  go_loopw [7] (fun kv wr => ∃ q : Nat, kv = .int .i64 q ∧ 1 ≤ q ∧ q ≤ 15 ∧ Blk wr b6 24 #[.int .i64 (kindUp x q : Int), .int .i64 0, .int .i64 0, .int .i64 0, .slice none 0 0] ∧ Mod (fun i => i = b6) w4 wr) (fun kv _ => 15 - (RowKit.intOf kv).toNat)
  case atStart => exact ⟨1, rfl, by omega, by omega, HB64.out, Mod.refl _ _⟩
  case round =>
    obtain ⟨q, rfl, hq1, hq15, hb6r, hm⟩ := hrel
    have hsz := hm.size
    by_cases hq : q < 15
    · have hqz : (q : Int) < 15 := by omega
      have hqz0 : (0 : Int) ≤ (q : Int) := by omega
      have hnz : (0 : Int) < (nw : Int) := by omega
      have hc1 : wr.cell? ⟨gn, q, none⟩ = some (.string (tb (wordK q))) := by
        have := (HBN4.out.mod hm (by omega)).cell q
        rw [names_at q hq] at this
        exact this
      have hc2 : wr.cell? ⟨gl, 0, none⟩ = some (.string (tb x)) := by
        have h := (HO4.out.mod hm (fun z e1 e2 => by have := Option.some.inj e1; simp only at this; omega)).cell encT_len (i := 0) (x := x) rfl (j := 0) (by omega)
        simpa [encT] using h
      have HBB := Lib.hid hb6r
      have HMM := Lib.hid hm
      by_cases hwe : wordK q = x
      · have hse := str_same (a := tb (wordK q)) (b := tb x) (by rw [tb_data, tb_data]; exact hwe)
        have hku : kindUp x (q + 1) = q := by rw [kindUp_step x q hq1, if_pos hwe]
        have HKU := Lib.hid hku
        clear hwe hb6r hm hku
        go_wp2_with fail
        go_quiet (fail)
        have hf0 := HBB.out.free 0
        have hk0 := HBB.out.cell 0
        have hb7 : ∀ n, Blk ((wr.drewN n).setCell ⟨b6, 0, none⟩ (.int .i64 (q : Int))) b6 24 #[.int .i64 (q : Int), .int .i64 0, .int .i64 0, .int .i64 0, .slice none 0 0] := fun n => (HBB.out.drewN n).set 0 _
        have HB7 := Lib.hid hb7
        clear hb7
        go_wp2_with fail
        go_roundw
        case rel => exact ⟨q + 1, by go_num, by omega, by omega, by rw [HKU.out]; exact HB7.out _, (HMM.out.drewN _).setCell (p := ⟨b6, 0, none⟩) (fun _ => rfl) _⟩
        case measure => simp [RowKit.intOf]; omega
      · have hse := str_other (a := tb (wordK q)) (b := tb x) (by rw [tb_data, tb_data]; exact hwe)
        have hku : kindUp x (q + 1) = kindUp x q := by rw [kindUp_step x q hq1, if_neg hwe]
        have HKU := Lib.hid hku
        clear hwe hb6r hm hku
        go_wp2_with fail
        go_quiet (fail)
        go_wp2_with fail
        go_roundw
        case rel => exact ⟨q + 1, by go_num, by omega, by omega, by rw [HKU.out]; exact HBB.out.drewN _, HMM.out.drewN _⟩
        case measure => simp [RowKit.intOf]; omega
    · obtain rfl : q = 15 := by omega
      have hktop := kindUp_top x
      generalize hK : kindUp x 15 = K at *
      have hwan := wantsW K hktop wr
      have hcomb := combos ⟨K, hktop⟩
      simp only at hcomb
      have hk0 := hb6r.cell 0
      have HBB := Lib.hid hb6r
      have HMW := Lib.hid (HM4.out.trans hm (fun i hi e => by omega))
      have HOR := Lib.hid (HO4.out.mod hm (fun z e1 e2 => by have := Option.some.inj e1; simp only at this; omega))
      have HBRR := Lib.hid (HBR4.out.mod hm (by omega))
      clear hb6r hm hK
      rcases hcomb with ⟨hK0, hf⟩ | ⟨hK1, hf | hf | hf | hf | hf | hf | hf⟩
      · have HK0 := Lib.hid hK0; clear hK0
        have hwv : wantV K = #[.bool false, .bool false, .bool false, .bool false] := by unfold wantV; rw [hf]; rfl
        rw [hwv] at hwan
        have HWAN := Lib.hid hwan
        clear hwan hwv
        go_wp2_with fail
        refine HWAN.out.mono ?_
        rintro e w5 ⟨rfl, m5⟩
        have hm6 := m5.alloc (.cells #[.bool false, .bool false, .bool false, .bool false] 72)
        have HB6 := Lib.hid (HBB.out.mod hm6 (fun e => e))
        have HO6 := Lib.hid (HOR.out.later hm6)
        have HR6 := Lib.hid (HBRR.out.mod hm6 (fun e => e))
        have HM6 := Lib.hid (HMW.out.trans hm6 (fun _ _ e => e))
        have HW6 := Lib.hid (Blk.new w5 72 #[.bool false, .bool false, .bool false, .bool false])
        have hs5 := m5.size
        clear m5 hm6
        go_upto_region 10 with fail
        have hs6 : (w5.alloc (.cells #[.bool false, .bool false, .bool false, .bool false] 72)).heap.size = w5.heap.size + 1 := by simp
        generalize w5.alloc (.cells #[.bool false, .bool false, .bool false, .bool false] 72) = w6 at *
        generalize w5.heap.size = bw at *
        have HS6 := Lib.hid hs6
        clear hs6
        go_upto_region 11 with (at_builtin
                                refine wpList_append_any _ rfl (.tmp 32) (.tmp 33) _ rfl w1.heap.size 9 i0 _ 1 16 Tryd.underlying39 hi0 hz0 hz1 hz2 rfl (by have := HS6.out; omega) (.slice (some ⟨gl, 0, none⟩) nw cl) nw ((x :: ws).flatMap encT) rfl (by have h := own_mod ((Mod.refl (fun _ => False) w6).alloc (.cells #[.string ⟨#[]⟩, .string ⟨#[]⟩, .string ⟨#[]⟩, .string ⟨#[]⟩] 9)) HO6.out (fun _ _ e => e); rw [HNW.out] at h; exact h) _ (some ⟨w6.heap.size, 0, none⟩) 4 4 [.string ⟨#[]⟩, .string ⟨#[]⟩, .string ⟨#[]⟩, .string ⟨#[]⟩] rfl (Reads.of_own (litOwn (w := w6) (n := w6.heap.size) 9 #[.string ⟨#[]⟩, .string ⟨#[]⟩, .string ⟨#[]⟩, .string ⟨#[]⟩] 4 rfl (Nat.zero_le _) (by decide) rfl)) (fun y hy => by simp at hy; rw [hy]; rfl) (by have := HS6.out; simp only [maxLen]; omega) (by have := HS6.out; omega) (by have := HS6.out; simp; omega) ?_
                                intro v7 w7 hown7 hgr7 hat7)
        have hs6 := HS6.out
        have hm7 : Mod (fun i => i = gl) w6 w7 := (((Mod.refl (fun i => i = gl) w6).alloc _).trans (Mod.ofGrown hgr7) (fun i hi e => (Option.some.inj e).symm))
        have ho7 : Own w7 w1.heap.size 9 1 encT v7 ((x :: ws) ++ [[], [], [], []]) := by
          unfold Own
          rw [List.length_append, HNW.out, List.flatMap_append]
          exact hown7
        obtain ⟨g7, c7, rfl, hc7, hg71, hg72⟩ := ho7.form1 (by simp)
        have hl7 : ((x :: ws) ++ [[], [], [], []]).length = nw + 4 := by rw [List.length_append, HNW.out]; rfl
        rw [hl7] at ho7 hc7 ⊢
        obtain ⟨t0, t1, t2, rs, hts⟩ : ∃ t0 t1 t2 rs, ws ++ [[], [], [], []] = t0 :: t1 :: t2 :: rs := by
          rcases ws with _ | ⟨a, _ | ⟨b, _ | ⟨c, r⟩⟩⟩ <;> exact ⟨_, _, _, _, rfl⟩
        have htl : ∀ t ∈ ws ++ [[], [], [], []], t.length ≤ 100000 := fun t ht => by
          rcases List.mem_append.1 ht with h | h
          · exact HWB.out t (List.mem_cons_of_mem _ h)
          · simp at h; rw [h]; simp
        rw [hts] at htl
        have hl0 := htl t0 (by simp)
        have hl1 := htl t1 (by simp)
        have hl2 := htl t2 (by simp)
        rw [List.cons_append, hts] at ho7
        have hro : refO tx = fillR { zeroO with kind := (K : Int) } [] (t0 :: t1 :: t2 :: rs) := by rw [HRO.out, hf, hts]
        have hs7 := hm7.size
        have HR7 := Lib.hid (HR6.out.mod hm7 (by omega))
        have HM7 := Lib.hid (HM6.out.trans hm7 (fun i hi e => by omega))
        have HO7 := Lib.hid ho7
        have HW7 := Lib.hid (HW6.out.mod hm7 (by omega))
        have hB7 := HB6.out.mod hm7 (by omega)
        have HB7 : Hid (Blk w7 b6 24 (opV { zeroO with kind := (K : Int) } (.slice none 0 0))) := Lib.hid hB7
        have HH7 : Hid (Own w7 (b6 + 1) 5 1 encB (.slice none 0 0) ([] : Tx)) := Lib.hid Own.nil
        have HRO := Lib.hid hro
        have hg7b : g7 ≠ b6 := fun e => by
          rcases hat7 with h | h <;> (have h' := Option.some.inj h; simp only at h'; first | omega | (simp at h'; omega))
        clear hB7 hm7 ho7 hown7 hgr7 hat7 hro hts htl hf
        have hop0 := HB7.out.cell
        have hk0' : w7.cell? ⟨b6, 0, none⟩ = some (.int .i64 (K : Int)) := hop0 0
        have hwc := HW7.out.cell
        clear hop0
        have hRR : R = (zeroO, 2) := by
          rw [← HR.out]
          unfold refP
          rw [if_pos (.inl (HRK.out.trans HK0.out))]
        have kz0 : (K : Int) = 0 := by have := HK0.out; omega
        have kz1 : ((K : Int) == 0) = true := by simpa using kz0
        clear kz0
        subst hRR
        have r0 := HR7.out.cell 0
        have g0 := HR7.out.free 0
        have r1 := HR7.out.cell 1
        have g1 := HR7.out.free 1
        have r2 := HR7.out.cell 2
        have g2 := HR7.out.free 2
        have r3 := HR7.out.cell 3
        have g3 := HR7.out.free 3
        have r4 := HR7.out.cell 4
        have g4 := HR7.out.free 4
        clear hk0
        go_wp2_with fail
        refine bodyPost_ret (ret_cell_tmp (p := 2) (q := 3) (by kernel_rfl) _ _ b2 24 #[.int .i64 0, .int .i64 0, .int .i64 0, .int .i64 0, .slice none 0 0] _ (.int .i64 2) (by kernel_rfl) (by kernel_rfl) (blk5 HR7.out _ _ _ _ _) Tryd.underlying24 (by kernel_rfl) (by kernel_rfl)) (by kernel_rfl) ?_
        exact ⟨⟨_, rfl, Has.nil⟩, HM7.out.trans (mod5 _ b2 _ _ _ _ _) (fun i hi e => by omega)⟩
      · have hwv : wantV K = #[.bool false, .bool false, .bool false, .bool false] := by unfold wantV; rw [hf]; rfl
        rw [hwv] at hwan
        have HWAN := Lib.hid hwan
        clear hwan hwv
        go_wp2_with fail
        refine HWAN.out.mono ?_
        rintro e w5 ⟨rfl, m5⟩
        have hm6 := m5.alloc (.cells #[.bool false, .bool false, .bool false, .bool false] 72)
        have HB6 := Lib.hid (HBB.out.mod hm6 (fun e => e))
        have HO6 := Lib.hid (HOR.out.later hm6)
        have HR6 := Lib.hid (HBRR.out.mod hm6 (fun e => e))
        have HM6 := Lib.hid (HMW.out.trans hm6 (fun _ _ e => e))
        have HW6 := Lib.hid (Blk.new w5 72 #[.bool false, .bool false, .bool false, .bool false])
        have hs5 := m5.size
        clear m5 hm6
        go_upto_region 10 with fail
        have hs6 : (w5.alloc (.cells #[.bool false, .bool false, .bool false, .bool false] 72)).heap.size = w5.heap.size + 1 := by simp
        generalize w5.alloc (.cells #[.bool false, .bool false, .bool false, .bool false] 72) = w6 at *
        generalize w5.heap.size = bw at *
        have HS6 := Lib.hid hs6
        clear hs6
        go_upto_region 11 with (at_builtin
                                refine wpList_append_any _ rfl (.tmp 32) (.tmp 33) _ rfl w1.heap.size 9 i0 _ 1 16 Tryd.underlying39 hi0 hz0 hz1 hz2 rfl (by have := HS6.out; omega) (.slice (some ⟨gl, 0, none⟩) nw cl) nw ((x :: ws).flatMap encT) rfl (by have h := own_mod ((Mod.refl (fun _ => False) w6).alloc (.cells #[.string ⟨#[]⟩, .string ⟨#[]⟩, .string ⟨#[]⟩, .string ⟨#[]⟩] 9)) HO6.out (fun _ _ e => e); rw [HNW.out] at h; exact h) _ (some ⟨w6.heap.size, 0, none⟩) 4 4 [.string ⟨#[]⟩, .string ⟨#[]⟩, .string ⟨#[]⟩, .string ⟨#[]⟩] rfl (Reads.of_own (litOwn (w := w6) (n := w6.heap.size) 9 #[.string ⟨#[]⟩, .string ⟨#[]⟩, .string ⟨#[]⟩, .string ⟨#[]⟩] 4 rfl (Nat.zero_le _) (by decide) rfl)) (fun y hy => by simp at hy; rw [hy]; rfl) (by have := HS6.out; simp only [maxLen]; omega) (by have := HS6.out; omega) (by have := HS6.out; simp; omega) ?_
                                intro v7 w7 hown7 hgr7 hat7)
        have hs6 := HS6.out
        have hm7 : Mod (fun i => i = gl) w6 w7 := (((Mod.refl (fun i => i = gl) w6).alloc _).trans (Mod.ofGrown hgr7) (fun i hi e => (Option.some.inj e).symm))
        have ho7 : Own w7 w1.heap.size 9 1 encT v7 ((x :: ws) ++ [[], [], [], []]) := by
          unfold Own
          rw [List.length_append, HNW.out, List.flatMap_append]
          exact hown7
        obtain ⟨g7, c7, rfl, hc7, hg71, hg72⟩ := ho7.form1 (by simp)
        have hl7 : ((x :: ws) ++ [[], [], [], []]).length = nw + 4 := by rw [List.length_append, HNW.out]; rfl
        rw [hl7] at ho7 hc7 ⊢
        obtain ⟨t0, t1, t2, rs, hts⟩ : ∃ t0 t1 t2 rs, ws ++ [[], [], [], []] = t0 :: t1 :: t2 :: rs := by
          rcases ws with _ | ⟨a, _ | ⟨b, _ | ⟨c, r⟩⟩⟩ <;> exact ⟨_, _, _, _, rfl⟩
        have htl : ∀ t ∈ ws ++ [[], [], [], []], t.length ≤ 100000 := fun t ht => by
          rcases List.mem_append.1 ht with h | h
          · exact HWB.out t (List.mem_cons_of_mem _ h)
          · simp at h; rw [h]; simp
        rw [hts] at htl
        have hl0 := htl t0 (by simp)
        have hl1 := htl t1 (by simp)
        have hl2 := htl t2 (by simp)
        rw [List.cons_append, hts] at ho7
        have hro : refO tx = fillR { zeroO with kind := (K : Int) } [] (t0 :: t1 :: t2 :: rs) := by rw [HRO.out, hf, hts]
        have hs7 := hm7.size
        have HR7 := Lib.hid (HR6.out.mod hm7 (by omega))
        have HM7 := Lib.hid (HM6.out.trans hm7 (fun i hi e => by omega))
        have HO7 := Lib.hid ho7
        have HW7 := Lib.hid (HW6.out.mod hm7 (by omega))
        have hB7 := HB6.out.mod hm7 (by omega)
        have HB7 : Hid (Blk w7 b6 24 (opV { zeroO with kind := (K : Int) } (.slice none 0 0))) := Lib.hid hB7
        have HH7 : Hid (Own w7 (b6 + 1) 5 1 encB (.slice none 0 0) ([] : Tx)) := Lib.hid Own.nil
        have HRO := Lib.hid hro
        have hg7b : g7 ≠ b6 := fun e => by
          rcases hat7 with h | h <;> (have h' := Option.some.inj h; simp only at h'; first | omega | (simp at h'; omega))
        clear hB7 hm7 ho7 hown7 hgr7 hat7 hro hts htl hf
        have hop0 := HB7.out.cell
        have hk0' : w7.cell? ⟨b6, 0, none⟩ = some (.int .i64 (K : Int)) := hop0 0
        have hwc := HW7.out.cell
        clear hop0
        have hfin : refO tx = (⟨(K : Int), 0, 0, 0, []⟩ : OpT) := HRO.out
        have HFIN := Lib.hid hfin
        have he0 : w7.cell? ⟨b6, 0, none⟩ = some (.int .i64 (K : Int)) := HB7.out.cell 0
        have he1 : w7.cell? ⟨b6, 1, none⟩ = some (.int .i64 0) := HB7.out.cell 1
        have he2 : w7.cell? ⟨b6, 2, none⟩ = some (.int .i64 0) := HB7.out.cell 2
        have he3 : w7.cell? ⟨b6, 3, none⟩ = some (.int .i64 0) := HB7.out.cell 3
        have he4 : w7.cell? ⟨b6, 4, none⟩ = some (.slice none 0 0) := HB7.out.cell 4
        have hbE0 : w7.cell? ⟨bw, 0, none⟩ = some (.bool false) := HW7.out.cell 0
        have hbE1 : w7.cell? ⟨bw, 1, none⟩ = some (.bool false) := HW7.out.cell 1
        have hbE2 : w7.cell? ⟨bw, 2, none⟩ = some (.bool false) := HW7.out.cell 2
        have hbE3 : w7.cell? ⟨bw, 3, none⟩ = some (.bool false) := HW7.out.cell 3
        have hhE : Has w7 w7.heap.size 1 encB (.slice none 0 0) [] := HH7.out.has
        have htx := textRW (⟨(K : Int), 0, 0, 0, []⟩ : OpT) (.slice none 0 0) w7 hhE (by simp)
        unfold opV at htx
        have HTX := Lib.hid htx
        have HHE := Lib.hid hhE
        have HBS := Lib.hid (fun (z : Nat) (e : (show Value from (.slice none 0 0)).ownBlock = some z) => HH7.out.base e)
        have kz0 : ¬ (K : Int) = 0 := by omega
        have kz1 : ((K : Int) == 0) = false := by simpa using kz0
        clear hk0 hk0' hwc
        clear htx hhE hfin
        go_wp2_with fail
        refine HTX.out.mono ?_
        rintro e wE ⟨rfl, mE⟩
        have HRE := Lib.hid (HR7.out.mod mE (fun e => e))
        have HBE := Lib.hid (HB7.out.mod mE (fun e => e))
        have HME := Lib.hid (HM7.out.trans mE (fun _ _ e => e))
        have HHF := Lib.hid ((HHE.out.later mE (Nat.le_refl _)).more mE.size)
        have r0 := HRE.out.cell 0
        have g0 := HRE.out.free 0
        have r1 := HRE.out.cell 1
        have g1 := HRE.out.free 1
        have r2 := HRE.out.cell 2
        have g2 := HRE.out.free 2
        have r3 := HRE.out.cell 3
        have g3 := HRE.out.free 3
        have r4 := HRE.out.cell 4
        have g4 := HRE.out.free 4
        have hx0 : wE.cell? ⟨b6, 0, none⟩ = some (.int .i64 (K : Int)) := HBE.out.cell 0
        have hx1 : wE.cell? ⟨b6, 1, none⟩ = some (.int .i64 0) := HBE.out.cell 1
        have hx2 : wE.cell? ⟨b6, 2, none⟩ = some (.int .i64 0) := HBE.out.cell 2
        have hx3 : wE.cell? ⟨b6, 3, none⟩ = some (.int .i64 0) := HBE.out.cell 3
        have hx4 : wE.cell? ⟨b6, 4, none⟩ = some (.slice none 0 0) := HBE.out.cell 4
        clear he0 he1 he2 he3 he4 hbE0 hbE1 hbE2 hbE3 mE
        by_cases hte : textO (⟨(K : Int), 0, 0, 0, []⟩ : OpT) = tx
        · have hRR : R = ((⟨(K : Int), 0, 0, 0, []⟩ : OpT), 0) := by
            rw [← HR.out]
            unfold refP
            rw [HFIN.out, if_neg (fun e => e.elim (fun h => by rw [HRK.out] at h; omega) (fun h => h hte))]
          subst hRR
          have eq1 := str_same (a := tb (textO (⟨(K : Int), 0, 0, 0, []⟩ : OpT))) (b := tb tx) (by rw [tb_data, tb_data]; exact hte)
          have eq2 : (tb (textO (⟨(K : Int), 0, 0, 0, []⟩ : OpT))).toList = (tb tx).toList := by simpa using eq1
          clear hte
          go_wp2_with fail
          refine bodyPost_ret (ret_cell_tmp (p := 2) (q := 3) (by kernel_rfl) _ _ b2 24 (opV (⟨(K : Int), 0, 0, 0, []⟩ : OpT) (.slice none 0 0)) _ (.int .i64 0) (by kernel_rfl) (by kernel_rfl) (blk5 HRE.out _ _ _ _ _) Tryd.underlying24 (by kernel_rfl) (by kernel_rfl)) (by kernel_rfl) ?_
          have mF := mod5 wE b2 (.int .i64 (K : Int)) (.int .i64 0) (.int .i64 0) (.int .i64 0) (.slice none 0 0)
          have hF := (HHF.out.mod mF (Nat.le_refl _) (fun z e1 e2 => by have := HBS.out z e1; omega)).more mF.size
          exact ⟨⟨_, rfl, hF⟩, HME.out.trans mF (fun i hi e => by omega)⟩
        · have hRR : R = (zeroO, 2) := by
            rw [← HR.out]
            unfold refP
            rw [HFIN.out, if_pos (.inr hte)]
          subst hRR
          have eq1 := str_other (a := tb (textO (⟨(K : Int), 0, 0, 0, []⟩ : OpT))) (b := tb tx) (by rw [tb_data, tb_data]; exact hte)
          have eq2 : ¬ (tb (textO (⟨(K : Int), 0, 0, 0, []⟩ : OpT))).toList = (tb tx).toList := by simpa using eq1
          have eq3 : (!(tb (textO (⟨(K : Int), 0, 0, 0, []⟩ : OpT))).toList == (tb tx).toList) = true := by rw [eq1]; rfl
          clear hte
          go_wp2_with fail
          refine bodyPost_ret (ret_cell_tmp (p := 2) (q := 3) (by kernel_rfl) _ _ b2 24 #[.int .i64 0, .int .i64 0, .int .i64 0, .int .i64 0, .slice none 0 0] _ (.int .i64 2) (by kernel_rfl) (by kernel_rfl) (blk5 HRE.out _ _ _ _ _) Tryd.underlying24 (by kernel_rfl) (by kernel_rfl)) (by kernel_rfl) ?_
          exact ⟨⟨_, rfl, Has.nil⟩, HME.out.trans (mod5 _ b2 _ _ _ _ _) (fun i hi e => by omega)⟩
      · have hwv : wantV K = #[.bool true, .bool false, .bool false, .bool false] := by unfold wantV; rw [hf]; rfl
        rw [hwv] at hwan
        have HWAN := Lib.hid hwan
        clear hwan hwv
        go_wp2_with fail
        refine HWAN.out.mono ?_
        rintro e w5 ⟨rfl, m5⟩
        have hm6 := m5.alloc (.cells #[.bool true, .bool false, .bool false, .bool false] 72)
        have HB6 := Lib.hid (HBB.out.mod hm6 (fun e => e))
        have HO6 := Lib.hid (HOR.out.later hm6)
        have HR6 := Lib.hid (HBRR.out.mod hm6 (fun e => e))
        have HM6 := Lib.hid (HMW.out.trans hm6 (fun _ _ e => e))
        have HW6 := Lib.hid (Blk.new w5 72 #[.bool true, .bool false, .bool false, .bool false])
        have hs5 := m5.size
        clear m5 hm6
        go_upto_region 10 with fail
        have hs6 : (w5.alloc (.cells #[.bool true, .bool false, .bool false, .bool false] 72)).heap.size = w5.heap.size + 1 := by simp
        generalize w5.alloc (.cells #[.bool true, .bool false, .bool false, .bool false] 72) = w6 at *
        generalize w5.heap.size = bw at *
        have HS6 := Lib.hid hs6
        clear hs6
        go_upto_region 11 with (at_builtin
                                refine wpList_append_any _ rfl (.tmp 32) (.tmp 33) _ rfl w1.heap.size 9 i0 _ 1 16 Tryd.underlying39 hi0 hz0 hz1 hz2 rfl (by have := HS6.out; omega) (.slice (some ⟨gl, 0, none⟩) nw cl) nw ((x :: ws).flatMap encT) rfl (by have h := own_mod ((Mod.refl (fun _ => False) w6).alloc (.cells #[.string ⟨#[]⟩, .string ⟨#[]⟩, .string ⟨#[]⟩, .string ⟨#[]⟩] 9)) HO6.out (fun _ _ e => e); rw [HNW.out] at h; exact h) _ (some ⟨w6.heap.size, 0, none⟩) 4 4 [.string ⟨#[]⟩, .string ⟨#[]⟩, .string ⟨#[]⟩, .string ⟨#[]⟩] rfl (Reads.of_own (litOwn (w := w6) (n := w6.heap.size) 9 #[.string ⟨#[]⟩, .string ⟨#[]⟩, .string ⟨#[]⟩, .string ⟨#[]⟩] 4 rfl (Nat.zero_le _) (by decide) rfl)) (fun y hy => by simp at hy; rw [hy]; rfl) (by have := HS6.out; simp only [maxLen]; omega) (by have := HS6.out; omega) (by have := HS6.out; simp; omega) ?_
                                intro v7 w7 hown7 hgr7 hat7)
        have hs6 := HS6.out
        have hm7 : Mod (fun i => i = gl) w6 w7 := (((Mod.refl (fun i => i = gl) w6).alloc _).trans (Mod.ofGrown hgr7) (fun i hi e => (Option.some.inj e).symm))
        have ho7 : Own w7 w1.heap.size 9 1 encT v7 ((x :: ws) ++ [[], [], [], []]) := by
          unfold Own
          rw [List.length_append, HNW.out, List.flatMap_append]
          exact hown7
        obtain ⟨g7, c7, rfl, hc7, hg71, hg72⟩ := ho7.form1 (by simp)
        have hl7 : ((x :: ws) ++ [[], [], [], []]).length = nw + 4 := by rw [List.length_append, HNW.out]; rfl
        rw [hl7] at ho7 hc7 ⊢
        obtain ⟨t0, t1, t2, rs, hts⟩ : ∃ t0 t1 t2 rs, ws ++ [[], [], [], []] = t0 :: t1 :: t2 :: rs := by
          rcases ws with _ | ⟨a, _ | ⟨b, _ | ⟨c, r⟩⟩⟩ <;> exact ⟨_, _, _, _, rfl⟩
        have htl : ∀ t ∈ ws ++ [[], [], [], []], t.length ≤ 100000 := fun t ht => by
          rcases List.mem_append.1 ht with h | h
          · exact HWB.out t (List.mem_cons_of_mem _ h)
          · simp at h; rw [h]; simp
        rw [hts] at htl
        have hl0 := htl t0 (by simp)
        have hl1 := htl t1 (by simp)
        have hl2 := htl t2 (by simp)
        rw [List.cons_append, hts] at ho7
        have hro : refO tx = fillR { zeroO with kind := (K : Int) } [97] (t0 :: t1 :: t2 :: rs) := by rw [HRO.out, hf, hts]
        have hs7 := hm7.size
        have HR7 := Lib.hid (HR6.out.mod hm7 (by omega))
        have HM7 := Lib.hid (HM6.out.trans hm7 (fun i hi e => by omega))
        have HO7 := Lib.hid ho7
        have HW7 := Lib.hid (HW6.out.mod hm7 (by omega))
        have hB7 := HB6.out.mod hm7 (by omega)
        have HB7 : Hid (Blk w7 b6 24 (opV { zeroO with kind := (K : Int) } (.slice none 0 0))) := Lib.hid hB7
        have HH7 : Hid (Own w7 (b6 + 1) 5 1 encB (.slice none 0 0) ([] : Tx)) := Lib.hid Own.nil
        have HRO := Lib.hid hro
        have hg7b : g7 ≠ b6 := fun e => by
          rcases hat7 with h | h <;> (have h' := Option.some.inj h; simp only at h'; first | omega | (simp at h'; omega))
        clear hB7 hm7 ho7 hown7 hgr7 hat7 hro hts htl hf
        have hop0 := HB7.out.cell
        have hk0' : w7.cell? ⟨b6, 0, none⟩ = some (.int .i64 (K : Int)) := hop0 0
        have hwc := HW7.out.cell
        clear hop0
        have hlc0 : w7.cell? ⟨g7, 1, none⟩ = some (.string (tb t0)) := by
          have h := HO7.out.cell encT_len (i := 1) (x := t0) rfl (j := 0) (by omega)
          simpa [encT] using h
        have hb00 : w7.cell? ⟨bw, 0, none⟩ = some (.bool true) := HW7.out.cell 0
        have hb01 : w7.cell? ⟨bw, 1, none⟩ = some (.bool false) := HW7.out.cell 1
        have hb02 : w7.cell? ⟨bw, 2, none⟩ = some (.bool false) := HW7.out.cell 2
        have hb03 : w7.cell? ⟨bw, 3, none⟩ = some (.bool false) := HW7.out.cell 3
        have HNU0 := Lib.hid (numRW (tb t0) 1099511627776 (by decide) (by decide) (by rw [tb_size]; omega) w7)
        rw [tb_data] at HNU0
        clear hk0 hk0' hwc
        go_wp2_with fail
        refine HNU0.out.mono ?_
        rintro e w8 ⟨rfl, m8⟩
        have hop0 := HB7.out.mod m8 (fun e => e)
        have hc0 := hop0.cell 1
        have hf0 := hop0.free 1
        have hB9 : Blk (w8.setCell ⟨b6, 1, none⟩ (.int .i64 (numR 1099511627776 t0))) b6 24 (opV (⟨(K : Int), (numR 1099511627776 t0), 0, 0, []⟩ : OpT) (.slice none 0 0)) := hop0.set 1 _
        have hM9 : Mod (fun i => i = b6) w7 (w8.setCell ⟨b6, 1, none⟩ (.int .i64 (numR 1099511627776 t0))) := (show Mod (fun i => i = b6) w7 w8 from m8.mono (fun _ _ e => e.elim)).setCell (p := ⟨b6, 1, none⟩) (fun _ => rfl) _
        have HH9 := Lib.hid (HH7.out.mod hM9 (fun z e1 e2 => by have := HH7.out.base e1; omega))
        have HB9 := Lib.hid hB9
        have HO9 := Lib.hid (HO7.out.mod hM9 (fun z e1 e2 => hg7b ((Option.some.inj e1).trans e2)))
        have HW9 := Lib.hid (HW7.out.mod hM9 (by omega))
        have HR9 := Lib.hid (HR7.out.mod hM9 (by omega))
        have HM9 := Lib.hid (HM7.out.trans hM9 (fun i hi e => by omega))
        clear hB9 hM9 m8 hlc0 hb00 hb01 hb02 hb03 hop0
        have hfin : refO tx = (⟨(K : Int), (numR 1099511627776 t0), 0, 0, []⟩ : OpT) := HRO.out
        have HFIN := Lib.hid hfin
        have he0 : (w8.setCell ⟨b6, 1, none⟩ (.int .i64 (numR 1099511627776 t0))).cell? ⟨b6, 0, none⟩ = some (.int .i64 (K : Int)) := HB9.out.cell 0
        have he1 : (w8.setCell ⟨b6, 1, none⟩ (.int .i64 (numR 1099511627776 t0))).cell? ⟨b6, 1, none⟩ = some (.int .i64 (numR 1099511627776 t0)) := HB9.out.cell 1
        have he2 : (w8.setCell ⟨b6, 1, none⟩ (.int .i64 (numR 1099511627776 t0))).cell? ⟨b6, 2, none⟩ = some (.int .i64 0) := HB9.out.cell 2
        have he3 : (w8.setCell ⟨b6, 1, none⟩ (.int .i64 (numR 1099511627776 t0))).cell? ⟨b6, 3, none⟩ = some (.int .i64 0) := HB9.out.cell 3
        have he4 : (w8.setCell ⟨b6, 1, none⟩ (.int .i64 (numR 1099511627776 t0))).cell? ⟨b6, 4, none⟩ = some (.slice none 0 0) := HB9.out.cell 4
        have hbE0 : (w8.setCell ⟨b6, 1, none⟩ (.int .i64 (numR 1099511627776 t0))).cell? ⟨bw, 0, none⟩ = some (.bool true) := HW9.out.cell 0
        have hbE1 : (w8.setCell ⟨b6, 1, none⟩ (.int .i64 (numR 1099511627776 t0))).cell? ⟨bw, 1, none⟩ = some (.bool false) := HW9.out.cell 1
        have hbE2 : (w8.setCell ⟨b6, 1, none⟩ (.int .i64 (numR 1099511627776 t0))).cell? ⟨bw, 2, none⟩ = some (.bool false) := HW9.out.cell 2
        have hbE3 : (w8.setCell ⟨b6, 1, none⟩ (.int .i64 (numR 1099511627776 t0))).cell? ⟨bw, 3, none⟩ = some (.bool false) := HW9.out.cell 3
        have hhE : Has (w8.setCell ⟨b6, 1, none⟩ (.int .i64 (numR 1099511627776 t0))) (w8.setCell ⟨b6, 1, none⟩ (.int .i64 (numR 1099511627776 t0))).heap.size 1 encB (.slice none 0 0) [] := HH9.out.has
        have htx := textRW (⟨(K : Int), (numR 1099511627776 t0), 0, 0, []⟩ : OpT) (.slice none 0 0) (w8.setCell ⟨b6, 1, none⟩ (.int .i64 (numR 1099511627776 t0))) hhE (by simp)
        unfold opV at htx
        have HTX := Lib.hid htx
        have HHE := Lib.hid hhE
        have HBS := Lib.hid (fun (z : Nat) (e : (show Value from (.slice none 0 0)).ownBlock = some z) => HH9.out.base e)
        have kz0 : ¬ (K : Int) = 0 := by omega
        have kz1 : ((K : Int) == 0) = false := by simpa using kz0
        clear htx hhE hfin
        go_wp2_with fail
        refine HTX.out.mono ?_
        rintro e wE ⟨rfl, mE⟩
        have HRE := Lib.hid (HR9.out.mod mE (fun e => e))
        have HBE := Lib.hid (HB9.out.mod mE (fun e => e))
        have HME := Lib.hid (HM9.out.trans mE (fun _ _ e => e))
        have HHF := Lib.hid ((HHE.out.later mE (Nat.le_refl _)).more mE.size)
        have r0 := HRE.out.cell 0
        have g0 := HRE.out.free 0
        have r1 := HRE.out.cell 1
        have g1 := HRE.out.free 1
        have r2 := HRE.out.cell 2
        have g2 := HRE.out.free 2
        have r3 := HRE.out.cell 3
        have g3 := HRE.out.free 3
        have r4 := HRE.out.cell 4
        have g4 := HRE.out.free 4
        have hx0 : wE.cell? ⟨b6, 0, none⟩ = some (.int .i64 (K : Int)) := HBE.out.cell 0
        have hx1 : wE.cell? ⟨b6, 1, none⟩ = some (.int .i64 (numR 1099511627776 t0)) := HBE.out.cell 1
        have hx2 : wE.cell? ⟨b6, 2, none⟩ = some (.int .i64 0) := HBE.out.cell 2
        have hx3 : wE.cell? ⟨b6, 3, none⟩ = some (.int .i64 0) := HBE.out.cell 3
        have hx4 : wE.cell? ⟨b6, 4, none⟩ = some (.slice none 0 0) := HBE.out.cell 4
        clear he0 he1 he2 he3 he4 hbE0 hbE1 hbE2 hbE3 mE
        by_cases hte : textO (⟨(K : Int), (numR 1099511627776 t0), 0, 0, []⟩ : OpT) = tx
        · have hRR : R = ((⟨(K : Int), (numR 1099511627776 t0), 0, 0, []⟩ : OpT), 0) := by
            rw [← HR.out]
            unfold refP
            rw [HFIN.out, if_neg (fun e => e.elim (fun h => by rw [HRK.out] at h; omega) (fun h => h hte))]
          subst hRR
          have eq1 := str_same (a := tb (textO (⟨(K : Int), (numR 1099511627776 t0), 0, 0, []⟩ : OpT))) (b := tb tx) (by rw [tb_data, tb_data]; exact hte)
          have eq2 : (tb (textO (⟨(K : Int), (numR 1099511627776 t0), 0, 0, []⟩ : OpT))).toList = (tb tx).toList := by simpa using eq1
          clear hte
          go_wp2_with fail
          refine bodyPost_ret (ret_cell_tmp (p := 2) (q := 3) (by kernel_rfl) _ _ b2 24 (opV (⟨(K : Int), (numR 1099511627776 t0), 0, 0, []⟩ : OpT) (.slice none 0 0)) _ (.int .i64 0) (by kernel_rfl) (by kernel_rfl) (blk5 HRE.out _ _ _ _ _) Tryd.underlying24 (by kernel_rfl) (by kernel_rfl)) (by kernel_rfl) ?_
          have mF := mod5 wE b2 (.int .i64 (K : Int)) (.int .i64 (numR 1099511627776 t0)) (.int .i64 0) (.int .i64 0) (.slice none 0 0)
          have hF := (HHF.out.mod mF (Nat.le_refl _) (fun z e1 e2 => by have := HBS.out z e1; omega)).more mF.size
          exact ⟨⟨_, rfl, hF⟩, HME.out.trans mF (fun i hi e => by omega)⟩
        · have hRR : R = (zeroO, 2) := by
            rw [← HR.out]
            unfold refP
            rw [HFIN.out, if_pos (.inr hte)]
          subst hRR
          have eq1 := str_other (a := tb (textO (⟨(K : Int), (numR 1099511627776 t0), 0, 0, []⟩ : OpT))) (b := tb tx) (by rw [tb_data, tb_data]; exact hte)
          have eq2 : ¬ (tb (textO (⟨(K : Int), (numR 1099511627776 t0), 0, 0, []⟩ : OpT))).toList = (tb tx).toList := by simpa using eq1
          have eq3 : (!(tb (textO (⟨(K : Int), (numR 1099511627776 t0), 0, 0, []⟩ : OpT))).toList == (tb tx).toList) = true := by rw [eq1]; rfl
          clear hte
          go_wp2_with fail
          refine bodyPost_ret (ret_cell_tmp (p := 2) (q := 3) (by kernel_rfl) _ _ b2 24 #[.int .i64 0, .int .i64 0, .int .i64 0, .int .i64 0, .slice none 0 0] _ (.int .i64 2) (by kernel_rfl) (by kernel_rfl) (blk5 HRE.out _ _ _ _ _) Tryd.underlying24 (by kernel_rfl) (by kernel_rfl)) (by kernel_rfl) ?_
          exact ⟨⟨_, rfl, Has.nil⟩, HME.out.trans (mod5 _ b2 _ _ _ _ _) (fun i hi e => by omega)⟩
      · have hwv : wantV K = #[.bool true, .bool true, .bool false, .bool false] := by unfold wantV; rw [hf]; rfl
        rw [hwv] at hwan
        have HWAN := Lib.hid hwan
        clear hwan hwv
        go_wp2_with fail
        refine HWAN.out.mono ?_
        rintro e w5 ⟨rfl, m5⟩
        have hm6 := m5.alloc (.cells #[.bool true, .bool true, .bool false, .bool false] 72)
        have HB6 := Lib.hid (HBB.out.mod hm6 (fun e => e))
        have HO6 := Lib.hid (HOR.out.later hm6)
        have HR6 := Lib.hid (HBRR.out.mod hm6 (fun e => e))
        have HM6 := Lib.hid (HMW.out.trans hm6 (fun _ _ e => e))
        have HW6 := Lib.hid (Blk.new w5 72 #[.bool true, .bool true, .bool false, .bool false])
        have hs5 := m5.size
        clear m5 hm6
        go_upto_region 10 with fail
        have hs6 : (w5.alloc (.cells #[.bool true, .bool true, .bool false, .bool false] 72)).heap.size = w5.heap.size + 1 := by simp
        generalize w5.alloc (.cells #[.bool true, .bool true, .bool false, .bool false] 72) = w6 at *
        generalize w5.heap.size = bw at *
        have HS6 := Lib.hid hs6
        clear hs6
        go_upto_region 11 with (at_builtin
                                refine wpList_append_any _ rfl (.tmp 32) (.tmp 33) _ rfl w1.heap.size 9 i0 _ 1 16 Tryd.underlying39 hi0 hz0 hz1 hz2 rfl (by have := HS6.out; omega) (.slice (some ⟨gl, 0, none⟩) nw cl) nw ((x :: ws).flatMap encT) rfl (by have h := own_mod ((Mod.refl (fun _ => False) w6).alloc (.cells #[.string ⟨#[]⟩, .string ⟨#[]⟩, .string ⟨#[]⟩, .string ⟨#[]⟩] 9)) HO6.out (fun _ _ e => e); rw [HNW.out] at h; exact h) _ (some ⟨w6.heap.size, 0, none⟩) 4 4 [.string ⟨#[]⟩, .string ⟨#[]⟩, .string ⟨#[]⟩, .string ⟨#[]⟩] rfl (Reads.of_own (litOwn (w := w6) (n := w6.heap.size) 9 #[.string ⟨#[]⟩, .string ⟨#[]⟩, .string ⟨#[]⟩, .string ⟨#[]⟩] 4 rfl (Nat.zero_le _) (by decide) rfl)) (fun y hy => by simp at hy; rw [hy]; rfl) (by have := HS6.out; simp only [maxLen]; omega) (by have := HS6.out; omega) (by have := HS6.out; simp; omega) ?_
                                intro v7 w7 hown7 hgr7 hat7)
        have hs6 := HS6.out
        have hm7 : Mod (fun i => i = gl) w6 w7 := (((Mod.refl (fun i => i = gl) w6).alloc _).trans (Mod.ofGrown hgr7) (fun i hi e => (Option.some.inj e).symm))
        have ho7 : Own w7 w1.heap.size 9 1 encT v7 ((x :: ws) ++ [[], [], [], []]) := by
          unfold Own
          rw [List.length_append, HNW.out, List.flatMap_append]
          exact hown7
        obtain ⟨g7, c7, rfl, hc7, hg71, hg72⟩ := ho7.form1 (by simp)
        have hl7 : ((x :: ws) ++ [[], [], [], []]).length = nw + 4 := by rw [List.length_append, HNW.out]; rfl
        rw [hl7] at ho7 hc7 ⊢
        obtain ⟨t0, t1, t2, rs, hts⟩ : ∃ t0 t1 t2 rs, ws ++ [[], [], [], []] = t0 :: t1 :: t2 :: rs := by
          rcases ws with _ | ⟨a, _ | ⟨b, _ | ⟨c, r⟩⟩⟩ <;> exact ⟨_, _, _, _, rfl⟩
        have htl : ∀ t ∈ ws ++ [[], [], [], []], t.length ≤ 100000 := fun t ht => by
          rcases List.mem_append.1 ht with h | h
          · exact HWB.out t (List.mem_cons_of_mem _ h)
          · simp at h; rw [h]; simp
        rw [hts] at htl
        have hl0 := htl t0 (by simp)
        have hl1 := htl t1 (by simp)
        have hl2 := htl t2 (by simp)
        rw [List.cons_append, hts] at ho7
        have hro : refO tx = fillR { zeroO with kind := (K : Int) } [97, 98] (t0 :: t1 :: t2 :: rs) := by rw [HRO.out, hf, hts]
        have hs7 := hm7.size
        have HR7 := Lib.hid (HR6.out.mod hm7 (by omega))
        have HM7 := Lib.hid (HM6.out.trans hm7 (fun i hi e => by omega))
        have HO7 := Lib.hid ho7
        have HW7 := Lib.hid (HW6.out.mod hm7 (by omega))
        have hB7 := HB6.out.mod hm7 (by omega)
        have HB7 : Hid (Blk w7 b6 24 (opV { zeroO with kind := (K : Int) } (.slice none 0 0))) := Lib.hid hB7
        have HH7 : Hid (Own w7 (b6 + 1) 5 1 encB (.slice none 0 0) ([] : Tx)) := Lib.hid Own.nil
        have HRO := Lib.hid hro
        have hg7b : g7 ≠ b6 := fun e => by
          rcases hat7 with h | h <;> (have h' := Option.some.inj h; simp only at h'; first | omega | (simp at h'; omega))
        clear hB7 hm7 ho7 hown7 hgr7 hat7 hro hts htl hf
        have hop0 := HB7.out.cell
        have hk0' : w7.cell? ⟨b6, 0, none⟩ = some (.int .i64 (K : Int)) := hop0 0
        have hwc := HW7.out.cell
        clear hop0
        have hlc0 : w7.cell? ⟨g7, 1, none⟩ = some (.string (tb t0)) := by
          have h := HO7.out.cell encT_len (i := 1) (x := t0) rfl (j := 0) (by omega)
          simpa [encT] using h
        have hb00 : w7.cell? ⟨bw, 0, none⟩ = some (.bool true) := HW7.out.cell 0
        have hb01 : w7.cell? ⟨bw, 1, none⟩ = some (.bool true) := HW7.out.cell 1
        have hb02 : w7.cell? ⟨bw, 2, none⟩ = some (.bool false) := HW7.out.cell 2
        have hb03 : w7.cell? ⟨bw, 3, none⟩ = some (.bool false) := HW7.out.cell 3
        have HNU0 := Lib.hid (numRW (tb t0) 1099511627776 (by decide) (by decide) (by rw [tb_size]; omega) w7)
        rw [tb_data] at HNU0
        clear hk0 hk0' hwc
        go_wp2_with fail
        refine HNU0.out.mono ?_
        rintro e w8 ⟨rfl, m8⟩
        have hop0 := HB7.out.mod m8 (fun e => e)
        have hc0 := hop0.cell 1
        have hf0 := hop0.free 1
        have hB9 : Blk (w8.setCell ⟨b6, 1, none⟩ (.int .i64 (numR 1099511627776 t0))) b6 24 (opV (⟨(K : Int), (numR 1099511627776 t0), 0, 0, []⟩ : OpT) (.slice none 0 0)) := hop0.set 1 _
        have hM9 : Mod (fun i => i = b6) w7 (w8.setCell ⟨b6, 1, none⟩ (.int .i64 (numR 1099511627776 t0))) := (show Mod (fun i => i = b6) w7 w8 from m8.mono (fun _ _ e => e.elim)).setCell (p := ⟨b6, 1, none⟩) (fun _ => rfl) _
        have HH9 := Lib.hid (HH7.out.mod hM9 (fun z e1 e2 => by have := HH7.out.base e1; omega))
        have HB9 := Lib.hid hB9
        have HO9 := Lib.hid (HO7.out.mod hM9 (fun z e1 e2 => hg7b ((Option.some.inj e1).trans e2)))
        have HW9 := Lib.hid (HW7.out.mod hM9 (by omega))
        have HR9 := Lib.hid (HR7.out.mod hM9 (by omega))
        have HM9 := Lib.hid (HM7.out.trans hM9 (fun i hi e => by omega))
        clear hB9 hM9 m8 hlc0 hb00 hb01 hb02 hb03 hop0
        have hlc1 : (w8.setCell ⟨b6, 1, none⟩ (.int .i64 (numR 1099511627776 t0))).cell? ⟨g7, 2, none⟩ = some (.string (tb t1)) := by
          have h := HO9.out.cell encT_len (i := 2) (x := t1) rfl (j := 0) (by omega)
          simpa [encT] using h
        have hb10 : (w8.setCell ⟨b6, 1, none⟩ (.int .i64 (numR 1099511627776 t0))).cell? ⟨bw, 0, none⟩ = some (.bool true) := HW9.out.cell 0
        have hb11 : (w8.setCell ⟨b6, 1, none⟩ (.int .i64 (numR 1099511627776 t0))).cell? ⟨bw, 1, none⟩ = some (.bool true) := HW9.out.cell 1
        have hb12 : (w8.setCell ⟨b6, 1, none⟩ (.int .i64 (numR 1099511627776 t0))).cell? ⟨bw, 2, none⟩ = some (.bool false) := HW9.out.cell 2
        have hb13 : (w8.setCell ⟨b6, 1, none⟩ (.int .i64 (numR 1099511627776 t0))).cell? ⟨bw, 3, none⟩ = some (.bool false) := HW9.out.cell 3
        have HNU1 := Lib.hid (numRW (tb t1) 1099511627776 (by decide) (by decide) (by rw [tb_size]; omega) (w8.setCell ⟨b6, 1, none⟩ (.int .i64 (numR 1099511627776 t0))))
        rw [tb_data] at HNU1
        go_wp2_with fail
        refine HNU1.out.mono ?_
        rintro e w10 ⟨rfl, m10⟩
        have hop1 := HB9.out.mod m10 (fun e => e)
        have hc1 := hop1.cell 2
        have hf1 := hop1.free 2
        have hB11 : Blk (w10.setCell ⟨b6, 2, none⟩ (.int .i64 (numR 1099511627776 t1))) b6 24 (opV (⟨(K : Int), (numR 1099511627776 t0), (numR 1099511627776 t1), 0, []⟩ : OpT) (.slice none 0 0)) := hop1.set 2 _
        have hM11 : Mod (fun i => i = b6) (w8.setCell ⟨b6, 1, none⟩ (.int .i64 (numR 1099511627776 t0))) (w10.setCell ⟨b6, 2, none⟩ (.int .i64 (numR 1099511627776 t1))) := (show Mod (fun i => i = b6) (w8.setCell ⟨b6, 1, none⟩ (.int .i64 (numR 1099511627776 t0))) w10 from m10.mono (fun _ _ e => e.elim)).setCell (p := ⟨b6, 2, none⟩) (fun _ => rfl) _
        have HH11 := Lib.hid (HH9.out.mod hM11 (fun z e1 e2 => by have := HH9.out.base e1; omega))
        have HB11 := Lib.hid hB11
        have HO11 := Lib.hid (HO9.out.mod hM11 (fun z e1 e2 => hg7b ((Option.some.inj e1).trans e2)))
        have HW11 := Lib.hid (HW9.out.mod hM11 (by omega))
        have HR11 := Lib.hid (HR9.out.mod hM11 (by omega))
        have HM11 := Lib.hid (HM9.out.trans hM11 (fun i hi e => by omega))
        clear hB11 hM11 m10 hlc1 hb10 hb11 hb12 hb13 hop1
        have hfin : refO tx = (⟨(K : Int), (numR 1099511627776 t0), (numR 1099511627776 t1), 0, []⟩ : OpT) := HRO.out
        have HFIN := Lib.hid hfin
        have he0 : (w10.setCell ⟨b6, 2, none⟩ (.int .i64 (numR 1099511627776 t1))).cell? ⟨b6, 0, none⟩ = some (.int .i64 (K : Int)) := HB11.out.cell 0
        have he1 : (w10.setCell ⟨b6, 2, none⟩ (.int .i64 (numR 1099511627776 t1))).cell? ⟨b6, 1, none⟩ = some (.int .i64 (numR 1099511627776 t0)) := HB11.out.cell 1
        have he2 : (w10.setCell ⟨b6, 2, none⟩ (.int .i64 (numR 1099511627776 t1))).cell? ⟨b6, 2, none⟩ = some (.int .i64 (numR 1099511627776 t1)) := HB11.out.cell 2
        have he3 : (w10.setCell ⟨b6, 2, none⟩ (.int .i64 (numR 1099511627776 t1))).cell? ⟨b6, 3, none⟩ = some (.int .i64 0) := HB11.out.cell 3
        have he4 : (w10.setCell ⟨b6, 2, none⟩ (.int .i64 (numR 1099511627776 t1))).cell? ⟨b6, 4, none⟩ = some (.slice none 0 0) := HB11.out.cell 4
        have hbE0 : (w10.setCell ⟨b6, 2, none⟩ (.int .i64 (numR 1099511627776 t1))).cell? ⟨bw, 0, none⟩ = some (.bool true) := HW11.out.cell 0
        have hbE1 : (w10.setCell ⟨b6, 2, none⟩ (.int .i64 (numR 1099511627776 t1))).cell? ⟨bw, 1, none⟩ = some (.bool true) := HW11.out.cell 1
        have hbE2 : (w10.setCell ⟨b6, 2, none⟩ (.int .i64 (numR 1099511627776 t1))).cell? ⟨bw, 2, none⟩ = some (.bool false) := HW11.out.cell 2
        have hbE3 : (w10.setCell ⟨b6, 2, none⟩ (.int .i64 (numR 1099511627776 t1))).cell? ⟨bw, 3, none⟩ = some (.bool false) := HW11.out.cell 3
        have hhE : Has (w10.setCell ⟨b6, 2, none⟩ (.int .i64 (numR 1099511627776 t1))) (w10.setCell ⟨b6, 2, none⟩ (.int .i64 (numR 1099511627776 t1))).heap.size 1 encB (.slice none 0 0) [] := HH11.out.has
        have htx := textRW (⟨(K : Int), (numR 1099511627776 t0), (numR 1099511627776 t1), 0, []⟩ : OpT) (.slice none 0 0) (w10.setCell ⟨b6, 2, none⟩ (.int .i64 (numR 1099511627776 t1))) hhE (by simp)
        unfold opV at htx
        have HTX := Lib.hid htx
        have HHE := Lib.hid hhE
        have HBS := Lib.hid (fun (z : Nat) (e : (show Value from (.slice none 0 0)).ownBlock = some z) => HH11.out.base e)
        have kz0 : ¬ (K : Int) = 0 := by omega
        have kz1 : ((K : Int) == 0) = false := by simpa using kz0
        clear htx hhE hfin
        go_wp2_with fail
        refine HTX.out.mono ?_
        rintro e wE ⟨rfl, mE⟩
        have HRE := Lib.hid (HR11.out.mod mE (fun e => e))
        have HBE := Lib.hid (HB11.out.mod mE (fun e => e))
        have HME := Lib.hid (HM11.out.trans mE (fun _ _ e => e))
        have HHF := Lib.hid ((HHE.out.later mE (Nat.le_refl _)).more mE.size)
        have r0 := HRE.out.cell 0
        have g0 := HRE.out.free 0
        have r1 := HRE.out.cell 1
        have g1 := HRE.out.free 1
        have r2 := HRE.out.cell 2
        have g2 := HRE.out.free 2
        have r3 := HRE.out.cell 3
        have g3 := HRE.out.free 3
        have r4 := HRE.out.cell 4
        have g4 := HRE.out.free 4
        have hx0 : wE.cell? ⟨b6, 0, none⟩ = some (.int .i64 (K : Int)) := HBE.out.cell 0
        have hx1 : wE.cell? ⟨b6, 1, none⟩ = some (.int .i64 (numR 1099511627776 t0)) := HBE.out.cell 1
        have hx2 : wE.cell? ⟨b6, 2, none⟩ = some (.int .i64 (numR 1099511627776 t1)) := HBE.out.cell 2
        have hx3 : wE.cell? ⟨b6, 3, none⟩ = some (.int .i64 0) := HBE.out.cell 3
        have hx4 : wE.cell? ⟨b6, 4, none⟩ = some (.slice none 0 0) := HBE.out.cell 4
        clear he0 he1 he2 he3 he4 hbE0 hbE1 hbE2 hbE3 mE
        by_cases hte : textO (⟨(K : Int), (numR 1099511627776 t0), (numR 1099511627776 t1), 0, []⟩ : OpT) = tx
        · have hRR : R = ((⟨(K : Int), (numR 1099511627776 t0), (numR 1099511627776 t1), 0, []⟩ : OpT), 0) := by
            rw [← HR.out]
            unfold refP
            rw [HFIN.out, if_neg (fun e => e.elim (fun h => by rw [HRK.out] at h; omega) (fun h => h hte))]
          subst hRR
          have eq1 := str_same (a := tb (textO (⟨(K : Int), (numR 1099511627776 t0), (numR 1099511627776 t1), 0, []⟩ : OpT))) (b := tb tx) (by rw [tb_data, tb_data]; exact hte)
          have eq2 : (tb (textO (⟨(K : Int), (numR 1099511627776 t0), (numR 1099511627776 t1), 0, []⟩ : OpT))).toList = (tb tx).toList := by simpa using eq1
          clear hte
          go_wp2_with fail
          refine bodyPost_ret (ret_cell_tmp (p := 2) (q := 3) (by kernel_rfl) _ _ b2 24 (opV (⟨(K : Int), (numR 1099511627776 t0), (numR 1099511627776 t1), 0, []⟩ : OpT) (.slice none 0 0)) _ (.int .i64 0) (by kernel_rfl) (by kernel_rfl) (blk5 HRE.out _ _ _ _ _) Tryd.underlying24 (by kernel_rfl) (by kernel_rfl)) (by kernel_rfl) ?_
          have mF := mod5 wE b2 (.int .i64 (K : Int)) (.int .i64 (numR 1099511627776 t0)) (.int .i64 (numR 1099511627776 t1)) (.int .i64 0) (.slice none 0 0)
          have hF := (HHF.out.mod mF (Nat.le_refl _) (fun z e1 e2 => by have := HBS.out z e1; omega)).more mF.size
          exact ⟨⟨_, rfl, hF⟩, HME.out.trans mF (fun i hi e => by omega)⟩
        · have hRR : R = (zeroO, 2) := by
            rw [← HR.out]
            unfold refP
            rw [HFIN.out, if_pos (.inr hte)]
          subst hRR
          have eq1 := str_other (a := tb (textO (⟨(K : Int), (numR 1099511627776 t0), (numR 1099511627776 t1), 0, []⟩ : OpT))) (b := tb tx) (by rw [tb_data, tb_data]; exact hte)
          have eq2 : ¬ (tb (textO (⟨(K : Int), (numR 1099511627776 t0), (numR 1099511627776 t1), 0, []⟩ : OpT))).toList = (tb tx).toList := by simpa using eq1
          have eq3 : (!(tb (textO (⟨(K : Int), (numR 1099511627776 t0), (numR 1099511627776 t1), 0, []⟩ : OpT))).toList == (tb tx).toList) = true := by rw [eq1]; rfl
          clear hte
          go_wp2_with fail
          refine bodyPost_ret (ret_cell_tmp (p := 2) (q := 3) (by kernel_rfl) _ _ b2 24 #[.int .i64 0, .int .i64 0, .int .i64 0, .int .i64 0, .slice none 0 0] _ (.int .i64 2) (by kernel_rfl) (by kernel_rfl) (blk5 HRE.out _ _ _ _ _) Tryd.underlying24 (by kernel_rfl) (by kernel_rfl)) (by kernel_rfl) ?_
          exact ⟨⟨_, rfl, Has.nil⟩, HME.out.trans (mod5 _ b2 _ _ _ _ _) (fun i hi e => by omega)⟩
      · have hwv : wantV K = #[.bool false, .bool false, .bool true, .bool false] := by unfold wantV; rw [hf]; rfl
        rw [hwv] at hwan
        have HWAN := Lib.hid hwan
        clear hwan hwv
        go_wp2_with fail
        refine HWAN.out.mono ?_
        rintro e w5 ⟨rfl, m5⟩
        have hm6 := m5.alloc (.cells #[.bool false, .bool false, .bool true, .bool false] 72)
        have HB6 := Lib.hid (HBB.out.mod hm6 (fun e => e))
        have HO6 := Lib.hid (HOR.out.later hm6)
        have HR6 := Lib.hid (HBRR.out.mod hm6 (fun e => e))
        have HM6 := Lib.hid (HMW.out.trans hm6 (fun _ _ e => e))
        have HW6 := Lib.hid (Blk.new w5 72 #[.bool false, .bool false, .bool true, .bool false])
        have hs5 := m5.size
        clear m5 hm6
        go_upto_region 10 with fail
        have hs6 : (w5.alloc (.cells #[.bool false, .bool false, .bool true, .bool false] 72)).heap.size = w5.heap.size + 1 := by simp
        generalize w5.alloc (.cells #[.bool false, .bool false, .bool true, .bool false] 72) = w6 at *
        generalize w5.heap.size = bw at *
        have HS6 := Lib.hid hs6
        clear hs6
        go_upto_region 11 with (at_builtin
                                refine wpList_append_any _ rfl (.tmp 32) (.tmp 33) _ rfl w1.heap.size 9 i0 _ 1 16 Tryd.underlying39 hi0 hz0 hz1 hz2 rfl (by have := HS6.out; omega) (.slice (some ⟨gl, 0, none⟩) nw cl) nw ((x :: ws).flatMap encT) rfl (by have h := own_mod ((Mod.refl (fun _ => False) w6).alloc (.cells #[.string ⟨#[]⟩, .string ⟨#[]⟩, .string ⟨#[]⟩, .string ⟨#[]⟩] 9)) HO6.out (fun _ _ e => e); rw [HNW.out] at h; exact h) _ (some ⟨w6.heap.size, 0, none⟩) 4 4 [.string ⟨#[]⟩, .string ⟨#[]⟩, .string ⟨#[]⟩, .string ⟨#[]⟩] rfl (Reads.of_own (litOwn (w := w6) (n := w6.heap.size) 9 #[.string ⟨#[]⟩, .string ⟨#[]⟩, .string ⟨#[]⟩, .string ⟨#[]⟩] 4 rfl (Nat.zero_le _) (by decide) rfl)) (fun y hy => by simp at hy; rw [hy]; rfl) (by have := HS6.out; simp only [maxLen]; omega) (by have := HS6.out; omega) (by have := HS6.out; simp; omega) ?_
                                intro v7 w7 hown7 hgr7 hat7)
        have hs6 := HS6.out
        have hm7 : Mod (fun i => i = gl) w6 w7 := (((Mod.refl (fun i => i = gl) w6).alloc _).trans (Mod.ofGrown hgr7) (fun i hi e => (Option.some.inj e).symm))
        have ho7 : Own w7 w1.heap.size 9 1 encT v7 ((x :: ws) ++ [[], [], [], []]) := by
          unfold Own
          rw [List.length_append, HNW.out, List.flatMap_append]
          exact hown7
        obtain ⟨g7, c7, rfl, hc7, hg71, hg72⟩ := ho7.form1 (by simp)
        have hl7 : ((x :: ws) ++ [[], [], [], []]).length = nw + 4 := by rw [List.length_append, HNW.out]; rfl
        rw [hl7] at ho7 hc7 ⊢
        obtain ⟨t0, t1, t2, rs, hts⟩ : ∃ t0 t1 t2 rs, ws ++ [[], [], [], []] = t0 :: t1 :: t2 :: rs := by
          rcases ws with _ | ⟨a, _ | ⟨b, _ | ⟨c, r⟩⟩⟩ <;> exact ⟨_, _, _, _, rfl⟩
        have htl : ∀ t ∈ ws ++ [[], [], [], []], t.length ≤ 100000 := fun t ht => by
          rcases List.mem_append.1 ht with h | h
          · exact HWB.out t (List.mem_cons_of_mem _ h)
          · simp at h; rw [h]; simp
        rw [hts] at htl
        have hl0 := htl t0 (by simp)
        have hl1 := htl t1 (by simp)
        have hl2 := htl t2 (by simp)
        rw [List.cons_append, hts] at ho7
        have hro : refO tx = fillR { zeroO with kind := (K : Int) } [110] (t0 :: t1 :: t2 :: rs) := by rw [HRO.out, hf, hts]
        have hs7 := hm7.size
        have HR7 := Lib.hid (HR6.out.mod hm7 (by omega))
        have HM7 := Lib.hid (HM6.out.trans hm7 (fun i hi e => by omega))
        have HO7 := Lib.hid ho7
        have HW7 := Lib.hid (HW6.out.mod hm7 (by omega))
        have hB7 := HB6.out.mod hm7 (by omega)
        have HB7 : Hid (Blk w7 b6 24 (opV { zeroO with kind := (K : Int) } (.slice none 0 0))) := Lib.hid hB7
        have HH7 : Hid (Own w7 (b6 + 1) 5 1 encB (.slice none 0 0) ([] : Tx)) := Lib.hid Own.nil
        have HRO := Lib.hid hro
        have hg7b : g7 ≠ b6 := fun e => by
          rcases hat7 with h | h <;> (have h' := Option.some.inj h; simp only at h'; first | omega | (simp at h'; omega))
        clear hB7 hm7 ho7 hown7 hgr7 hat7 hro hts htl hf
        have hop0 := HB7.out.cell
        have hk0' : w7.cell? ⟨b6, 0, none⟩ = some (.int .i64 (K : Int)) := hop0 0
        have hwc := HW7.out.cell
        clear hop0
        have hlc0 : w7.cell? ⟨g7, 1, none⟩ = some (.string (tb t0)) := by
          have h := HO7.out.cell encT_len (i := 1) (x := t0) rfl (j := 0) (by omega)
          simpa [encT] using h
        have hb00 : w7.cell? ⟨bw, 0, none⟩ = some (.bool false) := HW7.out.cell 0
        have hb01 : w7.cell? ⟨bw, 1, none⟩ = some (.bool false) := HW7.out.cell 1
        have hb02 : w7.cell? ⟨bw, 2, none⟩ = some (.bool true) := HW7.out.cell 2
        have hb03 : w7.cell? ⟨bw, 3, none⟩ = some (.bool false) := HW7.out.cell 3
        have HNU0 := Lib.hid (numRW (tb t0) 1099511627776 (by decide) (by decide) (by rw [tb_size]; omega) w7)
        rw [tb_data] at HNU0
        clear hk0 hk0' hwc
        go_wp2_with fail
        refine HNU0.out.mono ?_
        rintro e w8 ⟨rfl, m8⟩
        have hop0 := HB7.out.mod m8 (fun e => e)
        have hc0 := hop0.cell 3
        have hf0 := hop0.free 3
        have hB9 : Blk (w8.setCell ⟨b6, 3, none⟩ (.int .i64 (numR 1099511627776 t0))) b6 24 (opV (⟨(K : Int), 0, 0, (numR 1099511627776 t0), []⟩ : OpT) (.slice none 0 0)) := hop0.set 3 _
        have hM9 : Mod (fun i => i = b6) w7 (w8.setCell ⟨b6, 3, none⟩ (.int .i64 (numR 1099511627776 t0))) := (show Mod (fun i => i = b6) w7 w8 from m8.mono (fun _ _ e => e.elim)).setCell (p := ⟨b6, 3, none⟩) (fun _ => rfl) _
        have HH9 := Lib.hid (HH7.out.mod hM9 (fun z e1 e2 => by have := HH7.out.base e1; omega))
        have HB9 := Lib.hid hB9
        have HO9 := Lib.hid (HO7.out.mod hM9 (fun z e1 e2 => hg7b ((Option.some.inj e1).trans e2)))
        have HW9 := Lib.hid (HW7.out.mod hM9 (by omega))
        have HR9 := Lib.hid (HR7.out.mod hM9 (by omega))
        have HM9 := Lib.hid (HM7.out.trans hM9 (fun i hi e => by omega))
        clear hB9 hM9 m8 hlc0 hb00 hb01 hb02 hb03 hop0
        have hfin : refO tx = (⟨(K : Int), 0, 0, (numR 1099511627776 t0), []⟩ : OpT) := HRO.out
        have HFIN := Lib.hid hfin
        have he0 : (w8.setCell ⟨b6, 3, none⟩ (.int .i64 (numR 1099511627776 t0))).cell? ⟨b6, 0, none⟩ = some (.int .i64 (K : Int)) := HB9.out.cell 0
        have he1 : (w8.setCell ⟨b6, 3, none⟩ (.int .i64 (numR 1099511627776 t0))).cell? ⟨b6, 1, none⟩ = some (.int .i64 0) := HB9.out.cell 1
        have he2 : (w8.setCell ⟨b6, 3, none⟩ (.int .i64 (numR 1099511627776 t0))).cell? ⟨b6, 2, none⟩ = some (.int .i64 0) := HB9.out.cell 2
        have he3 : (w8.setCell ⟨b6, 3, none⟩ (.int .i64 (numR 1099511627776 t0))).cell? ⟨b6, 3, none⟩ = some (.int .i64 (numR 1099511627776 t0)) := HB9.out.cell 3
        have he4 : (w8.setCell ⟨b6, 3, none⟩ (.int .i64 (numR 1099511627776 t0))).cell? ⟨b6, 4, none⟩ = some (.slice none 0 0) := HB9.out.cell 4
        have hbE0 : (w8.setCell ⟨b6, 3, none⟩ (.int .i64 (numR 1099511627776 t0))).cell? ⟨bw, 0, none⟩ = some (.bool false) := HW9.out.cell 0
        have hbE1 : (w8.setCell ⟨b6, 3, none⟩ (.int .i64 (numR 1099511627776 t0))).cell? ⟨bw, 1, none⟩ = some (.bool false) := HW9.out.cell 1
        have hbE2 : (w8.setCell ⟨b6, 3, none⟩ (.int .i64 (numR 1099511627776 t0))).cell? ⟨bw, 2, none⟩ = some (.bool true) := HW9.out.cell 2
        have hbE3 : (w8.setCell ⟨b6, 3, none⟩ (.int .i64 (numR 1099511627776 t0))).cell? ⟨bw, 3, none⟩ = some (.bool false) := HW9.out.cell 3
        have hhE : Has (w8.setCell ⟨b6, 3, none⟩ (.int .i64 (numR 1099511627776 t0))) (w8.setCell ⟨b6, 3, none⟩ (.int .i64 (numR 1099511627776 t0))).heap.size 1 encB (.slice none 0 0) [] := HH9.out.has
        have htx := textRW (⟨(K : Int), 0, 0, (numR 1099511627776 t0), []⟩ : OpT) (.slice none 0 0) (w8.setCell ⟨b6, 3, none⟩ (.int .i64 (numR 1099511627776 t0))) hhE (by simp)
        unfold opV at htx
        have HTX := Lib.hid htx
        have HHE := Lib.hid hhE
        have HBS := Lib.hid (fun (z : Nat) (e : (show Value from (.slice none 0 0)).ownBlock = some z) => HH9.out.base e)
        have kz0 : ¬ (K : Int) = 0 := by omega
        have kz1 : ((K : Int) == 0) = false := by simpa using kz0
        clear htx hhE hfin
        go_wp2_with fail
        refine HTX.out.mono ?_
        rintro e wE ⟨rfl, mE⟩
        have HRE := Lib.hid (HR9.out.mod mE (fun e => e))
        have HBE := Lib.hid (HB9.out.mod mE (fun e => e))
        have HME := Lib.hid (HM9.out.trans mE (fun _ _ e => e))
        have HHF := Lib.hid ((HHE.out.later mE (Nat.le_refl _)).more mE.size)
        have r0 := HRE.out.cell 0
        have g0 := HRE.out.free 0
        have r1 := HRE.out.cell 1
        have g1 := HRE.out.free 1
        have r2 := HRE.out.cell 2
        have g2 := HRE.out.free 2
        have r3 := HRE.out.cell 3
        have g3 := HRE.out.free 3
        have r4 := HRE.out.cell 4
        have g4 := HRE.out.free 4
        have hx0 : wE.cell? ⟨b6, 0, none⟩ = some (.int .i64 (K : Int)) := HBE.out.cell 0
        have hx1 : wE.cell? ⟨b6, 1, none⟩ = some (.int .i64 0) := HBE.out.cell 1
        have hx2 : wE.cell? ⟨b6, 2, none⟩ = some (.int .i64 0) := HBE.out.cell 2
        have hx3 : wE.cell? ⟨b6, 3, none⟩ = some (.int .i64 (numR 1099511627776 t0)) := HBE.out.cell 3
        have hx4 : wE.cell? ⟨b6, 4, none⟩ = some (.slice none 0 0) := HBE.out.cell 4
        clear he0 he1 he2 he3 he4 hbE0 hbE1 hbE2 hbE3 mE
        by_cases hte : textO (⟨(K : Int), 0, 0, (numR 1099511627776 t0), []⟩ : OpT) = tx
        · have hRR : R = ((⟨(K : Int), 0, 0, (numR 1099511627776 t0), []⟩ : OpT), 0) := by
            rw [← HR.out]
            unfold refP
            rw [HFIN.out, if_neg (fun e => e.elim (fun h => by rw [HRK.out] at h; omega) (fun h => h hte))]
          subst hRR
          have eq1 := str_same (a := tb (textO (⟨(K : Int), 0, 0, (numR 1099511627776 t0), []⟩ : OpT))) (b := tb tx) (by rw [tb_data, tb_data]; exact hte)
          have eq2 : (tb (textO (⟨(K : Int), 0, 0, (numR 1099511627776 t0), []⟩ : OpT))).toList = (tb tx).toList := by simpa using eq1
          clear hte
          go_wp2_with fail
          refine bodyPost_ret (ret_cell_tmp (p := 2) (q := 3) (by kernel_rfl) _ _ b2 24 (opV (⟨(K : Int), 0, 0, (numR 1099511627776 t0), []⟩ : OpT) (.slice none 0 0)) _ (.int .i64 0) (by kernel_rfl) (by kernel_rfl) (blk5 HRE.out _ _ _ _ _) Tryd.underlying24 (by kernel_rfl) (by kernel_rfl)) (by kernel_rfl) ?_
          have mF := mod5 wE b2 (.int .i64 (K : Int)) (.int .i64 0) (.int .i64 0) (.int .i64 (numR 1099511627776 t0)) (.slice none 0 0)
          have hF := (HHF.out.mod mF (Nat.le_refl _) (fun z e1 e2 => by have := HBS.out z e1; omega)).more mF.size
          exact ⟨⟨_, rfl, hF⟩, HME.out.trans mF (fun i hi e => by omega)⟩
        · have hRR : R = (zeroO, 2) := by
            rw [← HR.out]
            unfold refP
            rw [HFIN.out, if_pos (.inr hte)]
          subst hRR
          have eq1 := str_other (a := tb (textO (⟨(K : Int), 0, 0, (numR 1099511627776 t0), []⟩ : OpT))) (b := tb tx) (by rw [tb_data, tb_data]; exact hte)
          have eq2 : ¬ (tb (textO (⟨(K : Int), 0, 0, (numR 1099511627776 t0), []⟩ : OpT))).toList = (tb tx).toList := by simpa using eq1
          have eq3 : (!(tb (textO (⟨(K : Int), 0, 0, (numR 1099511627776 t0), []⟩ : OpT))).toList == (tb tx).toList) = true := by rw [eq1]; rfl
          clear hte
          go_wp2_with fail
          refine bodyPost_ret (ret_cell_tmp (p := 2) (q := 3) (by kernel_rfl) _ _ b2 24 #[.int .i64 0, .int .i64 0, .int .i64 0, .int .i64 0, .slice none 0 0] _ (.int .i64 2) (by kernel_rfl) (by kernel_rfl) (blk5 HRE.out _ _ _ _ _) Tryd.underlying24 (by kernel_rfl) (by kernel_rfl)) (by kernel_rfl) ?_
          exact ⟨⟨_, rfl, Has.nil⟩, HME.out.trans (mod5 _ b2 _ _ _ _ _) (fun i hi e => by omega)⟩
      · have hwv : wantV K = #[.bool true, .bool false, .bool true, .bool false] := by unfold wantV; rw [hf]; rfl
        rw [hwv] at hwan
        have HWAN := Lib.hid hwan
        clear hwan hwv
        go_wp2_with fail
        refine HWAN.out.mono ?_
        rintro e w5 ⟨rfl, m5⟩
        have hm6 := m5.alloc (.cells #[.bool true, .bool false, .bool true, .bool false] 72)
        have HB6 := Lib.hid (HBB.out.mod hm6 (fun e => e))
        have HO6 := Lib.hid (HOR.out.later hm6)
        have HR6 := Lib.hid (HBRR.out.mod hm6 (fun e => e))
        have HM6 := Lib.hid (HMW.out.trans hm6 (fun _ _ e => e))
        have HW6 := Lib.hid (Blk.new w5 72 #[.bool true, .bool false, .bool true, .bool false])
        have hs5 := m5.size
        clear m5 hm6
        go_upto_region 10 with fail
        have hs6 : (w5.alloc (.cells #[.bool true, .bool false, .bool true, .bool false] 72)).heap.size = w5.heap.size + 1 := by simp
        generalize w5.alloc (.cells #[.bool true, .bool false, .bool true, .bool false] 72) = w6 at *
        generalize w5.heap.size = bw at *
        have HS6 := Lib.hid hs6
        clear hs6
        go_upto_region 11 with (at_builtin
                                refine wpList_append_any _ rfl (.tmp 32) (.tmp 33) _ rfl w1.heap.size 9 i0 _ 1 16 Tryd.underlying39 hi0 hz0 hz1 hz2 rfl (by have := HS6.out; omega) (.slice (some ⟨gl, 0, none⟩) nw cl) nw ((x :: ws).flatMap encT) rfl (by have h := own_mod ((Mod.refl (fun _ => False) w6).alloc (.cells #[.string ⟨#[]⟩, .string ⟨#[]⟩, .string ⟨#[]⟩, .string ⟨#[]⟩] 9)) HO6.out (fun _ _ e => e); rw [HNW.out] at h; exact h) _ (some ⟨w6.heap.size, 0, none⟩) 4 4 [.string ⟨#[]⟩, .string ⟨#[]⟩, .string ⟨#[]⟩, .string ⟨#[]⟩] rfl (Reads.of_own (litOwn (w := w6) (n := w6.heap.size) 9 #[.string ⟨#[]⟩, .string ⟨#[]⟩, .string ⟨#[]⟩, .string ⟨#[]⟩] 4 rfl (Nat.zero_le _) (by decide) rfl)) (fun y hy => by simp at hy; rw [hy]; rfl) (by have := HS6.out; simp only [maxLen]; omega) (by have := HS6.out; omega) (by have := HS6.out; simp; omega) ?_
                                intro v7 w7 hown7 hgr7 hat7)
        have hs6 := HS6.out
        have hm7 : Mod (fun i => i = gl) w6 w7 := (((Mod.refl (fun i => i = gl) w6).alloc _).trans (Mod.ofGrown hgr7) (fun i hi e => (Option.some.inj e).symm))
        have ho7 : Own w7 w1.heap.size 9 1 encT v7 ((x :: ws) ++ [[], [], [], []]) := by
          unfold Own
          rw [List.length_append, HNW.out, List.flatMap_append]
          exact hown7
        obtain ⟨g7, c7, rfl, hc7, hg71, hg72⟩ := ho7.form1 (by simp)
        have hl7 : ((x :: ws) ++ [[], [], [], []]).length = nw + 4 := by rw [List.length_append, HNW.out]; rfl
        rw [hl7] at ho7 hc7 ⊢
        obtain ⟨t0, t1, t2, rs, hts⟩ : ∃ t0 t1 t2 rs, ws ++ [[], [], [], []] = t0 :: t1 :: t2 :: rs := by
          rcases ws with _ | ⟨a, _ | ⟨b, _ | ⟨c, r⟩⟩⟩ <;> exact ⟨_, _, _, _, rfl⟩
        have htl : ∀ t ∈ ws ++ [[], [], [], []], t.length ≤ 100000 := fun t ht => by
          rcases List.mem_append.1 ht with h | h
          · exact HWB.out t (List.mem_cons_of_mem _ h)
          · simp at h; rw [h]; simp
        rw [hts] at htl
        have hl0 := htl t0 (by simp)
        have hl1 := htl t1 (by simp)
        have hl2 := htl t2 (by simp)
        rw [List.cons_append, hts] at ho7
        have hro : refO tx = fillR { zeroO with kind := (K : Int) } [97, 110] (t0 :: t1 :: t2 :: rs) := by rw [HRO.out, hf, hts]
        have hs7 := hm7.size
        have HR7 := Lib.hid (HR6.out.mod hm7 (by omega))
        have HM7 := Lib.hid (HM6.out.trans hm7 (fun i hi e => by omega))
        have HO7 := Lib.hid ho7
        have HW7 := Lib.hid (HW6.out.mod hm7 (by omega))
        have hB7 := HB6.out.mod hm7 (by omega)
        have HB7 : Hid (Blk w7 b6 24 (opV { zeroO with kind := (K : Int) } (.slice none 0 0))) := Lib.hid hB7
        have HH7 : Hid (Own w7 (b6 + 1) 5 1 encB (.slice none 0 0) ([] : Tx)) := Lib.hid Own.nil
        have HRO := Lib.hid hro
        have hg7b : g7 ≠ b6 := fun e => by
          rcases hat7 with h | h <;> (have h' := Option.some.inj h; simp only at h'; first | omega | (simp at h'; omega))
        clear hB7 hm7 ho7 hown7 hgr7 hat7 hro hts htl hf
        have hop0 := HB7.out.cell
        have hk0' : w7.cell? ⟨b6, 0, none⟩ = some (.int .i64 (K : Int)) := hop0 0
        have hwc := HW7.out.cell
        clear hop0
        have hlc0 : w7.cell? ⟨g7, 1, none⟩ = some (.string (tb t0)) := by
          have h := HO7.out.cell encT_len (i := 1) (x := t0) rfl (j := 0) (by omega)
          simpa [encT] using h
        have hb00 : w7.cell? ⟨bw, 0, none⟩ = some (.bool true) := HW7.out.cell 0
        have hb01 : w7.cell? ⟨bw, 1, none⟩ = some (.bool false) := HW7.out.cell 1
        have hb02 : w7.cell? ⟨bw, 2, none⟩ = some (.bool true) := HW7.out.cell 2
        have hb03 : w7.cell? ⟨bw, 3, none⟩ = some (.bool false) := HW7.out.cell 3
        have HNU0 := Lib.hid (numRW (tb t0) 1099511627776 (by decide) (by decide) (by rw [tb_size]; omega) w7)
        rw [tb_data] at HNU0
        clear hk0 hk0' hwc
        go_wp2_with fail
        refine HNU0.out.mono ?_
        rintro e w8 ⟨rfl, m8⟩
        have hop0 := HB7.out.mod m8 (fun e => e)
        have hc0 := hop0.cell 1
        have hf0 := hop0.free 1
        have hB9 : Blk (w8.setCell ⟨b6, 1, none⟩ (.int .i64 (numR 1099511627776 t0))) b6 24 (opV (⟨(K : Int), (numR 1099511627776 t0), 0, 0, []⟩ : OpT) (.slice none 0 0)) := hop0.set 1 _
        have hM9 : Mod (fun i => i = b6) w7 (w8.setCell ⟨b6, 1, none⟩ (.int .i64 (numR 1099511627776 t0))) := (show Mod (fun i => i = b6) w7 w8 from m8.mono (fun _ _ e => e.elim)).setCell (p := ⟨b6, 1, none⟩) (fun _ => rfl) _
        have HH9 := Lib.hid (HH7.out.mod hM9 (fun z e1 e2 => by have := HH7.out.base e1; omega))
        have HB9 := Lib.hid hB9
        have HO9 := Lib.hid (HO7.out.mod hM9 (fun z e1 e2 => hg7b ((Option.some.inj e1).trans e2)))
        have HW9 := Lib.hid (HW7.out.mod hM9 (by omega))
        have HR9 := Lib.hid (HR7.out.mod hM9 (by omega))
        have HM9 := Lib.hid (HM7.out.trans hM9 (fun i hi e => by omega))
        clear hB9 hM9 m8 hlc0 hb00 hb01 hb02 hb03 hop0
        have hlc1 : (w8.setCell ⟨b6, 1, none⟩ (.int .i64 (numR 1099511627776 t0))).cell? ⟨g7, 2, none⟩ = some (.string (tb t1)) := by
          have h := HO9.out.cell encT_len (i := 2) (x := t1) rfl (j := 0) (by omega)
          simpa [encT] using h
        have hb10 : (w8.setCell ⟨b6, 1, none⟩ (.int .i64 (numR 1099511627776 t0))).cell? ⟨bw, 0, none⟩ = some (.bool true) := HW9.out.cell 0
        have hb11 : (w8.setCell ⟨b6, 1, none⟩ (.int .i64 (numR 1099511627776 t0))).cell? ⟨bw, 1, none⟩ = some (.bool false) := HW9.out.cell 1
        have hb12 : (w8.setCell ⟨b6, 1, none⟩ (.int .i64 (numR 1099511627776 t0))).cell? ⟨bw, 2, none⟩ = some (.bool true) := HW9.out.cell 2
        have hb13 : (w8.setCell ⟨b6, 1, none⟩ (.int .i64 (numR 1099511627776 t0))).cell? ⟨bw, 3, none⟩ = some (.bool false) := HW9.out.cell 3
        have HNU1 := Lib.hid (numRW (tb t1) 1099511627776 (by decide) (by decide) (by rw [tb_size]; omega) (w8.setCell ⟨b6, 1, none⟩ (.int .i64 (numR 1099511627776 t0))))
        rw [tb_data] at HNU1
        go_wp2_with fail
        refine HNU1.out.mono ?_
        rintro e w10 ⟨rfl, m10⟩
        have hop1 := HB9.out.mod m10 (fun e => e)
        have hc1 := hop1.cell 3
        have hf1 := hop1.free 3
        have hB11 : Blk (w10.setCell ⟨b6, 3, none⟩ (.int .i64 (numR 1099511627776 t1))) b6 24 (opV (⟨(K : Int), (numR 1099511627776 t0), 0, (numR 1099511627776 t1), []⟩ : OpT) (.slice none 0 0)) := hop1.set 3 _
        have hM11 : Mod (fun i => i = b6) (w8.setCell ⟨b6, 1, none⟩ (.int .i64 (numR 1099511627776 t0))) (w10.setCell ⟨b6, 3, none⟩ (.int .i64 (numR 1099511627776 t1))) := (show Mod (fun i => i = b6) (w8.setCell ⟨b6, 1, none⟩ (.int .i64 (numR 1099511627776 t0))) w10 from m10.mono (fun _ _ e => e.elim)).setCell (p := ⟨b6, 3, none⟩) (fun _ => rfl) _
        have HH11 := Lib.hid (HH9.out.mod hM11 (fun z e1 e2 => by have := HH9.out.base e1; omega))
        have HB11 := Lib.hid hB11
        have HO11 := Lib.hid (HO9.out.mod hM11 (fun z e1 e2 => hg7b ((Option.some.inj e1).trans e2)))
        have HW11 := Lib.hid (HW9.out.mod hM11 (by omega))
        have HR11 := Lib.hid (HR9.out.mod hM11 (by omega))
        have HM11 := Lib.hid (HM9.out.trans hM11 (fun i hi e => by omega))
        clear hB11 hM11 m10 hlc1 hb10 hb11 hb12 hb13 hop1
        have hfin : refO tx = (⟨(K : Int), (numR 1099511627776 t0), 0, (numR 1099511627776 t1), []⟩ : OpT) := HRO.out
        have HFIN := Lib.hid hfin
        have he0 : (w10.setCell ⟨b6, 3, none⟩ (.int .i64 (numR 1099511627776 t1))).cell? ⟨b6, 0, none⟩ = some (.int .i64 (K : Int)) := HB11.out.cell 0
        have he1 : (w10.setCell ⟨b6, 3, none⟩ (.int .i64 (numR 1099511627776 t1))).cell? ⟨b6, 1, none⟩ = some (.int .i64 (numR 1099511627776 t0)) := HB11.out.cell 1
        have he2 : (w10.setCell ⟨b6, 3, none⟩ (.int .i64 (numR 1099511627776 t1))).cell? ⟨b6, 2, none⟩ = some (.int .i64 0) := HB11.out.cell 2
        have he3 : (w10.setCell ⟨b6, 3, none⟩ (.int .i64 (numR 1099511627776 t1))).cell? ⟨b6, 3, none⟩ = some (.int .i64 (numR 1099511627776 t1)) := HB11.out.cell 3
        have he4 : (w10.setCell ⟨b6, 3, none⟩ (.int .i64 (numR 1099511627776 t1))).cell? ⟨b6, 4, none⟩ = some (.slice none 0 0) := HB11.out.cell 4
        have hbE0 : (w10.setCell ⟨b6, 3, none⟩ (.int .i64 (numR 1099511627776 t1))).cell? ⟨bw, 0, none⟩ = some (.bool true) := HW11.out.cell 0
        have hbE1 : (w10.setCell ⟨b6, 3, none⟩ (.int .i64 (numR 1099511627776 t1))).cell? ⟨bw, 1, none⟩ = some (.bool false) := HW11.out.cell 1
        have hbE2 : (w10.setCell ⟨b6, 3, none⟩ (.int .i64 (numR 1099511627776 t1))).cell? ⟨bw, 2, none⟩ = some (.bool true) := HW11.out.cell 2
        have hbE3 : (w10.setCell ⟨b6, 3, none⟩ (.int .i64 (numR 1099511627776 t1))).cell? ⟨bw, 3, none⟩ = some (.bool false) := HW11.out.cell 3
        have hhE : Has (w10.setCell ⟨b6, 3, none⟩ (.int .i64 (numR 1099511627776 t1))) (w10.setCell ⟨b6, 3, none⟩ (.int .i64 (numR 1099511627776 t1))).heap.size 1 encB (.slice none 0 0) [] := HH11.out.has
        have htx := textRW (⟨(K : Int), (numR 1099511627776 t0), 0, (numR 1099511627776 t1), []⟩ : OpT) (.slice none 0 0) (w10.setCell ⟨b6, 3, none⟩ (.int .i64 (numR 1099511627776 t1))) hhE (by simp)
        unfold opV at htx
        have HTX := Lib.hid htx
        have HHE := Lib.hid hhE
        have HBS := Lib.hid (fun (z : Nat) (e : (show Value from (.slice none 0 0)).ownBlock = some z) => HH11.out.base e)
        have kz0 : ¬ (K : Int) = 0 := by omega
        have kz1 : ((K : Int) == 0) = false := by simpa using kz0
        clear htx hhE hfin
        go_wp2_with fail
        refine HTX.out.mono ?_
        rintro e wE ⟨rfl, mE⟩
        have HRE := Lib.hid (HR11.out.mod mE (fun e => e))
        have HBE := Lib.hid (HB11.out.mod mE (fun e => e))
        have HME := Lib.hid (HM11.out.trans mE (fun _ _ e => e))
        have HHF := Lib.hid ((HHE.out.later mE (Nat.le_refl _)).more mE.size)
        have r0 := HRE.out.cell 0
        have g0 := HRE.out.free 0
        have r1 := HRE.out.cell 1
        have g1 := HRE.out.free 1
        have r2 := HRE.out.cell 2
        have g2 := HRE.out.free 2
        have r3 := HRE.out.cell 3
        have g3 := HRE.out.free 3
        have r4 := HRE.out.cell 4
        have g4 := HRE.out.free 4
        have hx0 : wE.cell? ⟨b6, 0, none⟩ = some (.int .i64 (K : Int)) := HBE.out.cell 0
        have hx1 : wE.cell? ⟨b6, 1, none⟩ = some (.int .i64 (numR 1099511627776 t0)) := HBE.out.cell 1
        have hx2 : wE.cell? ⟨b6, 2, none⟩ = some (.int .i64 0) := HBE.out.cell 2
        have hx3 : wE.cell? ⟨b6, 3, none⟩ = some (.int .i64 (numR 1099511627776 t1)) := HBE.out.cell 3
        have hx4 : wE.cell? ⟨b6, 4, none⟩ = some (.slice none 0 0) := HBE.out.cell 4
        clear he0 he1 he2 he3 he4 hbE0 hbE1 hbE2 hbE3 mE
        by_cases hte : textO (⟨(K : Int), (numR 1099511627776 t0), 0, (numR 1099511627776 t1), []⟩ : OpT) = tx
        · have hRR : R = ((⟨(K : Int), (numR 1099511627776 t0), 0, (numR 1099511627776 t1), []⟩ : OpT), 0) := by
            rw [← HR.out]
            unfold refP
            rw [HFIN.out, if_neg (fun e => e.elim (fun h => by rw [HRK.out] at h; omega) (fun h => h hte))]
          subst hRR
          have eq1 := str_same (a := tb (textO (⟨(K : Int), (numR 1099511627776 t0), 0, (numR 1099511627776 t1), []⟩ : OpT))) (b := tb tx) (by rw [tb_data, tb_data]; exact hte)
          have eq2 : (tb (textO (⟨(K : Int), (numR 1099511627776 t0), 0, (numR 1099511627776 t1), []⟩ : OpT))).toList = (tb tx).toList := by simpa using eq1
          clear hte
          go_wp2_with fail
          refine bodyPost_ret (ret_cell_tmp (p := 2) (q := 3) (by kernel_rfl) _ _ b2 24 (opV (⟨(K : Int), (numR 1099511627776 t0), 0, (numR 1099511627776 t1), []⟩ : OpT) (.slice none 0 0)) _ (.int .i64 0) (by kernel_rfl) (by kernel_rfl) (blk5 HRE.out _ _ _ _ _) Tryd.underlying24 (by kernel_rfl) (by kernel_rfl)) (by kernel_rfl) ?_
          have mF := mod5 wE b2 (.int .i64 (K : Int)) (.int .i64 (numR 1099511627776 t0)) (.int .i64 0) (.int .i64 (numR 1099511627776 t1)) (.slice none 0 0)
          have hF := (HHF.out.mod mF (Nat.le_refl _) (fun z e1 e2 => by have := HBS.out z e1; omega)).more mF.size
          exact ⟨⟨_, rfl, hF⟩, HME.out.trans mF (fun i hi e => by omega)⟩
        · have hRR : R = (zeroO, 2) := by
            rw [← HR.out]
            unfold refP
            rw [HFIN.out, if_pos (.inr hte)]
          subst hRR
          have eq1 := str_other (a := tb (textO (⟨(K : Int), (numR 1099511627776 t0), 0, (numR 1099511627776 t1), []⟩ : OpT))) (b := tb tx) (by rw [tb_data, tb_data]; exact hte)
          have eq2 : ¬ (tb (textO (⟨(K : Int), (numR 1099511627776 t0), 0, (numR 1099511627776 t1), []⟩ : OpT))).toList = (tb tx).toList := by simpa using eq1
          have eq3 : (!(tb (textO (⟨(K : Int), (numR 1099511627776 t0), 0, (numR 1099511627776 t1), []⟩ : OpT))).toList == (tb tx).toList) = true := by rw [eq1]; rfl
          clear hte
          go_wp2_with fail
          refine bodyPost_ret (ret_cell_tmp (p := 2) (q := 3) (by kernel_rfl) _ _ b2 24 #[.int .i64 0, .int .i64 0, .int .i64 0, .int .i64 0, .slice none 0 0] _ (.int .i64 2) (by kernel_rfl) (by kernel_rfl) (blk5 HRE.out _ _ _ _ _) Tryd.underlying24 (by kernel_rfl) (by kernel_rfl)) (by kernel_rfl) ?_
          exact ⟨⟨_, rfl, Has.nil⟩, HME.out.trans (mod5 _ b2 _ _ _ _ _) (fun i hi e => by omega)⟩
      · have hwv : wantV K = #[.bool true, .bool false, .bool false, .bool true] := by unfold wantV; rw [hf]; rfl
        rw [hwv] at hwan
        have HWAN := Lib.hid hwan
        clear hwan hwv
        go_wp2_with fail
        refine HWAN.out.mono ?_
        rintro e w5 ⟨rfl, m5⟩
        have hm6 := m5.alloc (.cells #[.bool true, .bool false, .bool false, .bool true] 72)
        have HB6 := Lib.hid (HBB.out.mod hm6 (fun e => e))
        have HO6 := Lib.hid (HOR.out.later hm6)
        have HR6 := Lib.hid (HBRR.out.mod hm6 (fun e => e))
        have HM6 := Lib.hid (HMW.out.trans hm6 (fun _ _ e => e))
        have HW6 := Lib.hid (Blk.new w5 72 #[.bool true, .bool false, .bool false, .bool true])
        have hs5 := m5.size
        clear m5 hm6
        go_upto_region 10 with fail
        have hs6 : (w5.alloc (.cells #[.bool true, .bool false, .bool false, .bool true] 72)).heap.size = w5.heap.size + 1 := by simp
        generalize w5.alloc (.cells #[.bool true, .bool false, .bool false, .bool true] 72) = w6 at *
        generalize w5.heap.size = bw at *
        have HS6 := Lib.hid hs6
        clear hs6
        go_upto_region 11 with (at_builtin
                                refine wpList_append_any _ rfl (.tmp 32) (.tmp 33) _ rfl w1.heap.size 9 i0 _ 1 16 Tryd.underlying39 hi0 hz0 hz1 hz2 rfl (by have := HS6.out; omega) (.slice (some ⟨gl, 0, none⟩) nw cl) nw ((x :: ws).flatMap encT) rfl (by have h := own_mod ((Mod.refl (fun _ => False) w6).alloc (.cells #[.string ⟨#[]⟩, .string ⟨#[]⟩, .string ⟨#[]⟩, .string ⟨#[]⟩] 9)) HO6.out (fun _ _ e => e); rw [HNW.out] at h; exact h) _ (some ⟨w6.heap.size, 0, none⟩) 4 4 [.string ⟨#[]⟩, .string ⟨#[]⟩, .string ⟨#[]⟩, .string ⟨#[]⟩] rfl (Reads.of_own (litOwn (w := w6) (n := w6.heap.size) 9 #[.string ⟨#[]⟩, .string ⟨#[]⟩, .string ⟨#[]⟩, .string ⟨#[]⟩] 4 rfl (Nat.zero_le _) (by decide) rfl)) (fun y hy => by simp at hy; rw [hy]; rfl) (by have := HS6.out; simp only [maxLen]; omega) (by have := HS6.out; omega) (by have := HS6.out; simp; omega) ?_
                                intro v7 w7 hown7 hgr7 hat7)
        have hs6 := HS6.out
        have hm7 : Mod (fun i => i = gl) w6 w7 := (((Mod.refl (fun i => i = gl) w6).alloc _).trans (Mod.ofGrown hgr7) (fun i hi e => (Option.some.inj e).symm))
        have ho7 : Own w7 w1.heap.size 9 1 encT v7 ((x :: ws) ++ [[], [], [], []]) := by
          unfold Own
          rw [List.length_append, HNW.out, List.flatMap_append]
          exact hown7
        obtain ⟨g7, c7, rfl, hc7, hg71, hg72⟩ := ho7.form1 (by simp)
        have hl7 : ((x :: ws) ++ [[], [], [], []]).length = nw + 4 := by rw [List.length_append, HNW.out]; rfl
        rw [hl7] at ho7 hc7 ⊢
        obtain ⟨t0, t1, t2, rs, hts⟩ : ∃ t0 t1 t2 rs, ws ++ [[], [], [], []] = t0 :: t1 :: t2 :: rs := by
          rcases ws with _ | ⟨a, _ | ⟨b, _ | ⟨c, r⟩⟩⟩ <;> exact ⟨_, _, _, _, rfl⟩
        have htl : ∀ t ∈ ws ++ [[], [], [], []], t.length ≤ 100000 := fun t ht => by
          rcases List.mem_append.1 ht with h | h
          · exact HWB.out t (List.mem_cons_of_mem _ h)
          · simp at h; rw [h]; simp
        rw [hts] at htl
        have hl0 := htl t0 (by simp)
        have hl1 := htl t1 (by simp)
        have hl2 := htl t2 (by simp)
        rw [List.cons_append, hts] at ho7
        have hro : refO tx = fillR { zeroO with kind := (K : Int) } [97, 100] (t0 :: t1 :: t2 :: rs) := by rw [HRO.out, hf, hts]
        have hs7 := hm7.size
        have HR7 := Lib.hid (HR6.out.mod hm7 (by omega))
        have HM7 := Lib.hid (HM6.out.trans hm7 (fun i hi e => by omega))
        have HO7 := Lib.hid ho7
        have HW7 := Lib.hid (HW6.out.mod hm7 (by omega))
        have hB7 := HB6.out.mod hm7 (by omega)
        have HB7 : Hid (Blk w7 b6 24 (opV { zeroO with kind := (K : Int) } (.slice none 0 0))) := Lib.hid hB7
        have HH7 : Hid (Own w7 (b6 + 1) 5 1 encB (.slice none 0 0) ([] : Tx)) := Lib.hid Own.nil
        have HRO := Lib.hid hro
        have hg7b : g7 ≠ b6 := fun e => by
          rcases hat7 with h | h <;> (have h' := Option.some.inj h; simp only at h'; first | omega | (simp at h'; omega))
        clear hB7 hm7 ho7 hown7 hgr7 hat7 hro hts htl hf
        have hop0 := HB7.out.cell
        have hk0' : w7.cell? ⟨b6, 0, none⟩ = some (.int .i64 (K : Int)) := hop0 0
        have hwc := HW7.out.cell
        clear hop0
        have hlc0 : w7.cell? ⟨g7, 1, none⟩ = some (.string (tb t0)) := by
          have h := HO7.out.cell encT_len (i := 1) (x := t0) rfl (j := 0) (by omega)
          simpa [encT] using h
        have hb00 : w7.cell? ⟨bw, 0, none⟩ = some (.bool true) := HW7.out.cell 0
        have hb01 : w7.cell? ⟨bw, 1, none⟩ = some (.bool false) := HW7.out.cell 1
        have hb02 : w7.cell? ⟨bw, 2, none⟩ = some (.bool false) := HW7.out.cell 2
        have hb03 : w7.cell? ⟨bw, 3, none⟩ = some (.bool true) := HW7.out.cell 3
        have HNU0 := Lib.hid (numRW (tb t0) 1099511627776 (by decide) (by decide) (by rw [tb_size]; omega) w7)
        rw [tb_data] at HNU0
        clear hk0 hk0' hwc
        go_wp2_with fail
        refine HNU0.out.mono ?_
        rintro e w8 ⟨rfl, m8⟩
        have hop0 := HB7.out.mod m8 (fun e => e)
        have hc0 := hop0.cell 1
        have hf0 := hop0.free 1
        have hB9 : Blk (w8.setCell ⟨b6, 1, none⟩ (.int .i64 (numR 1099511627776 t0))) b6 24 (opV (⟨(K : Int), (numR 1099511627776 t0), 0, 0, []⟩ : OpT) (.slice none 0 0)) := hop0.set 1 _
        have hM9 : Mod (fun i => i = b6) w7 (w8.setCell ⟨b6, 1, none⟩ (.int .i64 (numR 1099511627776 t0))) := (show Mod (fun i => i = b6) w7 w8 from m8.mono (fun _ _ e => e.elim)).setCell (p := ⟨b6, 1, none⟩) (fun _ => rfl) _
        have HH9 := Lib.hid (HH7.out.mod hM9 (fun z e1 e2 => by have := HH7.out.base e1; omega))
        have HB9 := Lib.hid hB9
        have HO9 := Lib.hid (HO7.out.mod hM9 (fun z e1 e2 => hg7b ((Option.some.inj e1).trans e2)))
        have HW9 := Lib.hid (HW7.out.mod hM9 (by omega))
        have HR9 := Lib.hid (HR7.out.mod hM9 (by omega))
        have HM9 := Lib.hid (HM7.out.trans hM9 (fun i hi e => by omega))
        clear hB9 hM9 m8 hlc0 hb00 hb01 hb02 hb03 hop0
        have hlc1 : (w8.setCell ⟨b6, 1, none⟩ (.int .i64 (numR 1099511627776 t0))).cell? ⟨g7, 2, none⟩ = some (.string (tb t1)) := by
          have h := HO9.out.cell encT_len (i := 2) (x := t1) rfl (j := 0) (by omega)
          simpa [encT] using h
        have hb10 : (w8.setCell ⟨b6, 1, none⟩ (.int .i64 (numR 1099511627776 t0))).cell? ⟨bw, 0, none⟩ = some (.bool true) := HW9.out.cell 0
        have hb11 : (w8.setCell ⟨b6, 1, none⟩ (.int .i64 (numR 1099511627776 t0))).cell? ⟨bw, 1, none⟩ = some (.bool false) := HW9.out.cell 1
        have hb12 : (w8.setCell ⟨b6, 1, none⟩ (.int .i64 (numR 1099511627776 t0))).cell? ⟨bw, 2, none⟩ = some (.bool false) := HW9.out.cell 2
        have hb13 : (w8.setCell ⟨b6, 1, none⟩ (.int .i64 (numR 1099511627776 t0))).cell? ⟨bw, 3, none⟩ = some (.bool true) := HW9.out.cell 3
        have HNU1 := Lib.hid (unhexRW (tb t1) (by rw [tb_size]; omega) (w8.setCell ⟨b6, 1, none⟩ (.int .i64 (numR 1099511627776 t0))))
        rw [tb_data] at HNU1
        go_wp2_with fail
        refine HNU1.out.mono ?_
        rintro e w10 ⟨⟨dv10, bb, rfl, hod10⟩, m10⟩
        have hsw10 : b6 + 1 ≤ (w8.setCell ⟨b6, 1, none⟩ (.int .i64 (numR 1099511627776 t0))).heap.size := HB9.out.lt
        have hop1 := HB9.out.mod m10 (fun e => e)
        have hc1 := hop1.cell 4
        have hf1 := hop1.free 4
        have hB11 : Blk (w10.setCell ⟨b6, 4, none⟩ dv10) b6 24 (opV (⟨(K : Int), (numR 1099511627776 t0), 0, 0, (unhexR t1)⟩ : OpT) dv10) := hop1.set 4 _
        have hM11 : Mod (fun i => i = b6) (w8.setCell ⟨b6, 1, none⟩ (.int .i64 (numR 1099511627776 t0))) (w10.setCell ⟨b6, 4, none⟩ dv10) := (show Mod (fun i => i = b6) (w8.setCell ⟨b6, 1, none⟩ (.int .i64 (numR 1099511627776 t0))) w10 from m10.mono (fun _ _ e => e.elim)).setCell (p := ⟨b6, 4, none⟩) (fun _ => rfl) _
        have HH11 := Lib.hid ((hod10.mod ((Mod.refl (fun i => i = b6) w10).setCell (p := ⟨b6, 4, none⟩) (fun _ => rfl) dv10) (fun z e1 e2 => by have := hod10.base e1; omega)).le hsw10)
        have HB11 := Lib.hid hB11
        have HO11 := Lib.hid (HO9.out.mod hM11 (fun z e1 e2 => hg7b ((Option.some.inj e1).trans e2)))
        have HW11 := Lib.hid (HW9.out.mod hM11 (by omega))
        have HR11 := Lib.hid (HR9.out.mod hM11 (by omega))
        have HM11 := Lib.hid (HM9.out.trans hM11 (fun i hi e => by omega))
        clear hB11 hM11 m10 hlc1 hb10 hb11 hb12 hb13 hop1 hod10
        obtain ⟨Ad, cd, rfl, -⟩ := HH11.out.form
        have hfin : refO tx = (⟨(K : Int), (numR 1099511627776 t0), 0, 0, (unhexR t1)⟩ : OpT) := HRO.out
        have HFIN := Lib.hid hfin
        have he0 : (w10.setCell ⟨b6, 4, none⟩ (.slice Ad (unhexR t1).length cd)).cell? ⟨b6, 0, none⟩ = some (.int .i64 (K : Int)) := HB11.out.cell 0
        have he1 : (w10.setCell ⟨b6, 4, none⟩ (.slice Ad (unhexR t1).length cd)).cell? ⟨b6, 1, none⟩ = some (.int .i64 (numR 1099511627776 t0)) := HB11.out.cell 1
        have he2 : (w10.setCell ⟨b6, 4, none⟩ (.slice Ad (unhexR t1).length cd)).cell? ⟨b6, 2, none⟩ = some (.int .i64 0) := HB11.out.cell 2
        have he3 : (w10.setCell ⟨b6, 4, none⟩ (.slice Ad (unhexR t1).length cd)).cell? ⟨b6, 3, none⟩ = some (.int .i64 0) := HB11.out.cell 3
        have he4 : (w10.setCell ⟨b6, 4, none⟩ (.slice Ad (unhexR t1).length cd)).cell? ⟨b6, 4, none⟩ = some (.slice Ad (unhexR t1).length cd) := HB11.out.cell 4
        have hbE0 : (w10.setCell ⟨b6, 4, none⟩ (.slice Ad (unhexR t1).length cd)).cell? ⟨bw, 0, none⟩ = some (.bool true) := HW11.out.cell 0
        have hbE1 : (w10.setCell ⟨b6, 4, none⟩ (.slice Ad (unhexR t1).length cd)).cell? ⟨bw, 1, none⟩ = some (.bool false) := HW11.out.cell 1
        have hbE2 : (w10.setCell ⟨b6, 4, none⟩ (.slice Ad (unhexR t1).length cd)).cell? ⟨bw, 2, none⟩ = some (.bool false) := HW11.out.cell 2
        have hbE3 : (w10.setCell ⟨b6, 4, none⟩ (.slice Ad (unhexR t1).length cd)).cell? ⟨bw, 3, none⟩ = some (.bool true) := HW11.out.cell 3
        have hhE : Has (w10.setCell ⟨b6, 4, none⟩ (.slice Ad (unhexR t1).length cd)) (w10.setCell ⟨b6, 4, none⟩ (.slice Ad (unhexR t1).length cd)).heap.size 1 encB (.slice Ad (unhexR t1).length cd) (unhexR t1) := HH11.out.has
        have htx := textRW (⟨(K : Int), (numR 1099511627776 t0), 0, 0, (unhexR t1)⟩ : OpT) (.slice Ad (unhexR t1).length cd) (w10.setCell ⟨b6, 4, none⟩ (.slice Ad (unhexR t1).length cd)) hhE (by have := unhexR_len t1; show (unhexR _).length ≤ _; omega)
        unfold opV at htx
        have HTX := Lib.hid htx
        have HHE := Lib.hid hhE
        have HBS := Lib.hid (fun (z : Nat) (e : (show Value from (.slice Ad (unhexR t1).length cd)).ownBlock = some z) => HH11.out.base e)
        have kz0 : ¬ (K : Int) = 0 := by omega
        have kz1 : ((K : Int) == 0) = false := by simpa using kz0
        clear htx hhE hfin
        go_wp2_with fail
        refine HTX.out.mono ?_
        rintro e wE ⟨rfl, mE⟩
        have HRE := Lib.hid (HR11.out.mod mE (fun e => e))
        have HBE := Lib.hid (HB11.out.mod mE (fun e => e))
        have HME := Lib.hid (HM11.out.trans mE (fun _ _ e => e))
        have HHF := Lib.hid ((HHE.out.later mE (Nat.le_refl _)).more mE.size)
        have r0 := HRE.out.cell 0
        have g0 := HRE.out.free 0
        have r1 := HRE.out.cell 1
        have g1 := HRE.out.free 1
        have r2 := HRE.out.cell 2
        have g2 := HRE.out.free 2
        have r3 := HRE.out.cell 3
        have g3 := HRE.out.free 3
        have r4 := HRE.out.cell 4
        have g4 := HRE.out.free 4
        have hx0 : wE.cell? ⟨b6, 0, none⟩ = some (.int .i64 (K : Int)) := HBE.out.cell 0
        have hx1 : wE.cell? ⟨b6, 1, none⟩ = some (.int .i64 (numR 1099511627776 t0)) := HBE.out.cell 1
        have hx2 : wE.cell? ⟨b6, 2, none⟩ = some (.int .i64 0) := HBE.out.cell 2
        have hx3 : wE.cell? ⟨b6, 3, none⟩ = some (.int .i64 0) := HBE.out.cell 3
        have hx4 : wE.cell? ⟨b6, 4, none⟩ = some (.slice Ad (unhexR t1).length cd) := HBE.out.cell 4
        clear he0 he1 he2 he3 he4 hbE0 hbE1 hbE2 hbE3 mE
        by_cases hte : textO (⟨(K : Int), (numR 1099511627776 t0), 0, 0, (unhexR t1)⟩ : OpT) = tx
        · have hRR : R = ((⟨(K : Int), (numR 1099511627776 t0), 0, 0, (unhexR t1)⟩ : OpT), 0) := by
            rw [← HR.out]
            unfold refP
            rw [HFIN.out, if_neg (fun e => e.elim (fun h => by rw [HRK.out] at h; omega) (fun h => h hte))]
          subst hRR
          have eq1 := str_same (a := tb (textO (⟨(K : Int), (numR 1099511627776 t0), 0, 0, (unhexR t1)⟩ : OpT))) (b := tb tx) (by rw [tb_data, tb_data]; exact hte)
          have eq2 : (tb (textO (⟨(K : Int), (numR 1099511627776 t0), 0, 0, (unhexR t1)⟩ : OpT))).toList = (tb tx).toList := by simpa using eq1
          clear hte
          go_wp2_with fail
          refine bodyPost_ret (ret_cell_tmp (p := 2) (q := 3) (by kernel_rfl) _ _ b2 24 (opV (⟨(K : Int), (numR 1099511627776 t0), 0, 0, (unhexR t1)⟩ : OpT) (.slice Ad (unhexR t1).length cd)) _ (.int .i64 0) (by kernel_rfl) (by kernel_rfl) (blk5 HRE.out _ _ _ _ _) Tryd.underlying24 (by kernel_rfl) (by kernel_rfl)) (by kernel_rfl) ?_
          have mF := mod5 wE b2 (.int .i64 (K : Int)) (.int .i64 (numR 1099511627776 t0)) (.int .i64 0) (.int .i64 0) (.slice Ad (unhexR t1).length cd)
          have hF := (HHF.out.mod mF (Nat.le_refl _) (fun z e1 e2 => by have := HBS.out z e1; omega)).more mF.size
          exact ⟨⟨_, rfl, hF⟩, HME.out.trans mF (fun i hi e => by omega)⟩
        · have hRR : R = (zeroO, 2) := by
            rw [← HR.out]
            unfold refP
            rw [HFIN.out, if_pos (.inr hte)]
          subst hRR
          have eq1 := str_other (a := tb (textO (⟨(K : Int), (numR 1099511627776 t0), 0, 0, (unhexR t1)⟩ : OpT))) (b := tb tx) (by rw [tb_data, tb_data]; exact hte)
          have eq2 : ¬ (tb (textO (⟨(K : Int), (numR 1099511627776 t0), 0, 0, (unhexR t1)⟩ : OpT))).toList = (tb tx).toList := by simpa using eq1
          have eq3 : (!(tb (textO (⟨(K : Int), (numR 1099511627776 t0), 0, 0, (unhexR t1)⟩ : OpT))).toList == (tb tx).toList) = true := by rw [eq1]; rfl
          clear hte
          go_wp2_with fail
          refine bodyPost_ret (ret_cell_tmp (p := 2) (q := 3) (by kernel_rfl) _ _ b2 24 #[.int .i64 0, .int .i64 0, .int .i64 0, .int .i64 0, .slice none 0 0] _ (.int .i64 2) (by kernel_rfl) (by kernel_rfl) (blk5 HRE.out _ _ _ _ _) Tryd.underlying24 (by kernel_rfl) (by kernel_rfl)) (by kernel_rfl) ?_
          exact ⟨⟨_, rfl, Has.nil⟩, HME.out.trans (mod5 _ b2 _ _ _ _ _) (fun i hi e => by omega)⟩
      · have hwv : wantV K = #[.bool true, .bool true, .bool false, .bool true] := by unfold wantV; rw [hf]; rfl
        rw [hwv] at hwan
        have HWAN := Lib.hid hwan
        clear hwan hwv
        go_wp2_with fail
        refine HWAN.out.mono ?_
        rintro e w5 ⟨rfl, m5⟩
        have hm6 := m5.alloc (.cells #[.bool true, .bool true, .bool false, .bool true] 72)
        have HB6 := Lib.hid (HBB.out.mod hm6 (fun e => e))
        have HO6 := Lib.hid (HOR.out.later hm6)
        have HR6 := Lib.hid (HBRR.out.mod hm6 (fun e => e))
        have HM6 := Lib.hid (HMW.out.trans hm6 (fun _ _ e => e))
        have HW6 := Lib.hid (Blk.new w5 72 #[.bool true, .bool true, .bool false, .bool true])
        have hs5 := m5.size
        clear m5 hm6
        go_upto_region 10 with fail
        have hs6 : (w5.alloc (.cells #[.bool true, .bool true, .bool false, .bool true] 72)).heap.size = w5.heap.size + 1 := by simp
        generalize w5.alloc (.cells #[.bool true, .bool true, .bool false, .bool true] 72) = w6 at *
        generalize w5.heap.size = bw at *
        have HS6 := Lib.hid hs6
        clear hs6
        go_upto_region 11 with (at_builtin
                                refine wpList_append_any _ rfl (.tmp 32) (.tmp 33) _ rfl w1.heap.size 9 i0 _ 1 16 Tryd.underlying39 hi0 hz0 hz1 hz2 rfl (by have := HS6.out; omega) (.slice (some ⟨gl, 0, none⟩) nw cl) nw ((x :: ws).flatMap encT) rfl (by have h := own_mod ((Mod.refl (fun _ => False) w6).alloc (.cells #[.string ⟨#[]⟩, .string ⟨#[]⟩, .string ⟨#[]⟩, .string ⟨#[]⟩] 9)) HO6.out (fun _ _ e => e); rw [HNW.out] at h; exact h) _ (some ⟨w6.heap.size, 0, none⟩) 4 4 [.string ⟨#[]⟩, .string ⟨#[]⟩, .string ⟨#[]⟩, .string ⟨#[]⟩] rfl (Reads.of_own (litOwn (w := w6) (n := w6.heap.size) 9 #[.string ⟨#[]⟩, .string ⟨#[]⟩, .string ⟨#[]⟩, .string ⟨#[]⟩] 4 rfl (Nat.zero_le _) (by decide) rfl)) (fun y hy => by simp at hy; rw [hy]; rfl) (by have := HS6.out; simp only [maxLen]; omega) (by have := HS6.out; omega) (by have := HS6.out; simp; omega) ?_
                                intro v7 w7 hown7 hgr7 hat7)
        have hs6 := HS6.out
        have hm7 : Mod (fun i => i = gl) w6 w7 := (((Mod.refl (fun i => i = gl) w6).alloc _).trans (Mod.ofGrown hgr7) (fun i hi e => (Option.some.inj e).symm))
        have ho7 : Own w7 w1.heap.size 9 1 encT v7 ((x :: ws) ++ [[], [], [], []]) := by
          unfold Own
          rw [List.length_append, HNW.out, List.flatMap_append]
          exact hown7
        obtain ⟨g7, c7, rfl, hc7, hg71, hg72⟩ := ho7.form1 (by simp)
        have hl7 : ((x :: ws) ++ [[], [], [], []]).length = nw + 4 := by rw [List.length_append, HNW.out]; rfl
        rw [hl7] at ho7 hc7 ⊢
        obtain ⟨t0, t1, t2, rs, hts⟩ : ∃ t0 t1 t2 rs, ws ++ [[], [], [], []] = t0 :: t1 :: t2 :: rs := by
          rcases ws with _ | ⟨a, _ | ⟨b, _ | ⟨c, r⟩⟩⟩ <;> exact ⟨_, _, _, _, rfl⟩
        have htl : ∀ t ∈ ws ++ [[], [], [], []], t.length ≤ 100000 := fun t ht => by
          rcases List.mem_append.1 ht with h | h
          · exact HWB.out t (List.mem_cons_of_mem _ h)
          · simp at h; rw [h]; simp
        rw [hts] at htl
        have hl0 := htl t0 (by simp)
        have hl1 := htl t1 (by simp)
        have hl2 := htl t2 (by simp)
        rw [List.cons_append, hts] at ho7
        have hro : refO tx = fillR { zeroO with kind := (K : Int) } [97, 98, 100] (t0 :: t1 :: t2 :: rs) := by rw [HRO.out, hf, hts]
        have hs7 := hm7.size
        have HR7 := Lib.hid (HR6.out.mod hm7 (by omega))
        have HM7 := Lib.hid (HM6.out.trans hm7 (fun i hi e => by omega))
        have HO7 := Lib.hid ho7
        have HW7 := Lib.hid (HW6.out.mod hm7 (by omega))
        have hB7 := HB6.out.mod hm7 (by omega)
        have HB7 : Hid (Blk w7 b6 24 (opV { zeroO with kind := (K : Int) } (.slice none 0 0))) := Lib.hid hB7
        have HH7 : Hid (Own w7 (b6 + 1) 5 1 encB (.slice none 0 0) ([] : Tx)) := Lib.hid Own.nil
        have HRO := Lib.hid hro
        have hg7b : g7 ≠ b6 := fun e => by
          rcases hat7 with h | h <;> (have h' := Option.some.inj h; simp only at h'; first | omega | (simp at h'; omega))
        clear hB7 hm7 ho7 hown7 hgr7 hat7 hro hts htl hf
        have hop0 := HB7.out.cell
        have hk0' : w7.cell? ⟨b6, 0, none⟩ = some (.int .i64 (K : Int)) := hop0 0
        have hwc := HW7.out.cell
        clear hop0
        have hlc0 : w7.cell? ⟨g7, 1, none⟩ = some (.string (tb t0)) := by
          have h := HO7.out.cell encT_len (i := 1) (x := t0) rfl (j := 0) (by omega)
          simpa [encT] using h
        have hb00 : w7.cell? ⟨bw, 0, none⟩ = some (.bool true) := HW7.out.cell 0
        have hb01 : w7.cell? ⟨bw, 1, none⟩ = some (.bool true) := HW7.out.cell 1
        have hb02 : w7.cell? ⟨bw, 2, none⟩ = some (.bool false) := HW7.out.cell 2
        have hb03 : w7.cell? ⟨bw, 3, none⟩ = some (.bool true) := HW7.out.cell 3
        have HNU0 := Lib.hid (numRW (tb t0) 1099511627776 (by decide) (by decide) (by rw [tb_size]; omega) w7)
        rw [tb_data] at HNU0
        clear hk0 hk0' hwc
        go_wp2_with fail
        refine HNU0.out.mono ?_
        rintro e w8 ⟨rfl, m8⟩
        have hop0 := HB7.out.mod m8 (fun e => e)
        have hc0 := hop0.cell 1
        have hf0 := hop0.free 1
        have hB9 : Blk (w8.setCell ⟨b6, 1, none⟩ (.int .i64 (numR 1099511627776 t0))) b6 24 (opV (⟨(K : Int), (numR 1099511627776 t0), 0, 0, []⟩ : OpT) (.slice none 0 0)) := hop0.set 1 _
        have hM9 : Mod (fun i => i = b6) w7 (w8.setCell ⟨b6, 1, none⟩ (.int .i64 (numR 1099511627776 t0))) := (show Mod (fun i => i = b6) w7 w8 from m8.mono (fun _ _ e => e.elim)).setCell (p := ⟨b6, 1, none⟩) (fun _ => rfl) _
        have HH9 := Lib.hid (HH7.out.mod hM9 (fun z e1 e2 => by have := HH7.out.base e1; omega))
        have HB9 := Lib.hid hB9
        have HO9 := Lib.hid (HO7.out.mod hM9 (fun z e1 e2 => hg7b ((Option.some.inj e1).trans e2)))
        have HW9 := Lib.hid (HW7.out.mod hM9 (by omega))
        have HR9 := Lib.hid (HR7.out.mod hM9 (by omega))
        have HM9 := Lib.hid (HM7.out.trans hM9 (fun i hi e => by omega))
        clear hB9 hM9 m8 hlc0 hb00 hb01 hb02 hb03 hop0
        have hlc1 : (w8.setCell ⟨b6, 1, none⟩ (.int .i64 (numR 1099511627776 t0))).cell? ⟨g7, 2, none⟩ = some (.string (tb t1)) := by
          have h := HO9.out.cell encT_len (i := 2) (x := t1) rfl (j := 0) (by omega)
          simpa [encT] using h
        have hb10 : (w8.setCell ⟨b6, 1, none⟩ (.int .i64 (numR 1099511627776 t0))).cell? ⟨bw, 0, none⟩ = some (.bool true) := HW9.out.cell 0
        have hb11 : (w8.setCell ⟨b6, 1, none⟩ (.int .i64 (numR 1099511627776 t0))).cell? ⟨bw, 1, none⟩ = some (.bool true) := HW9.out.cell 1
        have hb12 : (w8.setCell ⟨b6, 1, none⟩ (.int .i64 (numR 1099511627776 t0))).cell? ⟨bw, 2, none⟩ = some (.bool false) := HW9.out.cell 2
        have hb13 : (w8.setCell ⟨b6, 1, none⟩ (.int .i64 (numR 1099511627776 t0))).cell? ⟨bw, 3, none⟩ = some (.bool true) := HW9.out.cell 3
        have HNU1 := Lib.hid (numRW (tb t1) 1099511627776 (by decide) (by decide) (by rw [tb_size]; omega) (w8.setCell ⟨b6, 1, none⟩ (.int .i64 (numR 1099511627776 t0))))
        rw [tb_data] at HNU1
        go_wp2_with fail
        refine HNU1.out.mono ?_
        rintro e w10 ⟨rfl, m10⟩
        have hop1 := HB9.out.mod m10 (fun e => e)
        have hc1 := hop1.cell 2
        have hf1 := hop1.free 2
        have hB11 : Blk (w10.setCell ⟨b6, 2, none⟩ (.int .i64 (numR 1099511627776 t1))) b6 24 (opV (⟨(K : Int), (numR 1099511627776 t0), (numR 1099511627776 t1), 0, []⟩ : OpT) (.slice none 0 0)) := hop1.set 2 _
        have hM11 : Mod (fun i => i = b6) (w8.setCell ⟨b6, 1, none⟩ (.int .i64 (numR 1099511627776 t0))) (w10.setCell ⟨b6, 2, none⟩ (.int .i64 (numR 1099511627776 t1))) := (show Mod (fun i => i = b6) (w8.setCell ⟨b6, 1, none⟩ (.int .i64 (numR 1099511627776 t0))) w10 from m10.mono (fun _ _ e => e.elim)).setCell (p := ⟨b6, 2, none⟩) (fun _ => rfl) _
        have HH11 := Lib.hid (HH9.out.mod hM11 (fun z e1 e2 => by have := HH9.out.base e1; omega))
        have HB11 := Lib.hid hB11
        have HO11 := Lib.hid (HO9.out.mod hM11 (fun z e1 e2 => hg7b ((Option.some.inj e1).trans e2)))
        have HW11 := Lib.hid (HW9.out.mod hM11 (by omega))
        have HR11 := Lib.hid (HR9.out.mod hM11 (by omega))
        have HM11 := Lib.hid (HM9.out.trans hM11 (fun i hi e => by omega))
        clear hB11 hM11 m10 hlc1 hb10 hb11 hb12 hb13 hop1
        have hlc2 : (w10.setCell ⟨b6, 2, none⟩ (.int .i64 (numR 1099511627776 t1))).cell? ⟨g7, 3, none⟩ = some (.string (tb t2)) := by
          have h := HO11.out.cell encT_len (i := 3) (x := t2) rfl (j := 0) (by omega)
          simpa [encT] using h
        have hb20 : (w10.setCell ⟨b6, 2, none⟩ (.int .i64 (numR 1099511627776 t1))).cell? ⟨bw, 0, none⟩ = some (.bool true) := HW11.out.cell 0
        have hb21 : (w10.setCell ⟨b6, 2, none⟩ (.int .i64 (numR 1099511627776 t1))).cell? ⟨bw, 1, none⟩ = some (.bool true) := HW11.out.cell 1
        have hb22 : (w10.setCell ⟨b6, 2, none⟩ (.int .i64 (numR 1099511627776 t1))).cell? ⟨bw, 2, none⟩ = some (.bool false) := HW11.out.cell 2
        have hb23 : (w10.setCell ⟨b6, 2, none⟩ (.int .i64 (numR 1099511627776 t1))).cell? ⟨bw, 3, none⟩ = some (.bool true) := HW11.out.cell 3
        have HNU2 := Lib.hid (unhexRW (tb t2) (by rw [tb_size]; omega) (w10.setCell ⟨b6, 2, none⟩ (.int .i64 (numR 1099511627776 t1))))
        rw [tb_data] at HNU2
        go_wp2_with fail
        refine HNU2.out.mono ?_
        rintro e w12 ⟨⟨dv12, bb, rfl, hod12⟩, m12⟩
        have hsw12 : b6 + 1 ≤ (w10.setCell ⟨b6, 2, none⟩ (.int .i64 (numR 1099511627776 t1))).heap.size := HB11.out.lt
        have hop2 := HB11.out.mod m12 (fun e => e)
        have hc2 := hop2.cell 4
        have hf2 := hop2.free 4
        have hB13 : Blk (w12.setCell ⟨b6, 4, none⟩ dv12) b6 24 (opV (⟨(K : Int), (numR 1099511627776 t0), (numR 1099511627776 t1), 0, (unhexR t2)⟩ : OpT) dv12) := hop2.set 4 _
        have hM13 : Mod (fun i => i = b6) (w10.setCell ⟨b6, 2, none⟩ (.int .i64 (numR 1099511627776 t1))) (w12.setCell ⟨b6, 4, none⟩ dv12) := (show Mod (fun i => i = b6) (w10.setCell ⟨b6, 2, none⟩ (.int .i64 (numR 1099511627776 t1))) w12 from m12.mono (fun _ _ e => e.elim)).setCell (p := ⟨b6, 4, none⟩) (fun _ => rfl) _
        have HH13 := Lib.hid ((hod12.mod ((Mod.refl (fun i => i = b6) w12).setCell (p := ⟨b6, 4, none⟩) (fun _ => rfl) dv12) (fun z e1 e2 => by have := hod12.base e1; omega)).le hsw12)
        have HB13 := Lib.hid hB13
        have HO13 := Lib.hid (HO11.out.mod hM13 (fun z e1 e2 => hg7b ((Option.some.inj e1).trans e2)))
        have HW13 := Lib.hid (HW11.out.mod hM13 (by omega))
        have HR13 := Lib.hid (HR11.out.mod hM13 (by omega))
        have HM13 := Lib.hid (HM11.out.trans hM13 (fun i hi e => by omega))
        clear hB13 hM13 m12 hlc2 hb20 hb21 hb22 hb23 hop2 hod12
        obtain ⟨Ad, cd, rfl, -⟩ := HH13.out.form
        have hfin : refO tx = (⟨(K : Int), (numR 1099511627776 t0), (numR 1099511627776 t1), 0, (unhexR t2)⟩ : OpT) := HRO.out
        have HFIN := Lib.hid hfin
        have he0 : (w12.setCell ⟨b6, 4, none⟩ (.slice Ad (unhexR t2).length cd)).cell? ⟨b6, 0, none⟩ = some (.int .i64 (K : Int)) := HB13.out.cell 0
        have he1 : (w12.setCell ⟨b6, 4, none⟩ (.slice Ad (unhexR t2).length cd)).cell? ⟨b6, 1, none⟩ = some (.int .i64 (numR 1099511627776 t0)) := HB13.out.cell 1
        have he2 : (w12.setCell ⟨b6, 4, none⟩ (.slice Ad (unhexR t2).length cd)).cell? ⟨b6, 2, none⟩ = some (.int .i64 (numR 1099511627776 t1)) := HB13.out.cell 2
        have he3 : (w12.setCell ⟨b6, 4, none⟩ (.slice Ad (unhexR t2).length cd)).cell? ⟨b6, 3, none⟩ = some (.int .i64 0) := HB13.out.cell 3
        have he4 : (w12.setCell ⟨b6, 4, none⟩ (.slice Ad (unhexR t2).length cd)).cell? ⟨b6, 4, none⟩ = some (.slice Ad (unhexR t2).length cd) := HB13.out.cell 4
        have hbE0 : (w12.setCell ⟨b6, 4, none⟩ (.slice Ad (unhexR t2).length cd)).cell? ⟨bw, 0, none⟩ = some (.bool true) := HW13.out.cell 0
        have hbE1 : (w12.setCell ⟨b6, 4, none⟩ (.slice Ad (unhexR t2).length cd)).cell? ⟨bw, 1, none⟩ = some (.bool true) := HW13.out.cell 1
        have hbE2 : (w12.setCell ⟨b6, 4, none⟩ (.slice Ad (unhexR t2).length cd)).cell? ⟨bw, 2, none⟩ = some (.bool false) := HW13.out.cell 2
        have hbE3 : (w12.setCell ⟨b6, 4, none⟩ (.slice Ad (unhexR t2).length cd)).cell? ⟨bw, 3, none⟩ = some (.bool true) := HW13.out.cell 3
        have hhE : Has (w12.setCell ⟨b6, 4, none⟩ (.slice Ad (unhexR t2).length cd)) (w12.setCell ⟨b6, 4, none⟩ (.slice Ad (unhexR t2).length cd)).heap.size 1 encB (.slice Ad (unhexR t2).length cd) (unhexR t2) := HH13.out.has
        have htx := textRW (⟨(K : Int), (numR 1099511627776 t0), (numR 1099511627776 t1), 0, (unhexR t2)⟩ : OpT) (.slice Ad (unhexR t2).length cd) (w12.setCell ⟨b6, 4, none⟩ (.slice Ad (unhexR t2).length cd)) hhE (by have := unhexR_len t2; show (unhexR _).length ≤ _; omega)
        unfold opV at htx
        have HTX := Lib.hid htx
        have HHE := Lib.hid hhE
        have HBS := Lib.hid (fun (z : Nat) (e : (show Value from (.slice Ad (unhexR t2).length cd)).ownBlock = some z) => HH13.out.base e)
        have kz0 : ¬ (K : Int) = 0 := by omega
        have kz1 : ((K : Int) == 0) = false := by simpa using kz0
        clear htx hhE hfin
        go_wp2_with fail
        refine HTX.out.mono ?_
        rintro e wE ⟨rfl, mE⟩
        have HRE := Lib.hid (HR13.out.mod mE (fun e => e))
        have HBE := Lib.hid (HB13.out.mod mE (fun e => e))
        have HME := Lib.hid (HM13.out.trans mE (fun _ _ e => e))
        have HHF := Lib.hid ((HHE.out.later mE (Nat.le_refl _)).more mE.size)
        have r0 := HRE.out.cell 0
        have g0 := HRE.out.free 0
        have r1 := HRE.out.cell 1
        have g1 := HRE.out.free 1
        have r2 := HRE.out.cell 2
        have g2 := HRE.out.free 2
        have r3 := HRE.out.cell 3
        have g3 := HRE.out.free 3
        have r4 := HRE.out.cell 4
        have g4 := HRE.out.free 4
        have hx0 : wE.cell? ⟨b6, 0, none⟩ = some (.int .i64 (K : Int)) := HBE.out.cell 0
        have hx1 : wE.cell? ⟨b6, 1, none⟩ = some (.int .i64 (numR 1099511627776 t0)) := HBE.out.cell 1
        have hx2 : wE.cell? ⟨b6, 2, none⟩ = some (.int .i64 (numR 1099511627776 t1)) := HBE.out.cell 2
        have hx3 : wE.cell? ⟨b6, 3, none⟩ = some (.int .i64 0) := HBE.out.cell 3
        have hx4 : wE.cell? ⟨b6, 4, none⟩ = some (.slice Ad (unhexR t2).length cd) := HBE.out.cell 4
        clear he0 he1 he2 he3 he4 hbE0 hbE1 hbE2 hbE3 mE
        by_cases hte : textO (⟨(K : Int), (numR 1099511627776 t0), (numR 1099511627776 t1), 0, (unhexR t2)⟩ : OpT) = tx
        · have hRR : R = ((⟨(K : Int), (numR 1099511627776 t0), (numR 1099511627776 t1), 0, (unhexR t2)⟩ : OpT), 0) := by
            rw [← HR.out]
            unfold refP
            rw [HFIN.out, if_neg (fun e => e.elim (fun h => by rw [HRK.out] at h; omega) (fun h => h hte))]
          subst hRR
          have eq1 := str_same (a := tb (textO (⟨(K : Int), (numR 1099511627776 t0), (numR 1099511627776 t1), 0, (unhexR t2)⟩ : OpT))) (b := tb tx) (by rw [tb_data, tb_data]; exact hte)
          have eq2 : (tb (textO (⟨(K : Int), (numR 1099511627776 t0), (numR 1099511627776 t1), 0, (unhexR t2)⟩ : OpT))).toList = (tb tx).toList := by simpa using eq1
          clear hte
          go_wp2_with fail
          refine bodyPost_ret (ret_cell_tmp (p := 2) (q := 3) (by kernel_rfl) _ _ b2 24 (opV (⟨(K : Int), (numR 1099511627776 t0), (numR 1099511627776 t1), 0, (unhexR t2)⟩ : OpT) (.slice Ad (unhexR t2).length cd)) _ (.int .i64 0) (by kernel_rfl) (by kernel_rfl) (blk5 HRE.out _ _ _ _ _) Tryd.underlying24 (by kernel_rfl) (by kernel_rfl)) (by kernel_rfl) ?_
          have mF := mod5 wE b2 (.int .i64 (K : Int)) (.int .i64 (numR 1099511627776 t0)) (.int .i64 (numR 1099511627776 t1)) (.int .i64 0) (.slice Ad (unhexR t2).length cd)
          have hF := (HHF.out.mod mF (Nat.le_refl _) (fun z e1 e2 => by have := HBS.out z e1; omega)).more mF.size
          exact ⟨⟨_, rfl, hF⟩, HME.out.trans mF (fun i hi e => by omega)⟩
        · have hRR : R = (zeroO, 2) := by
            rw [← HR.out]
            unfold refP
            rw [HFIN.out, if_pos (.inr hte)]
          subst hRR
          have eq1 := str_other (a := tb (textO (⟨(K : Int), (numR 1099511627776 t0), (numR 1099511627776 t1), 0, (unhexR t2)⟩ : OpT))) (b := tb tx) (by rw [tb_data, tb_data]; exact hte)
          have eq2 : ¬ (tb (textO (⟨(K : Int), (numR 1099511627776 t0), (numR 1099511627776 t1), 0, (unhexR t2)⟩ : OpT))).toList = (tb tx).toList := by simpa using eq1
          have eq3 : (!(tb (textO (⟨(K : Int), (numR 1099511627776 t0), (numR 1099511627776 t1), 0, (unhexR t2)⟩ : OpT))).toList == (tb tx).toList) = true := by rw [eq1]; rfl
          clear hte
          go_wp2_with fail
          refine bodyPost_ret (ret_cell_tmp (p := 2) (q := 3) (by kernel_rfl) _ _ b2 24 #[.int .i64 0, .int .i64 0, .int .i64 0, .int .i64 0, .slice none 0 0] _ (.int .i64 2) (by kernel_rfl) (by kernel_rfl) (blk5 HRE.out _ _ _ _ _) Tryd.underlying24 (by kernel_rfl) (by kernel_rfl)) (by kernel_rfl) ?_
          exact ⟨⟨_, rfl, Has.nil⟩, HME.out.trans (mod5 _ b2 _ _ _ _ _) (fun i hi e => by omega)⟩
end Go.Proofs.YtpnicodjjbincaaDoor
