/- peer.Receivers.Data. -/
import Derived.Test.YtddnlbkocmpffaaZRecO
import Derived.Test.YtddnlbkocmpffaaZG3
namespace Go.Proofs.Ytddnlbkocmpffaa
open Go.RowKit
set_option linter.unusedVariables false
set_option maxHeartbeats 4000000
set_option maxRecDepth 100000
theorem Has.mod0 {α : Type} {enc : α → List Value} {sz : Nat} {S : Nat → Prop} {w w' : World} {B : Nat} {v : Value} {xs : List α} (m : Mod S w w') (h : Has w B sz enc v xs) (hB : B ≤ w.heap.size) (hs : 0 < xs.length → ∀ k, v.ownBlock = some k → ¬ S k) : Has w' B sz enc v xs := by
  rcases Nat.eq_zero_or_pos xs.length with h0 | h0
  · obtain ⟨A, cap, rfl, h1, h2, h3, h4⟩ := h
    exact ⟨A, cap, rfl, h1, h2, ⟨h3.1, fun hn => by omega⟩, h4⟩
  · exact h.mod m hB (hs h0)
section
variable {rb : Nat} {ad : RAd} {R : RecA} {w : World} {s : Nat → Prop}
def RecA.setB (R : RecA) (i : Nat) (id : Int) (b : BufA) : RecA := { R with tab := setBuf R.tab ((i : Int), id) (some b) }
/-- .. behind a message that is whole. -/
def RecA.done (R : RecA) (i : Nat) (id : Int) (b : BufA) : RecA :=
  { (R.setB i id b).forget i id with win := setAt R.win i (doneL (R.win i).1 (R.win i).2 id), out := R.out ++ [((i : Int), id, b.bs)] }
/-- .. behind bytes that were put in. -/
def RecA.put (R : RecA) (i : Nat) (id : Int) (b : BufA) (off : Nat) (d : List Int) : RecA × Int × Bool × Int :=
  if clash b.bs off d b.l = true then (R, 0, false, 2)
  else if fullBuf (putBuf b off d) = true then (R.done i id (putBuf b off d), freshR b.l off ((off + d.length : Nat) : Int), true, 0)
  else (R.setB i id (putBuf b off d), freshR b.l off ((off + d.length : Nat) : Int), false, 0)
/-- .. behind 'Data'. -/
def RecA.data (R : RecA) (i : Nat) (id : Int) (tot off : Nat) (d : List Int) : RecA × Int × Bool × Int :=
  if winIs (R.win i).1 (R.win i).2 id = true then (R, 0, true, 0)
  else if R.maxMsg < (tot : Int) then (R, 0, false, 3)
  else match R.tab ((i : Int), id) with
    | some b => if b.bs.length = tot then R.put i id b off d else (R, 0, false, 2)
    | none => if R.n < R.most ∧ (¬ R.most ≤ ((R.win i).2.length : Int) + R.known i ∨ (R.win i).1 = id) then (R.open i id tot).put i id (newBuf tot) off d else (R, 0, false, 4)
def DataPost (rb : Nat) (w : World) (s : Nat → Prop) (r : RecA × Int × Bool × Int) (e : Ending) (w' : World) : Prop :=
  e = .returned (.tuple #[.int .i64 r.2.1, .bool r.2.2.1, .int .i64 r.2.2.2]) ∧ RecO rb r.1 w' (Ext s w w') ∧ Mod s w w'
theorem RecX.o (h : RecX rb ad R w s) (hl : RLink ad R) {w' : World} (m : Mod NoB w w') : RecO rb R w' (Ext s w w') := ⟨ad, (h.later m).up fun _ e => .inl e, hl⟩
theorem dataEnded (h : RecX rb ad R w s) (hl : RLink ad R) (i : Nat) (hi : i < 8) (id : Int) (hid1 : 1 ≤ id) (hid2 : id ≤ 1152921504606846976) (tot off : Nat) (d : List Int) (dv : Value) (hd : Has w w.heap.size 1 encB dv d) (hot : off + d.length ≤ tot) (htm : (tot : Int) ≤ 9223372036854775807) (he : winIs (R.win i).1 (R.win i).2 id = true) : Calls Try.prog 9 #[.pointer (some ⟨rb, 0, none⟩), .int .i64 i, .int .u64 id, .int .i64 tot, .int .i64 off, dv] w (DataPost rb w s (R, 0, true, 0)) := by
  obtain ⟨A, cap, rfl, hdc⟩ := hd.form
  have HD := Lib.hid hd
  obtain ⟨n, hn⟩ : ∃ n, d.length = n := ⟨_, rfl⟩
  rw [hn] at hot hdc ⊢
  have HN := Lib.hid hn
  have a1 : ¬ (i : Int) < 0 := by omega
  have a2 : ¬ 8 ≤ (i : Int) := by omega
  have a3 : (id == 0) = false := by rw [beq_eq_false_iff_ne]; omega
  have a4 : ¬ 1152921504606846976 < id := by omega
  have a5 : ¬ (tot : Int) < 0 := by omega
  have a6 : ¬ (off : Int) < 0 := by omega
  have a7 : ¬ (tot : Int) < (off : Int) := by omega
  have a8 : ¬ ((tot : Int) - (off : Int) < (n : Int)) := by omega
  have c1 : w.cell? ⟨rb, 1, none⟩ = some (.pointer (some ⟨ad.bt, 0, none⟩)) := h.top.2.cell 1
  have HE := Lib.hid (endedW h i hi id)
  have HX := Lib.hid h
  have HL := Lib.hid hl
  rw [he] at HE
  clear h hl hd hn he
  go_enter Try.func9, Try.ntmps9
  go_wp2_with fail
  refine HE.out.mono ?_
  rintro e w2 ⟨rfl, m2⟩
  have HM2 := Lib.hid m2
  have X2 := Lib.hid (HX.out.later m2)
  have c0 : w2.cell? ⟨rb, 0, none⟩ = some (.int .i64 R.maxMsg) := X2.out.top.2.cell 0
  clear m2 c1
  go_wp2_with fail
  go_ret3
  exact ⟨rfl, HX.out.o HL.out HM2.out, HM2.out.mono (fun _ _ e => e.elim)⟩
theorem dataBig (h : RecX rb ad R w s) (hl : RLink ad R) (i : Nat) (hi : i < 8) (id : Int) (hid1 : 1 ≤ id) (hid2 : id ≤ 1152921504606846976) (tot off : Nat) (d : List Int) (dv : Value) (hd : Has w w.heap.size 1 encB dv d) (hot : off + d.length ≤ tot) (htm : (tot : Int) ≤ 9223372036854775807) (he : winIs (R.win i).1 (R.win i).2 id = false) (hb : R.maxMsg < (tot : Int)) : Calls Try.prog 9 #[.pointer (some ⟨rb, 0, none⟩), .int .i64 i, .int .u64 id, .int .i64 tot, .int .i64 off, dv] w (DataPost rb w s (R, 0, false, 3)) := by
  obtain ⟨A, cap, rfl, hdc⟩ := hd.form
  have HD := Lib.hid hd
  obtain ⟨n, hn⟩ : ∃ n, d.length = n := ⟨_, rfl⟩
  rw [hn] at hot hdc ⊢
  have HN := Lib.hid hn
  have a1 : ¬ (i : Int) < 0 := by omega
  have a2 : ¬ 8 ≤ (i : Int) := by omega
  have a3 : (id == 0) = false := by rw [beq_eq_false_iff_ne]; omega
  have a4 : ¬ 1152921504606846976 < id := by omega
  have a5 : ¬ (tot : Int) < 0 := by omega
  have a6 : ¬ (off : Int) < 0 := by omega
  have a7 : ¬ (tot : Int) < (off : Int) := by omega
  have a8 : ¬ ((tot : Int) - (off : Int) < (n : Int)) := by omega
  have c1 : w.cell? ⟨rb, 1, none⟩ = some (.pointer (some ⟨ad.bt, 0, none⟩)) := h.top.2.cell 1
  have HE := Lib.hid (endedW h i hi id)
  have HX := Lib.hid h
  have HL := Lib.hid hl
  rw [he] at HE
  clear h hl hd hn he
  go_enter Try.func9, Try.ntmps9
  go_wp2_with fail
  refine HE.out.mono ?_
  rintro e w2 ⟨rfl, m2⟩
  have HM2 := Lib.hid m2
  have X2 := Lib.hid (HX.out.later m2)
  have c0 : w2.cell? ⟨rb, 0, none⟩ = some (.int .i64 R.maxMsg) := X2.out.top.2.cell 0
  clear m2 c1
  go_wp2_with fail
  go_ret3
  exact ⟨rfl, HX.out.o HL.out HM2.out, HM2.out.mono (fun _ _ e => e.elim)⟩
theorem dataNo (h : RecX rb ad R w s) (hl : RLink ad R) (i : Nat) (hi : i < 8) (id : Int) (hid1 : 1 ≤ id) (hid2 : id ≤ 1152921504606846976) (tot off : Nat) (d : List Int) (dv : Value) (hd : Has w w.heap.size 1 encB dv d) (hot : off + d.length ≤ tot) (htm : (tot : Int) ≤ 9223372036854775807) (he : winIs (R.win i).1 (R.win i).2 id = false) (hb : (tot : Int) ≤ R.maxMsg) (c : Int) (hc : c = 2 ∨ c = 4)
    (ho : ∀ w2, Mod NoB w w2 → Calls Try.prog 36 #[.pointer (some ⟨rb, 0, none⟩), .agg #[.int .i64 i, .int .u64 id], .int .i64 tot] w2 fun e w' => e = .returned (.tuple #[.pointer none, .int .i64 c]) ∧ Mod NoB w2 w') : Calls Try.prog 9 #[.pointer (some ⟨rb, 0, none⟩), .int .i64 i, .int .u64 id, .int .i64 tot, .int .i64 off, dv] w (DataPost rb w s (R, 0, false, c)) := by
  obtain ⟨A, cap, rfl, hdc⟩ := hd.form
  have HD := Lib.hid hd
  obtain ⟨n, hn⟩ : ∃ n, d.length = n := ⟨_, rfl⟩
  rw [hn] at hot hdc ⊢
  have HN := Lib.hid hn
  have a1 : ¬ (i : Int) < 0 := by omega
  have a2 : ¬ 8 ≤ (i : Int) := by omega
  have a3 : (id == 0) = false := by rw [beq_eq_false_iff_ne]; omega
  have a4 : ¬ 1152921504606846976 < id := by omega
  have a5 : ¬ (tot : Int) < 0 := by omega
  have a6 : ¬ (off : Int) < 0 := by omega
  have a7 : ¬ (tot : Int) < (off : Int) := by omega
  have a8 : ¬ ((tot : Int) - (off : Int) < (n : Int)) := by omega
  have c1 : w.cell? ⟨rb, 1, none⟩ = some (.pointer (some ⟨ad.bt, 0, none⟩)) := h.top.2.cell 1
  have HE := Lib.hid (endedW h i hi id)
  have HX := Lib.hid h
  have HL := Lib.hid hl
  rw [he] at HE
  have HO := Lib.hid ho
  have hcb : (c == 0) = false ∧ (c != 0) = true := by rcases hc with rfl | rfl <;> exact ⟨rfl, rfl⟩
  obtain ⟨hc1, hc2⟩ := hcb
  have hb' : ¬ R.maxMsg < (tot : Int) := by omega
  clear h hl hd hn he ho hb hc
  go_enter Try.func9, Try.ntmps9
  go_wp2_with fail
  refine HE.out.mono ?_
  rintro e w2 ⟨rfl, m2⟩
  have HM2 := Lib.hid m2
  have X2 := Lib.hid (HX.out.later m2)
  have c0 : w2.cell? ⟨rb, 0, none⟩ = some (.int .i64 R.maxMsg) := X2.out.top.2.cell 0
  clear m2 c1
  go_wp2_with fail
  refine (HO.out w2 HM2.out).mono ?_
  rintro e w3 ⟨rfl, m3⟩
  have HM3 := Lib.hid (HM2.out.trans m3 (fun _ _ e => e))
  clear m3
  go_wp2_with fail
  go_ret3
  exact ⟨rfl, HX.out.o HL.out HM3.out, HM3.out.mono (fun _ _ e => e.elim)⟩
theorem ownsSlice {w : World} {base : Nat} {e : TypeId} {size : Nat} {v : Value} {n : Nat} {xs : List Value} (h : w.ownsRow base e size v n xs) : ∃ A c, v = .slice A n c := by
  rcases h.2 with ⟨e, h0⟩ | ⟨g, cap, cur, e, -⟩
  · exact ⟨none, 0, by rw [e, h0]⟩
  · exact ⟨_, _, e⟩
theorem outAppend {w8 w9 : World} {t8 : Nat → Prop} {outv u v9 : Value} {ms : List MsgV} {mm : MsgV} {n7 : Nat} (hn : ms.length = n7) (ho : w9.ownsRow 0 33 3 v9 (n7 + 1) (ms.flatMap encM ++ encM mm)) (hg : w8.grownBy w9 u.ownBlock)
    (hor : v9.ownBlock = u.ownBlock ∨ v9.ownBlock = some w8.heap.size) (hob : outv.ownBlock = u.ownBlock) (hf : FootV t8 outv) : Mod t8 w8 w9 ∧ FootV (Ext t8 w8 w9) v9 ∧ Own w9 0 33 3 encM v9 (ms ++ [mm]) := by
  refine ⟨(Mod.ofGrown hg).mono (fun k _ e => hf k (by rw [hob]; exact e)), fun k hk => ?_, ?_⟩
  · have hlt := (ho.lt k hk).2
    rcases hor with e | e
    · exact .inl (hf k (by rw [hob, ← e]; exact hk))
    · rw [e] at hk
      have := Option.some.inj hk
      exact .inr ⟨by omega, hlt⟩
  · unfold Own
    rw [List.length_append, hn, flat_snoc]
    exact ho
theorem dataPut (h : RecX rb ad R w s) (hl : RLink ad R) (i : Nat) (hi : i < 8) (id : Int) (hid1 : 1 ≤ id) (hid2 : id ≤ 1152921504606846976) (tot off : Nat) (d : List Int) (dv : Value) (hd : Has w w.heap.size 1 encB dv d) (hot : off + d.length ≤ tot) (htm : (tot : Int) ≤ 9223372036854775807) (hap : 0 < d.length → ∀ k, dv.ownBlock = some k → ¬ s k) (hbt : Byt d) (he : winIs (R.win i).1 (R.win i).2 id = false) (hb : (tot : Int) ≤ R.maxMsg)
    (R1 : RecA) (b : BufA) (hb1 : R1.tab ((i : Int), id) = some b) (hbl : b.bs.length = tot) (hkn : -1000000 ≤ R1.known i ∧ R1.known i ≤ 1000000) (hroom : ((R1.win i).2.length : Int) < R1.most ∨ id = (R1.win i).1) (he1 : winIs (R1.win i).1 (R1.win i).2 id = false) (hout : R1.out.length ≤ 1000000)
    (ho : ∀ w2, Mod NoB w w2 → Calls Try.prog 36 #[.pointer (some ⟨rb, 0, none⟩), .agg #[.int .i64 i, .int .u64 id], .int .i64 tot] w2 fun e w' => ∃ ad1, e = .returned (.tuple #[.pointer (some ⟨ad1.bb (i, id), 0, none⟩), .int .i64 0]) ∧ RecX rb ad1 R1 w' (Ext s w2 w') ∧ RLink ad1 R1 ∧ Mod s w2 w') :
    Calls Try.prog 9 #[.pointer (some ⟨rb, 0, none⟩), .int .i64 i, .int .u64 id, .int .i64 tot, .int .i64 off, dv] w (DataPost rb w s (R1.put i id b off d)) := by
  obtain ⟨A, cap, rfl, hdc⟩ := hd.form
  have HD := Lib.hid hd
  obtain ⟨n, hn⟩ : ∃ n, d.length = n := ⟨_, rfl⟩
  rw [hn] at hot hdc ⊢
  have HN := Lib.hid hn
  have a1 : ¬ (i : Int) < 0 := by omega
  have a2 : ¬ 8 ≤ (i : Int) := by omega
  have a3 : (id == 0) = false := by rw [beq_eq_false_iff_ne]; omega
  have a4 : ¬ 1152921504606846976 < id := by omega
  have a5 : ¬ (tot : Int) < 0 := by omega
  have a6 : ¬ (off : Int) < 0 := by omega
  have a7 : ¬ (tot : Int) < (off : Int) := by omega
  have a8 : ¬ ((tot : Int) - (off : Int) < (n : Int)) := by omega
  have c1 : w.cell? ⟨rb, 1, none⟩ = some (.pointer (some ⟨ad.bt, 0, none⟩)) := h.top.2.cell 1
  have HE := Lib.hid (endedW h i hi id)
  have HX := Lib.hid h
  have HL := Lib.hid hl
  rw [he] at HE
  have HO := Lib.hid ho
  have HAP := Lib.hid hap
  have HBT := Lib.hid hbt
  have HB1 := Lib.hid hb1
  have HBL := Lib.hid hbl
  have HRM := Lib.hid hroom
  have HE1 := Lib.hid he1
  have HI1 := Lib.hid hid1
  have HI2 := Lib.hid hid2
  have HOU := Lib.hid hout
  have hb' : ¬ R.maxMsg < (tot : Int) := by omega
  clear h hl hd hn he ho hb hap hbt hb1 hbl hroom he1 hout
  go_enter Try.func9, Try.ntmps9
  go_wp2_with fail
  refine HE.out.mono ?_
  rintro e w2 ⟨rfl, m2⟩
  have HM2 := Lib.hid m2
  have X2 := Lib.hid (HX.out.later m2)
  have c0 : w2.cell? ⟨rb, 0, none⟩ = some (.int .i64 R.maxMsg) := X2.out.top.2.cell 0
  clear m2 c1
  go_wp2_with fail
  refine (HO.out w2 HM2.out).mono ?_
  rintro e w3 ⟨ad1, rfl, hx3, hl3, m3⟩
  have hm3 := (HM2.out.mono (S' := s) (fun _ _ e => e.elim)).trans m3 (fun _ _ e => e)
  have hx3 := hx3.ext0 HM2.out.size
  have HM3 := Lib.hid hm3
  have X3 := Lib.hid hx3
  have HL3 := Lib.hid hl3
  have hd3 := (HD.out.mod0 hm3 (Nat.le_refl _) HAP.out).more hm3.size
  obtain ⟨t3, hb3, ht3, hp3⟩ := hx3.bufP (i, id) HB1.out
  have HPUT := Lib.hid (bufPutW (ad1.bb (i, id)) off b d _ w3 t3 hb3 hd3 HBT.out (by rw [HN.out, HBL.out]; exact hot))
  rw [HN.out] at HPUT
  have HP3 := Lib.hid hp3
  have HT3 := Lib.hid ht3
  clear hx3 hl3 m3 hm3 hd3 hb3 ht3 hp3 c0
  go_wp2_with fail
  refine HPUT.out.mono ?_
  rintro e w4 hpp
  unfold PutPost at hpp
  by_cases hcl : clash b.bs off d b.l = true
  · rw [if_pos hcl] at hpp
    obtain ⟨rfl, m4⟩ := hpp
    have HC := Lib.hid hcl
    have HM4 := Lib.hid m4
    clear hcl m4
    go_wp2_with fail
    go_ret3
    unfold RecA.put
    rw [if_pos HC.out]
    have hm := HM3.out.trans (HM4.out.mono (S' := s) (fun _ _ e => e.elim)) (fun _ _ e => e)
    exact ⟨rfl, ⟨ad1, (X3.out.later HM4.out).up (fun k hk => hk.elim .inl (fun e => .inr ⟨e.1, Nat.lt_of_lt_of_le e.2 HM4.out.size⟩)), HL3.out⟩, hm⟩
  · rw [if_neg hcl] at hpp
    obtain ⟨rfl, hb4, m4⟩ := hpp
    have HC := Lib.hid hcl
    have hx4 : RecX rb ad1 (R1.setB i id (putBuf b off d)) w4 (Ext s w w4) := (HP3.out _ w4 m4 hb4).ext HM3.out.size m4.size
    have hm4 := HM3.out.trans m4 (S' := t3) (fun k hk e => by
      rcases (HT3.out k e).1 with h1 | ⟨h1, -⟩
      · exact h1
      · omega)
    have HM4 := Lib.hid hm4
    have X4 := Lib.hid hx4
    have HBB : Hid ((R1.setB i id (putBuf b off d)).tab ((i : Int), id) = some (putBuf b off d)) := Lib.hid (by show setBuf R1.tab ((i : Int), id) _ ((i : Int), id) = _; rw [setBuf, if_pos rfl])
    obtain ⟨t4, hb4', -⟩ := hx4.bufP (i, id) HBB.out
    have HB4 := Lib.hid hb4'
    have HL4 : Hid (RLink ad1 (R1.setB i id (putBuf b off d))) := Lib.hid ⟨fun k => by
      rw [HL3.out.tab]
      show _ = (setBuf R1.tab ((i : Int), id) (some (putBuf b off d)) k).map _
      unfold setBuf
      split
      · rename_i hk; rw [hk, HB1.out]; rfl
      · rfl, HL3.out.outc, HL3.out.msr⟩
    have HTT := Lib.hid (show off + d.length = off + n by rw [HN.out])
    generalize hfr : freshR b.l (off : Int) ((off + d.length : Nat) : Int) = fr at *
    have HFR := Lib.hid hfr
    clear hfr
    clear hcl hb4 m4 hx4 hm4 hb4'
    by_cases hf : fullBuf (putBuf b off d) = true
    · have HF := Lib.hid hf
      have HBD := Lib.hid (bufDataW _ _ w4 t4 HB4.out hf)
      clear hf
      go_wp2_with fail
      refine HBD.out.mono ?_
      rintro e w5 ⟨v5, rfl, ho5, m5⟩
      obtain ⟨A5, cap5, he5, -, -⟩ := ho5.form
      have h1c : v5.oneCell' = true := by rw [he5]; rfl
      have hx5 := (X4.out.datAdd m5 ho5 h1c i id).ext HM4.out.size m5.size
      have hfo := forgetW hx5 HL4.out.tab i hi id HBB.out ⟨by show _ ≤ R1.known i; omega, by show R1.known i ≤ _; omega⟩
      have HM5 := Lib.hid (HM4.out.trans (m5.mono (S' := s) (fun _ _ e => e.elim)) (fun _ _ e => e))
      have HO5 := Lib.hid ho5
      have HFO := Lib.hid hfo
      generalize (putBuf b off d).bs.length = n5 at he5
      clear hx5 hfo m5 ho5
      subst he5
      go_wp2_with fail
      refine HFO.out.mono ?_
      rintro e w6 ⟨rfl, hx6, m6⟩
      have hx6 := hx6.ext HM5.out.size m6.size
      have HM6 := Lib.hid (HM5.out.trans m6 (S' := Ext s w w5) (fun k hk e => e.elim (fun e => e) (fun e => by omega)))
      obtain ⟨t6, ⟨wv, hw6, hw6b, hw6c⟩, ht6, hp6⟩ := hx6.winP hi
      have hdo := doneW _ _ _ id wv _ w6 0 hw6 HI1.out HI2.out HE1.out HRM.out (Nat.zero_le _)
      have c2 : w6.cell? ⟨rb, 2 + i, none⟩ = some (.pointer (some ⟨ad1.wb i, 0, none⟩)) := (hx6.top.2.cell (2 + i)).trans (recCells_win hi)
      have HDO := Lib.hid hdo
      have HW6b := Lib.hid hw6b
      have HW6c := Lib.hid hw6c
      have HT6 := Lib.hid ht6
      have HP6 := Lib.hid hp6
      clear hx6 m6 hw6 hw6b hw6c ht6 hp6 hdo
      go_wp2_with fail
      refine HDO.out.mono ?_
      rintro e w7 ⟨rfl, wv', hw7, m7, hv7⟩
      have m7' := m7.mono (S' := t6) (fun k hk e => e.elim (fun e => by rw [e]; exact HW6b.out) (fun e => HW6c.out k e))
      have hx7 := (HP6.out (doneL (R1.win i).1 (R1.win i).2 id) w7 m7' ⟨wv', hw7, .inl HW6b.out, fun k hk => by
        have hlt := (hw7.own.lt k hk).2
        rcases hv7 with e | ⟨g, e, hg⟩
        · exact .inl (HW6c.out k (by rw [← e]; exact hk))
        · rw [e] at hk
          have := Option.some.inj hk
          exact .inr ⟨by omega, by omega⟩⟩).ext HM6.out.size m7.size
      have HM7 := Lib.hid (HM6.out.trans m7' (S' := t6) (fun k hk e => by
        rcases (HT6.out k e).1 with h1 | ⟨h1, -⟩
        · exact h1
        · omega))
      clear m7 m7' hw7 hv7 c2
      obtain ⟨A7, cap7, he7, -, -⟩ := (show Own w7 0 33 3 encM ad1.outc ad1.ms from by
        obtain ⟨t, -, h1, -⟩ := hx7.outP
        rw [HL3.out.outc, ← HL3.out.msr]
        exact h1).form
      have c7 : w7.cell? ⟨rb, 19, none⟩ = some ad1.outc := hx7.top.2.cell 19
      rw [he7] at c7
      have HX7 := Lib.hid hx7
      have HE7 := Lib.hid he7
      obtain ⟨n7, hn7⟩ : ∃ n7, ad1.ms.length = n7 := ⟨_, rfl⟩
      rw [hn7] at c7
      have HN7 := Lib.hid hn7
      obtain ⟨i0, hi0, hz0, hz1, hz2⟩ := info_parts (show (Try.prog.info? 33).map (fun i => (i.zero, i.size, i.bytes)) = some (some (.agg #[.int .i64 0, .int .u64 0, .slice none 0 0]), 3, 40) by kernel_rfl)
      have ha7 := (Mod.refl NoB w7).alloc (.cells #[.int .i64 i, .int .u64 id, .slice A5 n5 cap5] 33)
      have hx8 := hx7.later ha7
      obtain ⟨t8, ht8f, ht8o, ht8, hp8⟩ := hx8.outP
      obtain ⟨mm, hmm⟩ : ∃ mm : MsgV, mm = ⟨i, id, .slice A5 n5 cap5, h1c⟩ := ⟨_, rfl⟩
      have hem : encM mm = [.int .i64 i, .int .u64 id, .slice A5 n5 cap5] := by rw [hmm]
      have hlen7 : n7 ≤ 1000000 := by
        have h1 := hx7.outs
        change (ad1.ms ++ [_]).length = (R1.out ++ [_]).length at h1
        rw [List.length_append, List.length_append, hn7] at h1
        have := HOU.out
        simp at h1
        omega
      have hown8 : (w7.alloc (.cells #[.int .i64 i, .int .u64 id, .slice A5 n5 cap5] 33)).ownsRow 0 33 3 (.slice A7 n7 cap7) n7 (ad1.ms.flatMap encM) := by
        have h1 : Own _ 0 33 3 encM ad1.outv ad1.msr := ht8o
        rw [← HL3.out.outc, HL3.out.msr, he7, hn7] at h1
        unfold Own at h1
        rw [hn7] at h1
        exact h1
      have hlit := Reads.of_own (World.ownsRow_lit (base := 0) (size := 3) (e := 33) w7 #[.int .i64 i, .int .u64 id, .slice A5 n5 cap5] 1 (Nat.zero_le _) (by decide) rfl)
      have hone := SlM.one_at mm
      rw [hem] at hone
      have HON := Lib.hid hone
      have HOW := Lib.hid hown8
      have HLI := Lib.hid hlit
      have HX8 := Lib.hid hx8
      have HA7 := Lib.hid ha7
      have HP8 := Lib.hid hp8
      have HT8 := Lib.hid ht8
      have HTF := Lib.hid ht8f
      have HEM := Lib.hid hem
      have HMM := Lib.hid hmm
      have hobv : ad1.outv.ownBlock = (Value.slice A7 n7 cap7).ownBlock := by
        rw [← HL3.out.outc, he7, hn7]
      have HOB := Lib.hid hobv
      clear hx7 he7 hn7 ha7 hx8 ht8f ht8o ht8 hp8 hown8 hlit hone hem hmm hobv
      go_wp2_with (at_builtin; refine wpList_append_any _ rfl (.tmp 117) (.tmp 122) 84 rfl 0 33 i0 _ 3 40 Try.underlying84 hi0 hz0 hz1 hz2 rfl (by omega) (.slice A7 n7 cap7) n7 (ad1.ms.flatMap encM) rfl HOW.out _ (some ⟨w7.heap.size, 0, none⟩) 1 1 [.int .i64 i, .int .u64 id, .slice A5 n5 cap5] rfl HLI.out HON.out (by simp only [maxLen]; omega) (by omega) (Nat.zero_le _) ?_; intro v9 w9 hown9 hgr9 hor9; obtain ⟨A9, c9, rfl⟩ := ownsSlice hown9; have hap9 := outAppend (mm := mm) HN7.out (by rw [HEM.out]; exact hown9) hgr9 hor9 HOB.out HTF.out; have hx9 := HP8.out _ _ w9 hap9.1 hap9.2.1 hap9.2.2; have X9 := Lib.hid hx9; have f9 := hx9.top.2.free 19; have c9' : w9.cell? ⟨rb, 19, none⟩ = some ad1.outc := hx9.top.2.cell 19; have HAP9 := Lib.hid hap9; have HX10 := Lib.hid (hx9.outcP (.slice A9 (n7 + 1) c9)); clear hown9 hgr9 hor9 hap9 hx9)
      go_ret3
      unfold RecA.put
      rw [if_neg HC.out, if_pos HF.out]
      have z1 := HM7.out.size
      have z2 := HA7.out.size
      have z3 := HAP9.out.1.size
      have z4 : (w9.setCell ⟨rb, 19, none⟩ (.slice A9 (n7 + 1) c9)).heap.size = w9.heap.size := by simp [World.setCell]
      have hx := HX10.out.up (t := Ext s w (w9.setCell ⟨rb, 19, none⟩ (.slice A9 (n7 + 1) c9))) (fun k hk => by
        unfold Ext at hk ⊢
        rw [z4]
        rw [z4] at hk
        rcases hk with ((hk | ⟨a, b⟩) | ⟨a, b⟩) | ⟨a, b⟩
        · exact .inl hk
        · exact .inr ⟨a, by omega⟩
        · exact .inr ⟨by omega, by omega⟩
        · exact .inr ⟨by omega, by omega⟩)
      refine ⟨by rw [← HFR.out]; rfl, ⟨_, hx, ⟨fun k => ?_, rfl, ?_⟩⟩, ?_⟩
      · show (if k = ((i : Int), id) then none else ad1.m k) = (setBuf (setBuf R1.tab ((i : Int), id) (some (putBuf b off d))) ((i : Int), id) none k).map (fun _ => ad1.bb k)
        have := HL4.out.tab k
        unfold setBuf
        by_cases hk : k = ((i : Int), id)
        · rw [if_pos hk, if_pos hk]; rfl
        · rw [if_neg hk, if_neg hk]
          exact this
      · show ad1.ms ++ [mm] = ad1.ms ++ [_]
        rw [HMM.out]
      · have hm9 := (HM7.out.trans HA7.out (fun _ _ e => e.elim)).trans HAP9.out.1 (fun k hk e => by
          rcases (HT8.out k e).1 with h1 | ⟨h1, -⟩
          · exact h1
          · omega)
        exact hm9.setCell (p := ⟨rb, 19, none⟩) (fun _ => HX.out.top.1.1) _
    · have hf' : fullBuf (putBuf b off d) = false := by simpa using hf
      have HF := Lib.hid hf'
      have HBD := Lib.hid (bufDataNo _ _ w4 t4 HB4.out hf')
      clear hf hf'
      go_wp2_with fail
      refine HBD.out.mono ?_
      rintro e w5 ⟨rfl, m5⟩
      have HM5 := Lib.hid m5
      clear m5
      go_wp2_with fail
      go_ret3
      unfold RecA.put
      rw [if_neg HC.out, if_neg (by rw [HF.out]; exact Bool.false_ne_true)]
      exact ⟨by rw [← HFR.out]; rfl, ⟨ad1, (X4.out.later HM5.out).up (fun k hk => hk.elim .inl (fun e => .inr ⟨e.1, Nat.lt_of_lt_of_le e.2 HM5.out.size⟩)), HL4.out⟩, HM4.out.trans (HM5.out.mono (S' := s) (fun _ _ e => e.elim)) (fun _ _ e => e)⟩
end
end Go.Proofs.Ytddnlbkocmpffaa
