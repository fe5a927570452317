/- What is made of each thing of a table. -/
import Derived.Test.YtkfembhladjhdaaTabKInt
import Derived.Test.YtkfembhladjhdaaTabSInt
import Derived.Test.YtkfembhladjhdaaTabA
namespace Go.Proofs.Ytkfembhladjhdaa
open Go.RowKit Go.Sort
set_option linter.unusedVariables false
set_option maxHeartbeats 4000000
set_option maxRecDepth 100000
attribute [local go_sem ↓] Go.wp_at_zero Go.wp_at_succ
/-- Numbers of 64 bits, a cell each. -/
def encU (z : Int) : List Value := [.int .u64 z]
theorem encU_len (z : Int) : (encU z).length = 1 := rfl
theorem one_U (z : Int) : ∀ y ∈ [Value.int .u64 z], y.oneCell' = true := fun y hy => by
  simp at hy
  subst hy
  rfl
theorem u64_info : (Try.prog.info? 22).map (fun i => (i.zero, i.size, i.bytes)) = some (some (.int .u64 0), 1, 8) := by kernel_rfl
/-- What is made of a key and its thing. -/
def madeU (m : Int × Int → Option Int) (k : Int × Int) : Int := IntKind.u64.wrap (k.2 + (m k).getD 0)
theorem madeFnW (p i x : Int) (w : World) (hx0 : 0 ≤ x) (hx1 : x ≤ 1000000) :
    Calls Try.prog 24 #[.agg #[.int .i64 p, .int .u64 i], .int .i64 x] w fun e w' => e = .returned (.int .u64 (IntKind.u64.wrap (i + x))) ∧ Mod (fun _ => False) w w' := by
  go_enter Try.func24, Try.ntmps24
  go_wp2_with fail
  go_ret
  exact ⟨rfl, (Mod.refl _ w).alloc _⟩
theorem Has.atKy {w : World} {B : Nat} {A : Option Addr} {n cap : Nat} {ks : List (Int × Int)} (h : Has w B 2 TabInt.encKy (.slice A n cap) ks) {i : Nat} {k : Int × Int} (hi : ks[i]? = some k) :
    ∃ g off, A = some ⟨g, off, none⟩ ∧ g < B ∧ w.cell? ⟨g, off + i * 2, none⟩ = some (.int .i64 k.1) ∧ w.cell? ⟨g, off + i * 2 + 1, none⟩ = some (.int .u64 k.2) := by
  obtain ⟨g, off, h1, h2, h3⟩ := h.at_ TabInt.encKy_len hi
  have e : ∀ j, off + (i * 2 + j) = off + i * 2 + j := fun j => (Nat.add_assoc _ _ _).symm
  exact ⟨g, off, h1, h2, (e 0) ▸ h3 0 (by omega), (e 1) ▸ h3 1 (by omega)⟩
theorem eachW (bt bs : Nat) (most n : Int) (m : Int × Int → Option Int) (w : World) (h : TabInt.Tb w bt bs most n m) (hx : ∀ k x, m k = some x → 0 ≤ x ∧ x ≤ 1000000) :
    Calls Try.prog 23 #[.pointer (some ⟨bt, 0, none⟩), .func (.func 24) #[] #[]] w fun e w' => ∃ (v : Value) (ks : List (Int × Int)), e = .returned v ∧ Own w' w.heap.size 22 1 encU v (ks.map (madeU m)) ∧ ks.Pairwise ltK ∧ (∀ k, k ∈ ks ↔ (m k).isSome = true) ∧ Mod (fun _ => False) w w' := by
  obtain ⟨i0, hi0, hz0, hz1, hz2⟩ := info_parts u64_info
  have hkeys := TabInt.keysT bt bs most n m w h
  have hbd := h.bd
  have HH := Lib.hid h
  have HK := Lib.hid hkeys
  have HX := Lib.hid hx
  have qF : ∀ w : World, (binOp .eql 61 (.func (.func 24) #[] #[]) .nilFunc).run Try.prog w = .ok (.bool false) w := fun w => by kernel_rfl
  clear h hkeys hx
  go_enter Try.func23, Try.ntmps23
  go_wp2_with fail
  refine HK.out.mono ?_
  rintro e w1 ⟨v1, ks, rfl, hown1, hs, hmem, hlen, m1⟩
  obtain ⟨A, cap, rfl, hcap, -⟩ := hown1.form
  have HS := Lib.hid hs
  have HME := Lib.hid hmem
  have HK1 := Lib.hid hown1.has
  have HM1 := Lib.hid m1
  have hkl : ks.length ≤ 100000 := by omega
  generalize hkn : ks.length = kn at *
  have HKN := Lib.hid hkn
  clear hs hmem hown1 hlen hkn m1 HK
  go_wp2_with fail
  go_loopw [4, 14] (fun o i wr => ∃ j : Nat, i = .int .i64 j ∧ j ≤ kn ∧ Own wr w1.heap.size 22 1 encU o ((ks.take j).map (madeU m)) ∧ Mod (fun _ => False) w1 wr) (fun _ i _ => kn - (intOf i).toNat)
  case atStart => exact ⟨0, rfl, by omega, Own.nil, Mod.refl _ _⟩
  case round =>
    obtain ⟨j, rfl, hj, hown, hm⟩ := hrel
    have htl : ((ks.take j).map (madeU m)).length = j := by rw [List.length_map, List.length_take, HKN.out]; omega
    obtain ⟨Ao, co, rfl, hco, -⟩ := hown.form
    rw [htl] at hown hco ⊢
    by_cases hjn : j < kn
    · have hjx : j < ks.length := by rw [HKN.out]; exact hjn
      have hk? := List.getElem?_eq_getElem hjx
      obtain ⟨g, off, rfl, hg, c0, c1⟩ := (HK1.out.later hm (Nat.le_refl _)).atKy hk?
      have hsn : (ks.take (j + 1)).map (madeU m) = (ks.take j).map (madeU m) ++ [madeU m ks[j]] := by
        rw [List.take_succ_eq_append_getElem hjx, List.map_append]; rfl
      have hin := (HME.out ks[j]).1 (List.getElem_mem hjx)
      obtain ⟨x, hxm⟩ := Option.isSome_iff_exists.1 hin
      obtain ⟨x0, x1⟩ := HX.out _ _ hxm
      have hmu : madeU m ks[j] = IntKind.u64.wrap (ks[j].2 + x) := by unfold madeU; rw [hxm]; rfl
      rw [hmu] at hsn
      generalize ks[j]'hjx = k at *
      obtain ⟨p, i⟩ := k
      simp only at c0 c1 hsn hxm
      have hmw := HM1.out.trans hm (fun _ _ e => e)
      have hgetc := fun w' (mz : Mod (fun _ => False) w w') => TabInt.getT bt bs most n m p i w' (HH.out.mod mz (fun e => e) (fun e => e))
      rw [hxm] at hgetc
      simp only [TabInt.val, Option.isSome_some] at hgetc
      have HG := Lib.hid hgetc
      have HF := Lib.hid fun w' => madeFnW p i x w' x0 x1
      have HSN := Lib.hid hsn
      have HMW := Lib.hid (hmw.alloc (.cells #[.int .i64 p, .int .u64 i] 29))
      have HM := Lib.hid hm
      have HOW := Lib.hid hown
      have hb := Blk.new wr 29 #[.int .i64 p, .int .u64 i]
      have HB := Lib.hid hb
      generalize hu : IntKind.u64.wrap (i + x) = u at *
      clear hgetc hsn hmw hm hown hxm hin hk? hmu hb
      go_wp2_with fail
      refine (HG.out _ HMW.out).mono ?_
      rintro e w2 ⟨rfl, m2⟩
      have hb2 := (HB.out.mod m2 (fun e => e)).cell
      have hsz2 : wr.heap.size < w2.heap.size := by
        have h1 := m2.size
        have h2 : (wr.alloc (.cells #[.int .i64 p, .int .u64 i] 29)).heap.size = wr.heap.size + 1 := by simp
        omega
      have HM2 := Lib.hid m2
      clear m2
      go_wp2_with fail
      refine (HF.out _).mono ?_
      rintro e w3 ⟨rfl, m3⟩
      have hrow : w3.ownsRow w1.heap.size 22 1 (.slice Ao j co) j (((ks.take j).map (madeU m)).flatMap encU) := by
        have h := (HOW.out.later (((Mod.refl (fun _ => False) wr).alloc (.cells #[.int .i64 p, .int .u64 i] 29)).trans HM2.out (fun _ _ e => e))).later m3
        unfold Own at h
        rw [htl] at h
        exact h
      have hbase : ∀ z, (Value.slice Ao j co).ownBlock = some z → w1.heap.size ≤ z := fun z e => HOW.out.base e
      have HRW := Lib.hid (own_mod ((Mod.refl (fun _ => False) w3).alloc (.cells #[.int .u64 u] 22)) hrow (fun _ _ e => e))
      have HLIT := Lib.hid (Reads.of_own (World.ownsRow_lit (base := 0) (size := 1) (e := 22) w3 #[.int .u64 u] 1 (Nat.zero_le _) (by decide) rfl))
      have HM3 := Lib.hid (((HM.out.alloc (.cells #[.int .i64 p, .int .u64 i] 29)).trans HM2.out (fun _ _ e => e)).trans m3 (fun _ _ e => e))
      have hsz3 : w1.heap.size ≤ w3.heap.size := HM3.out.size
      have HBA := Lib.hid hbase
      clear hrow hbase m3 hb2
      go_wp2_with (at_builtin
                   refine wpList_append_any _ rfl (.tmp 24) (.tmp 29) _ rfl w1.heap.size 22 i0 _ 1 8 Try.underlying54 hi0 hz0 hz1 hz2 rfl (by omega) (.slice Ao j co) j (((ks.take j).map (madeU m)).flatMap encU) rfl HRW.out _ (some ⟨w3.heap.size, 0, none⟩) 1 1 [.int .u64 u] rfl HLIT.out (one_U u) (by simp only [maxLen]; omega) (by omega) (by simp; omega) ?_
                   intro v2 w9 hown2 hgr2 hat2
                   have hown3 : Own w9 w1.heap.size 22 1 encU v2 ((ks.take (j + 1)).map (madeU m)) := by
                     unfold Own
                     rw [HSN.out, flat_snoc, List.length_append, htl]
                     exact hown2
                   have m9 := (HM3.out.alloc (.cells #[.int .u64 u] 22)).trans (Mod.ofGrown hgr2) (fun q hq e => by
                     have := HBA.out q e
                     omega)
                   have M9 := Lib.hid m9
                   have HO9 := Lib.hid hown3
                   clear hown2 hgr2 hat2 hown3 m9)
      go_wp2_with fail
      go_roundw
      case rel => exact ⟨j + 1, by go_num, by omega, HO9.out, M9.out⟩
      case measure => simp [intOf]; omega
    · have htk : ks.take j = ks := List.take_of_length_le (by rw [HKN.out]; omega)
      rw [htk] at hown
      have HO := Lib.hid (hown.le HM1.out.size)
      have HMF := Lib.hid (HM1.out.trans hm (fun _ _ e => e))
      clear hown hm htk
      go_wp2_with fail
      go_ret
      exact ⟨_, ks, rfl, HO.out, HS.out, HME.out, HMF.out⟩
theorem eachNone (w : World) :
    Calls Try.prog 29 #[.pointer none, .func (.func 30) #[] #[]] w fun e w' => e = .returned (.slice none 0 0) ∧ w = w' := by
  have qF : ∀ w : World, (binOp .eql 65 (.func (.func 30) #[] #[]) .nilFunc).run Try.prog w = .ok (.bool false) w := fun w => by kernel_rfl
  go_enter Try.func29, Try.ntmps29
  go_wp2_with fail
  refine (TabInt.keysNone _).mono ?_
  rintro e w1 ⟨rfl, rfl⟩
  go_wp2_with fail
  go_loopw [4, 14] (fun o i wr => o = .slice none 0 0 ∧ i = .int .i64 0 ∧ w = wr) (fun _ i _ => 0)
  case atStart => exact ⟨rfl, rfl, rfl⟩
  case round =>
    obtain ⟨rfl, rfl, rfl⟩ := hrel
    go_wp2_with fail
    go_ret
    exact ⟨rfl, rfl⟩
theorem eachNil (p : Value) (w : World) :
    Calls Try.prog 29 #[p, .nilFunc] w fun e w' => e = .returned (.slice none 0 0) ∧ w = w' := by
  have qF : ∀ w : World, (binOp .eql 65 .nilFunc .nilFunc).run Try.prog w = .ok (.bool true) w := fun w => by kernel_rfl
  go_enter Try.func29, Try.ntmps29
  go_wp2_with fail
  go_ret
  exact ⟨rfl, rfl⟩
end Go.Proofs.Ytkfembhladjhdaa
