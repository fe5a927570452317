/- The contract of the reference's Hex. -/
import Derived.Test.YtpnicodjjbincaaDoorSHexW
import Derived.Deep.RegionHeld3
import Derived.Deep.CutBlock
namespace Go.Proofs.YtpnicodjjbincaaDoor
open Go.RowKit
set_option linter.unusedVariables false
set_option maxHeartbeats 4000000
set_option maxRecDepth 100000
theorem own_drew {w : World} {base size n : Nat} {e : TypeId} {v : Value} {xs : List Value} (h : w.ownsRow base e size v n xs) : w.drew.ownsRow base e size v n xs := h
theorem litOwn {w : World} {base n size : Nat} (T : TypeId) (cs : Array Value) (k : Nat) (hn : w.heap.size = n) (hb : base ≤ n) (hk : k ≤ maxLen) (hs : cs.size = k * size) :
    (w.alloc (.cells cs T)).ownsRow base T size (.slice (some ⟨n, 0, none⟩) k k) k cs.toList := by
  subst hn
  exact World.ownsRow_lit w cs k hb hk hs
theorem one_B (l : List UInt8) : ∀ y ∈ l.flatMap encB, y.oneCell' = true := fun y hy => by
  obtain ⟨c, _, hc⟩ := List.mem_flatMap.1 hy
  simp [encB] at hc
  rw [hc]
  rfl
theorem flatB (l : List UInt8) : l.flatMap encB = (l.map fun c => (c.toNat : Int)).map (Value.int .u8) := by
  induction l with
  | nil => rfl
  | cons c l ih => rw [List.flatMap_cons, ih]; rfl
theorem strB (l : List UInt8) : strOfNums (l.map fun c => (c.toNat : Int)) = tb l := by
  unfold strOfNums tb
  rw [List.map_map]
  have : (l.map ((fun n : Int => UInt8.ofNat n.toNat) ∘ fun c : UInt8 => (c.toNat : Int))) = l := by
    rw [List.map_congr_left (g := id) (fun c _ => by simp), List.map_id]
  rw [this]
/-- The string of bytes of the call's own. -/
theorem run_strB {P : Program} {w : World} {base : Nat} {e src dst : TypeId} {v : Value} {l : List UInt8} (hs : P.underlying src = some (.slice e)) (he : P.underlying e = some (.int .u8)) (hd : P.underlying dst = some .string)
    (h : Own w base e 1 encB v l) : (convert src dst v).run P w = .ok (.string (tb l)) w := by
  rw [← strB]
  refine run_string_own hs he hd (base := base) (n := l.length) ?_
  rw [← flatB]
  exact h
theorem and15_all : ∀ k : Fin 256, bits .and .u8 (k.val : Int) 15 = ((k.val % 16 : Nat) : Int) := by decide +kernel
theorem and15 (c : UInt8) : bits .and .u8 (c.toNat : Int) 15 = (c.toNat : Int) % 16 := by
  have := and15_all ⟨c.toNat, c.toNat_lt⟩
  simpa using this
theorem hexRW (v : Value) (d : Tx) (w : World) (h : Has w w.heap.size 1 encB v d) (hl : d.length ≤ 1000000) :
    Calls Tryd.prog 38 #[v] w fun e w' => e = .returned (.string (tb (hexL d))) ∧ Mod (fun _ => False) w w' := by
  obtain ⟨i0, hi0, hz0, hz1, hz2⟩ := info_parts byte_info
  obtain ⟨A, cap, rfl, hcap⟩ := h.form
  have HH := Lib.hid h
  clear h
  generalize hn : d.length = n at *
  have HN := Lib.hid hn
  generalize hR : tb (hexL d) = R
  have HR := Lib.hid hR
  clear hn hR
  go_enter Tryd.func38, Tryd.ntmps38
  go_wp2_with fail
  go_loopw [3, 4] (fun x i wr => ∃ q : Nat, i = .int .i64 q ∧ q ≤ n ∧ Own wr w.heap.size 5 1 encB x ((d.take q).flatMap hexOf) ∧ Mod (fun _ => False) w wr) (fun _ i _ => n - (RowKit.intOf i).toNat)
  case atStart => exact ⟨0, rfl, by omega, Own.nil, Mod.refl _ _⟩
  case round =>
    obtain ⟨q, rfl, hq, ho, hm⟩ := hrel
    obtain ⟨Ao, co, rfl, hco, -⟩ := ho.form
    have hlen : (d.take q).length = q := by rw [List.length_take, HN.out]; omega
    have hol : ((d.take q).flatMap hexOf).length = 2 * q := by rw [flat_hex_len, hlen]
    rw [hol] at hco
    by_cases hqn : q < n
    · have hqx : q < d.length := by rw [HN.out]; exact hqn
      have hs? := List.getElem?_eq_getElem hqx
      obtain ⟨g, off, rfl, hg, c0⟩ := (HH.out.later hm (Nat.le_refl _)).at_ encB_len hs?
      have c1 := c0 0 (by omega)
      generalize d[q]'hqx = c at *
      have c2 : wr.cell? ⟨g, off + q, none⟩ = some (.int .u8 (c.toNat : Int)) := by simpa [encB] using c1
      have hqz : (q : Int) < (n : Int) := by omega
      have hqz0 : (0 : Int) ≤ (q : Int) := by omega
      have hs2 := hs?
      have hsm := hm.size
      have hgw : g < wr.heap.size := by omega
      have HM := Lib.hid hm
      have HO := Lib.hid (show wr.ownsRow w.heap.size 5 1 (.slice Ao (2 * q) co) (2 * q) (((d.take q).flatMap hexOf).flatMap encB) by
        have := ho
        unfold Own at this
        rw [hol] at this
        exact this)
      have HK : Hid (∀ (S : Nat → Prop) (w' : World), Mod S wr w' → ¬ S g → w'.cell? ⟨g, off + q, none⟩ = some (.int .u8 (c.toNat : Int))) := Lib.hid fun S w' m' hS => (m'.cell (p := ⟨g, off + q, none⟩) hgw hS).trans c2
      have hcb := c.toNat_lt
      have k1 : (0 : Int) ≤ (c.toNat : Int) / 16 ∧ (c.toNat : Int) / 16 < 16 := by omega
      have x1 := dig_at ((c.toNat : Int) / 16) (c.toNat / 16) (by omega) (by omega)
      have k2 : (0 : Int) ≤ (c.toNat : Int) % 16 ∧ (c.toNat : Int) % 16 < 16 := by omega
      have hand := and15 c
      have x2 := dig_at ((c.toNat : Int) % 16) (c.toNat % 16) (by omega) (by omega)
      rw [hol]
      clear c0 c1 hm ho hs? hol
      generalize hy1 : hexDigits.getD (c.toNat / 16) 0 = y1 at *
      generalize hy2 : hexDigits.getD (c.toNat % 16) 0 = y2 at *
      have HY1 := Lib.hid hy1
      have HY2 := Lib.hid hy2
      clear hy1 hy2
      go_upto_region 5 with fail
      go_region_held3 (fun w' => w'.cell? ⟨g, off + q, none⟩ = some (.int .u8 (c.toNat : Int)))
        (first | assumption | exact HK.out (fun _ => False) _ (Mod.refl _ _).drew (fun e => e) | exact HK.out (fun _ => False) _ ((Mod.refl _ wr).alloc _).drew (fun e => e) | exact HK.out (fun _ => False) _ ((Mod.refl _ wr).alloc _) (fun e => e))
        ((refine step_append_any _ (by rfl) (.tmp 11) (.tmp 24) 22 (by rfl) w.heap.size 5 i0 _ 1 1 Tryd.underlying22 hi0 hz0 hz1 hz2 (by rfl) (by omega) (.slice Ao (2 * q) co) (2 * q) (((d.take q).flatMap hexOf).flatMap encB) (by rfl) (own_drew (own_mod ((Mod.refl (fun _ => False) wr).alloc _) HO.out (fun _ _ e => e))) _ (some ⟨wr.heap.size, 0, none⟩) 2 2 [.int .u8 (y1.toNat : Int), .int .u8 (y2.toNat : Int)] (by rfl) (Reads.of_own (own_drew (litOwn (w := wr) (n := wr.heap.size) 5 #[.int .u8 (y1.toNat : Int), .int .u8 (y2.toNat : Int)] 2 (by simp) (Nat.zero_le _) (by decide) rfl))) (fun y hy => by simp at hy; rcases hy with rfl | rfl <;> rfl) (by simp only [maxLen]; omega) (by omega) (by simp; omega) ?_; intro v5 w5 hown5 hgr5 hat5; have hm5 : Mod (fun _ => False) w w5 := ((HM.out.alloc _).drew).trans (Mod.ofGrown hgr5) (fun z hz e => by have := (HO.out.lt z e).1; omega); have hk5 : w5.cell? ⟨g, off + q, none⟩ = some (.int .u8 (c.toNat : Int)) := HK.out (fun k => (Value.slice Ao (2 * q) co).ownBlock = some k) w5 ((((Mod.refl _ wr).alloc _).drew).trans (Mod.ofGrown hgr5) (fun z hz e => e)) (fun e => by have := (HO.out.lt g e).1; omega)))
      all_goals
        have hol2 : ((d.take (q + 1)).flatMap hexOf).length = 2 * q + 2 := by rw [flat_hex_len, List.length_take, HN.out]; omega
        have ho5 : Own w5 w.heap.size 5 1 encB v5 ((d.take (q + 1)).flatMap hexOf) := by
          unfold Own
          have e1 : [c].flatMap hexOf = [y1, y2] := by
            rw [← HY1.out, ← HY2.out]
            rfl
          rw [hol2, take_snoc hs2, List.flatMap_append, e1, List.flatMap_append]
          exact hown5
        have HO5 := Lib.hid ho5
        have HM5 := Lib.hid hm5
        clear ho5 hm5 hown5 hgr5 hat5 hk5 x1 x2
        go_wp2_with fail
        go_roundw
        case rel => exact ⟨q + 1, by go_num, by omega, HO5.out, HM5.out⟩
        case measure => simp [RowKit.intOf]; omega
    · obtain rfl : n = q := by omega
      have htk : d.take n = d := List.take_of_length_le (by rw [HN.out]; exact Nat.le_refl _)
      rw [htk] at ho hol
      by_cases hd : d = []
      · have h0 : n = 0 := by rw [← HN.out, hd]; rfl
        subst h0
        have hht : R = ⟨#[45]⟩ := by rw [← HR.out, hd]; rfl
        have HM := Lib.hid hm
        clear hm ho htk hqn hol hlen hd HR
        subst hht
        have e0 : (d.take 0).flatMap hexOf = [] := by simp
        simp only [e0, List.length_nil]
        go_wp2_with fail
        go_ret
        exact ⟨rfl, HM.out⟩
      · have h0 : 0 < n := by
          rw [← HN.out]
          exact List.length_pos_iff.2 hd
        have hst := run_strB (dst := 9) Tryd.underlying22 Tryd.underlying5 Tryd.underlying9 ho
        have hht : hexL d = d.flatMap hexOf := by unfold hexL; rw [if_neg hd]
        have hrr : tb (d.flatMap hexOf) = R := by rw [← hht, HR.out]
        rw [hrr] at hst
        have hst2 := hst
        rw [hol] at hst2
        have HM := Lib.hid hm
        have e1 : (((d.take n).flatMap hexOf).length : Int) = 2 * (n : Int) := by rw [htk, hol]; omega
        have e2 : ¬ (2 * (n : Int)) = 0 := by omega
        have e3 : ((2 * (n : Int)) == 0) = false := by simpa using e2
        clear hm ho hqn hlen hd
        go_wp2_with fail
        go_ret
        exact ⟨rfl, HM.out⟩
end Go.Proofs.YtpnicodjjbincaaDoor
