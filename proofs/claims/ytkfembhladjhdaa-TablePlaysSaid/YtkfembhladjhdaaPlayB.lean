/- The walk of TablePlays. -/
import Derived.Test.YtkfembhladjhdaaPlayA
namespace Go.Proofs.Ytkfembhladjhdaa
open Go.ChangeShapes Go.WideShapes Go.RowKit Go.Sort
set_option linter.unusedVariables false
set_option maxHeartbeats 8000000
set_option maxRecDepth 100000
attribute [local go_sem ↓] Go.wp_at_zero Go.wp_at_succ
theorem Has.atS {w : World} {B : Nat} {A : Option Addr} {n cap : Nat} {ss : List St} (h : Has w B 4 encS (.slice A n cap) ss) {i : Nat} {s : St} (hi : ss[i]? = some s) :
    ∃ g off, A = some ⟨g, off, none⟩ ∧ g < B ∧ w.cell? ⟨g, off + i * 4, none⟩ = some (.int .i64 s.kind) ∧ w.cell? ⟨g, off + i * 4 + 1, none⟩ = some (.int .i64 s.peer) ∧ w.cell? ⟨g, off + i * 4 + 2, none⟩ = some (.int .u64 s.id) ∧ w.cell? ⟨g, off + i * 4 + 3, none⟩ = some (.string s.v) := by
  obtain ⟨g, off, h1, h2, h3⟩ := h.at_ encS_len hi
  have e : ∀ j, off + (i * 4 + j) = off + i * 4 + j := fun j => (Nat.add_assoc _ _ _).symm
  exact ⟨g, off, h1, h2, (e 0) ▸ h3 0 (by omega), (e 1) ▸ h3 1 (by omega), (e 2) ▸ h3 2 (by omega), (e 3) ▸ h3 3 (by omega)⟩
theorem TabStr.atKy {w : World} {B : Nat} {A : Option Addr} {n cap : Nat} {ks : List (Int × Int)} (h : Has w B 2 TabStr.encKy (.slice A n cap) ks) {i : Nat} {k : Int × Int} (hi : ks[i]? = some k) :
    ∃ g off, A = some ⟨g, off, none⟩ ∧ g < B ∧ w.cell? ⟨g, off + i * 2, none⟩ = some (.int .i64 k.1) ∧ w.cell? ⟨g, off + i * 2 + 1, none⟩ = some (.int .u64 k.2) := by
  obtain ⟨g, off, h1, h2, h3⟩ := h.at_ TabStr.encKy_len hi
  have e : ∀ j, off + (i * 2 + j) = off + i * 2 + j := fun j => (Nat.add_assoc _ _ _).symm
  exact ⟨g, off, h1, h2, (e 0) ▸ h3 0 (by omega), (e 1) ▸ h3 1 (by omega)⟩
theorem own_drew {w : World} {base size n : Nat} {e : TypeId} {v : Value} {xs : List Value} (h : w.ownsRow base e size v n xs) : w.drew.ownsRow base e size v n xs := h
theorem litOwn {w : World} {base n : Nat} (T : TypeId) (cs : Array Value) (k : Nat) (hn : w.heap.size = n) (hb : base ≤ n) (hk : k ≤ maxLen) (hs : cs.size = k * 3) :
    (w.alloc (.cells cs T)).ownsRow base T 3 (.slice (some ⟨n, 0, none⟩) k k) k cs.toList := by
  subst hn
  exact World.ownsRow_lit w cs k hb hk hs
theorem walk_plays (most : Int) (v : Value) (ss : List St) (w : World) (h : Has w w.heap.size 4 encS v ss) (hv : ∀ s ∈ ss, s.v.size ≤ maxLen) (hl9 : ss.length ≤ 9223372036854775807) :
    Calls Try.prog 4 #[.int .i64 most, v] w fun e w' => e = .returned (.bool true) ∧ Mod (fun _ => False) w w' := by
  obtain ⟨A, cap, rfl, hcap⟩ := h.form
  have HH := Lib.hid h
  have HV := Lib.hid hv
  clear h hv
  generalize hn : ss.length = L at *
  have HN := Lib.hid hn
  clear hn
  go_enter Try.func4, Try.ntmps4
  go_wp2_with fail
  go_loopw [5, 6] (fun s i wr => ∃ (q : Nat) (nn : Int), i = .int .i64 q ∧ s = .int .i64 nn ∧ q ≤ L ∧ (q : Int) ≤ nn ∧ nn ≤ 1099511627776 ∧ Mod (fun _ => False) w wr) (fun _ i _ => L - (intOf i).toNat)
  case atStart => exact ⟨0, 0, rfl, rfl, by omega, by omega, by omega, Mod.refl _ _⟩
  case round =>
    obtain ⟨q, nn, rfl, rfl, hq, hqn, hnb, hm⟩ := hrel
    by_cases hqL : q < L
    · by_cases hnn : nn ≤ 1000
      · have hqx : q < ss.length := by rw [HN.out]; exact hqL
        have hs? := List.getElem?_eq_getElem hqx
        have hsz := HV.out _ (List.getElem_mem hqx)
        obtain ⟨g, off, rfl, _, c0, c1, c2, c3⟩ := (HH.out.later hm (Nat.le_refl _)).atS hs?
        generalize ss[q]'hqx = s at *
        obtain ⟨kd, pe, id, sv⟩ := s
        simp only at c3 hsz
        have hsz1 : (sv.size : Int) ≤ 9223372036854775807 := by unfold maxLen at hsz; omega
        have hlit : Own (wr.alloc (.cells #[.int .i64 (sv.size : Int), .int .i64 1] 3)) 0 3 1 encI (.slice (some ⟨wr.heap.size, 0, none⟩) 2 2) [(sv.size : Int), 1] := World.ownsRow_lit (base := 0) (size := 1) (e := 3) wr #[.int .i64 (sv.size : Int), .int .i64 1] 2 (Nat.zero_le _) (by decide) rfl
        have hsum := sumW nn (sv.size : Int) _ _ _ hlit.has (by omega) hnn (by omega) hsz1
        have HSUM := Lib.hid hsum
        have HM := Lib.hid hm
        clear hsum hlit hm hs? c0 c1 c2 hsz
        go_wp2_with fail
        refine HSUM.out.mono ?_
        rintro e w5 ⟨⟨r, rfl, hr⟩, rfl⟩
        have HR := Lib.hid hr
        clear hr
        go_wp2_with fail
        go_roundw
        case rel => exact ⟨q + 1, r, by go_num, rfl, by omega, by have := HR.out; omega, by have := HR.out; omega, HM.out.alloc _⟩
        case measure => simp [intOf]; omega
      · go_wp2_with fail
        refine (awakeW _).mono ?_
        rintro e w5 ⟨rfl, m5⟩
        have M5 := Lib.hid (hm.trans m5 (fun _ _ e => e))
        clear m5
        go_wp2_with fail
        go_ret
        exact ⟨rfl, M5.out⟩
    · obtain rfl : L = q := by omega
      by_cases hnn : nn ≤ 1000
      · have hL1 : L ≤ 1000 := by omega
        have HM := Lib.hid hm
        clear hm hqn hnb hq hqL
        by_cases hok : 1 ≤ most ∧ most ≤ 100000
        · obtain ⟨o1, o2⟩ := hok
          have hnew := TabStr.newT most wr o1 o2
          have HNEW := Lib.hid hnew
          clear hnew
          go_wp2_with fail
          refine HNEW.out.mono ?_
          rintro e w1 ⟨bt, bs0, rfl, hT, hbt, hbs, m1⟩
          have hsz := HM.out.size
          have hb0 : Both w w1 bt bs0 most (fun _ => none) (.slice none 0 0) [] :=
            ⟨hT, List.Pairwise.nil, fun k v => ⟨fun h => (by cases h), fun h => (by cases h)⟩, Own.nil, fun z e => by simp [Value.ownBlock] at e, by omega, by omega, HM.out.trans m1 (fun _ _ e => e)⟩
          have HB0 := Lib.hid hb0
          clear hT m1 hbs hb0 HNEW
          go_wp2_with fail
          go_loopw [10, 11] (fun mv i wr => ∃ (q bs : Nat) (f : Int × Int → Option ByteArray) (m : List Cl), i = .int .i64 q ∧ q ≤ L ∧ m.length ≤ q ∧ Both w wr bt bs most f mv m) (fun _ i _ => L - (intOf i).toNat)
          case atStart => exact ⟨0, bs0, _, [], rfl, by omega, by simp, HB0.out⟩
          case round =>
            obtain ⟨q, bs, f, m, rfl, hq, hmq, hB⟩ := hrel
            clear HB0
            obtain ⟨Am, cm, rfl, hcm, hAm⟩ := hB.own.form
            by_cases hqL : q < L
            · have hqx : q < ss.length := by rw [HN.out]; exact hqL
              have hs? := List.getElem?_eq_getElem hqx
              have hsz := HV.out _ (List.getElem_mem hqx)
              obtain ⟨g, off, rfl, hg, c0, c1, c2, c3⟩ := (HH.out.later hB.mod (Nat.le_refl _)).atS hs?
              generalize ss[q]'hqx = s at *
              obtain ⟨kd, pe, id, sv⟩ := s
              simp only at c0 c1 c2 c3 hsz
              have m2 : Mod (fun _ => False) wr ((wr.alloc (.cells #[.int .i64 kd, .int .i64 pe, .int .u64 id, .string sv] 39)).alloc (.cells #[.int .i64 pe, .int .u64 id] 29)) := ((Mod.refl _ wr).alloc _).alloc _
              have hx2 : Blk ((wr.alloc (.cells #[.int .i64 kd, .int .i64 pe, .int .u64 id, .string sv] 39)).alloc (.cells #[.int .i64 pe, .int .u64 id] 29)) wr.heap.size 39 #[.int .i64 kd, .int .i64 pe, .int .u64 id, .string sv] := (Blk.new wr _ _).old _
              have hk2 : Blk ((wr.alloc (.cells #[.int .i64 kd, .int .i64 pe, .int .u64 id, .string sv] 39)).alloc (.cells #[.int .i64 pe, .int .u64 id] 29)) (wr.heap.size + 1) 29 #[.int .i64 pe, .int .u64 id] := Blk.newAt (by simp) _ _
              have hB2 := hB.later m2
              have hfind := findMW (.slice Am m.length cm) m pe id _ hB2.own.has (by omega)
              have hbxo : ∀ z, (Value.slice Am m.length cm).ownBlock = some z → z < wr.heap.size := fun z e => (hB.own.lt z e).2
              have hbtl := hB.tab.lt
              generalize hw2 : (wr.alloc (.cells #[.int .i64 kd, .int .i64 pe, .int .u64 id, .string sv] 39)).alloc (.cells #[.int .i64 pe, .int .u64 id] 29) = w2 at *
              have HW2 := Lib.hid hw2
              have HX2 := Lib.hid hx2
              have HK2 := Lib.hid hk2
              have HB2 := Lib.hid hB2
              have HF2 := Lib.hid hfind
              have HXO := Lib.hid hbxo
              obtain ⟨bx, hbx⟩ : ∃ z, z = wr.heap.size := ⟨_, rfl⟩
              rw [← hbx] at HX2 HK2 HXO hbtl
              have hsx := hB.mod.size
              rw [← hbx] at hsx
              have HBX := Lib.hid hbx
              clear hw2 hx2 hk2 hB2 hfind hbxo m2 hs? hB hbx
              have hie := isM_eq HB2.out.sorted HB2.out.same (pe, id)
              generalize isM m (pe, id) = is at *
              have HIE := Lib.hid hie
              clear hie
              go_wp2_with fail
              rw [HW2.out, ← HBX.out]
              refine HF2.out.mono ?_
              rintro e w3 ⟨rfl, m3⟩
              have HX3 := Lib.hid (HX2.out.mod m3 (fun e => e))
              have HK3 := Lib.hid (HK2.out.mod m3 (fun e => e))
              have HB3 := Lib.hid (HB2.out.later m3)
              have hx3 := HX3.out.cell
              have hk3 := HK3.out.cell
              clear m3 HX2 HK2 HB2 HF2 HW2 HBX c0 c1 c2 c3
              go_upto_block 4 with fail
              go_cut [10, 16, 17] from 100 to 177 (fun mv _ _ wx => ∃ (bs : Nat) (f : Int × Int → Option ByteArray) (m : List Cl), m.length ≤ q + 1 ∧ Both w wx bt bs most f mv m ∧ Blk wx bx 39 #[.int .i64 kd, .int .i64 pe, .int .u64 id, .string sv] ∧ Blk wx (bx + 1) 29 #[.int .i64 pe, .int .u64 id])
              case first =>
                have hie := HIE.out
                have hml : m.length ≤ 1000 := by omega
                by_cases k1 : kd = 1
                · subst k1
                  cases hf : f (pe, id) with
                  | some u =>
                    obtain rfl : is = true := by rw [hie, hf]; rfl
                    clear hie HIE
                    have hput := TabStr.putThereT bt bs most (m.length : Int) f pe id sv w3 HB3.out.tab (by rw [hf]; rfl)
                    have HP := Lib.hid hput
                    clear hput hf
                    go_wp2_with fail
                    refine HP.out.mono ?_
                    rintro e w4 ⟨rfl, m4⟩
                    have HM4 := Lib.hid m4
                    clear m4
                    go_wp2_with fail
                    go_meet
                    case rel => exact ⟨bs, f, m, by omega, HB3.out.later HM4.out, HX3.out.mod HM4.out (fun e => e), HK3.out.mod HM4.out (fun e => e)⟩
                  | none =>
                    obtain rfl : is = false := by rw [hie, hf]; rfl
                    clear hie HIE
                    by_cases hfull : most ≤ (m.length : Int)
                    · have hput := TabStr.putFullT bt bs most (m.length : Int) f pe id sv w3 HB3.out.tab hf hfull
                      have HP := Lib.hid hput
                      clear hput hf
                      go_wp2_with fail
                      refine HP.out.mono ?_
                      rintro e w4 ⟨rfl, m4⟩
                      have HM4 := Lib.hid m4
                      clear m4
                      go_wp2_with fail
                      go_meet
                      case rel => exact ⟨bs, f, m, by omega, HB3.out.later HM4.out, HX3.out.mod HM4.out (fun e => e), HK3.out.mod HM4.out (fun e => e)⟩
                    · have hput := TabStr.putNewT bt bs most (m.length : Int) f pe id sv w3 HB3.out.tab hf (by omega)
                      have HP := Lib.hid hput
                      have hins := ins_ok HB3.out.sorted HB3.out.same hf sv
                      have HIN := Lib.hid hins
                      clear hput hf hins
                      go_wp2_with fail
                      refine HP.out.mono ?_
                      rintro e w4 ⟨rfl, bq, hbq, hT4, m4⟩
                      obtain ⟨ho4, hmw4⟩ := HB3.out.put (g := f) (bq := bq) m4
                      have HX4 := Lib.hid (HX3.out.mod m4 (fun e => by omega))
                      have HK4 := Lib.hid (HK3.out.mod m4 (fun e => by omega))
                      have y0 : w4.cell? ⟨bx + 1, 0, none⟩ = some (.int .i64 pe) := HK4.out.cell 0
                      have y1 : w4.cell? ⟨bx + 1, 1, none⟩ = some (.int .u64 id) := HK4.out.cell 1
                      have y2 : w4.cell? ⟨bx, 3, none⟩ = some (.string sv) := HX4.out.cell 3
                      have hbk := HK4.out.lt
                      have hale := atM_le m (pe, id)
                      generalize atM m (pe, id) = at' at *
                      obtain ⟨iC, hiC, hzC0, hzC1, hzC2⟩ := info_parts cell_info
                      have hs4 := hmw4.size
                      have hlt4 := hT4.lt
                      have HRD1 : Hid (∀ w' : World, Mod (fun _ => False) w4 w' → Reads w' w'.heap.size 3 Am at' ((m.take at').flatMap encC)) := Lib.hid fun w' m' => ((ho4.later m').has.take encC_len hale).reads
                      have HRD2 : Hid (∀ w' : World, Mod (fun _ => False) w4 w' → Reads w' w'.heap.size 3 (if cm = at' then Am else Am.map (·.add (at' * 3))) (m.length - at') ((m.drop at').flatMap encC)) := Lib.hid fun w' m' => ((ho4.later m').has.cut encC_len hale).reads
                      have HON1 := Lib.hid (one_Cs (m.take at'))
                      have HON2 := Lib.hid (one_Cs (m.drop at'))
                      have S31 : Hid (∀ w' : World, Mod (fun _ => False) w4 w' → Mod (fun _ => False) w4 w' ∧ w'.cell? ⟨bx + 1, 0, none⟩ = some (.int .i64 pe) ∧ w'.cell? ⟨bx + 1, 1, none⟩ = some (.int .u64 id) ∧ w'.cell? ⟨bx, 3, none⟩ = some (.string sv)) := Lib.hid fun w' m' =>
                        ⟨m', (m'.cell (p := ⟨bx + 1, 0, none⟩) hbk (fun e => e)).trans y0, (m'.cell (p := ⟨bx + 1, 1, none⟩) hbk (fun e => e)).trans y1, (m'.cell (p := ⟨bx, 3, none⟩) (Nat.lt_of_succ_lt hbk) (fun e => e)).trans y2⟩
                      have SM : Hid (∀ w' : World, (Mod (fun _ => False) w4 w' ∧ w'.cell? ⟨bx + 1, 0, none⟩ = some (.int .i64 pe) ∧ w'.cell? ⟨bx + 1, 1, none⟩ = some (.int .u64 id) ∧ w'.cell? ⟨bx, 3, none⟩ = some (.string sv)) → Mod (fun _ => False) w4 w') := Lib.hid fun w' h => h.1
                      have HT4 := Lib.hid hT4
                      have HMW4 := Lib.hid hmw4
                      have HMW3 := Lib.hid HB3.out.mod
                      have HBQ := Lib.hid hbq
                      generalize hX1 : (m.take at').flatMap encC = X1 at HRD1 HON1
                      generalize hX2 : (m.drop at').flatMap encC = X2 at HRD2 HON2
                      have HXE1 := Lib.hid hX1
                      have HXE2 := Lib.hid hX2
                      clear hx3 hk3 ho4 hT4 hmw4 m4 y0 y1 y2 hbq hX1 hX2
                      rcases hAm with ⟨rfl, rfl, rfl⟩ | ⟨gm, rfl, _, _⟩
                      · have h0 : at' = 0 := by simpa using hale
                        subst h0
                        simp only [if_pos, List.length_nil, Nat.sub_self] at HRD2
                        go_upto_region 31 with fail
                        go_region_held3 (fun w' => Mod (fun _ => False) w4 w' ∧ w'.cell? ⟨bx + 1, 0, none⟩ = some (.int .i64 pe) ∧ w'.cell? ⟨bx + 1, 1, none⟩ = some (.int .u64 id) ∧ w'.cell? ⟨bx, 3, none⟩ = some (.string sv))
                          (first | assumption | exact S31.out _ (Mod.refl _ _).drew | exact S31.out _ ((Mod.refl _ w4).alloc _).drew | exact S31.out _ (((Mod.refl _ w4).alloc _).alloc _).drew | exact S31.out _ ((SM.out _ (by assumption)).alloc _))
                          (first
                            | (refine step_append_any _ (by rfl) (.tmp 118) (.tmp 121) 43 (by rfl) w4.heap.size 48 iC _ 3 32 Try.underlying43 hiC hzC0 hzC1 hzC2 (by rfl) (by omega) (.slice (some ⟨w4.heap.size, 0, none⟩) 0 0) 0 [] (by rfl) (own_drew (litOwn (w := w4) (n := w4.heap.size) 48 #[] 0 (by simp) (by omega) (by decide) rfl)) _ none 0 0 X1 (by rfl) (HRD1.out _ (SM.out _ (by assumption))) HON1.out (by simp only [maxLen]; omega) (by omega) (SM.out _ (by assumption)).size ?_; intro v5 w5 hown5 hgr5 hat5; have hk5 := (SM.out _ (by assumption)).trans (Mod.ofGrown hgr5) (fun z hz e => by have h2 := Option.some.inj e; simp only at h2; omega); have hS5 := S31.out w5 hk5)
                            | (refine step_append_any _ (by rfl) (.tmp 118) (.tmp 121) 43 (by rfl) w4.heap.size 48 iC _ 3 32 Try.underlying43 hiC hzC0 hzC1 hzC2 (by rfl) (by omega) (.slice (some ⟨w4.heap.size, 0, none⟩) 0 0) 0 [] (by rfl) (own_drew (own_mod ((Mod.refl (fun _ => False) (w4.alloc (.cells #[] 48))).alloc _) (litOwn (w := w4) (n := w4.heap.size) 48 #[] 0 (by simp) (by omega) (by decide) rfl) (fun _ _ e => e))) _ none 0 0 X1 (by rfl) (HRD1.out _ (SM.out _ (by assumption))) HON1.out (by simp only [maxLen]; omega) (by omega) (SM.out _ (by assumption)).size ?_; intro v5 w5 hown5 hgr5 hat5; have hk5 := (SM.out _ (by assumption)).trans (Mod.ofGrown hgr5) (fun z hz e => by have h2 := Option.some.inj e; simp only at h2; omega); have hS5 := S31.out w5 hk5; have hl1 := Reads.of_own (own_mod (Mod.ofGrown hgr5) (own_drew (litOwn (w := (w4.alloc (.cells #[] 48))) (n := w4.heap.size + 1) 48 #[.int .i64 pe, .int .u64 id, .string sv] 1 (by simp) (Nat.zero_le _) (by decide) rfl)) (fun k e1 e2 => by have h1 := Option.some.inj e1; have h2 := Option.some.inj e2; simp only at h1 h2; omega)))
                            | (refine step_append_any _ (by rfl) (.tmp 118) (.tmp 121) 43 (by rfl) w4.heap.size 48 iC _ 3 32 Try.underlying43 hiC hzC0 hzC1 hzC2 (by rfl) (by omega) (.slice (some ⟨w4.heap.size + 1, 0, none⟩) 0 0) 0 [] (by rfl) (own_drew (litOwn (w := (w4.alloc (.cells #[.int .i64 pe, .int .u64 id, .string sv] 48))) (n := w4.heap.size + 1) 48 #[] 0 (by simp) (by omega) (by decide) rfl)) _ none 0 0 X1 (by rfl) (HRD1.out _ (SM.out _ (by assumption))) HON1.out (by simp only [maxLen]; omega) (by omega) (SM.out _ (by assumption)).size ?_; intro v5 w5 hown5 hgr5 hat5; have hk5 := (SM.out _ (by assumption)).trans (Mod.ofGrown hgr5) (fun z hz e => by have h2 := Option.some.inj e; simp only at h2; omega); have hS5 := S31.out w5 hk5; have hl1 := Reads.of_own (own_mod (Mod.ofGrown hgr5) (own_drew (own_mod ((Mod.refl (fun _ => False) (w4.alloc (.cells #[.int .i64 pe, .int .u64 id, .string sv] 48))).alloc _) (litOwn (w := w4) (n := w4.heap.size) 48 #[.int .i64 pe, .int .u64 id, .string sv] 1 (by simp) (Nat.zero_le _) (by decide) rfl) (fun _ _ e => e))) (fun k e1 e2 => by have h1 := Option.some.inj e1; have h2 := Option.some.inj e2; simp only at h1 h2; omega)))
                            | (refine step_append_any _ (by rfl) (.tmp 122) (.tmp 127) 43 (by rfl) w4.heap.size 48 iC _ 3 32 Try.underlying43 hiC hzC0 hzC1 hzC2 (by rfl) (by omega) v5 _ _ (by rfl) (own_mod ((Mod.refl (fun _ => False) _).alloc _) hown5 (fun _ _ e => e)) _ (some ⟨w5.heap.size, 0, none⟩) 1 1 [.int .i64 pe, .int .u64 id, .string sv] (by rfl) (Reads.of_own (litOwn 48 #[.int .i64 pe, .int .u64 id, .string sv] 1 (by simp) (Nat.zero_le _) (by decide) rfl)) (one_C ((pe, id), sv)) (by simp only [maxLen]; omega) (by omega) (SM.out _ (by assumption)).size ?_; intro v6 w6 hown6 hgr6 hat6; have hk6 := (SM.out _ (by assumption)).trans (Mod.ofGrown hgr6) (fun z hz e => by have := (hown5.lt z e).1; omega); have hS6 := S31.out w6 hk6)
                            | (refine step_append_any _ (by rfl) (.tmp 122) (.tmp 127) 43 (by rfl) w4.heap.size 48 iC _ 3 32 Try.underlying43 hiC hzC0 hzC1 hzC2 (by rfl) (by omega) v5 _ _ (by rfl) hown5 _ (some ⟨w4.heap.size + 1, 0, none⟩) 1 1 [.int .i64 pe, .int .u64 id, .string sv] (by rfl) hl1 (one_C ((pe, id), sv)) (by simp only [maxLen]; omega) (by omega) (SM.out _ (by assumption)).size ?_; intro v6 w6 hown6 hgr6 hat6; have hk6 := (SM.out _ (by assumption)).trans (Mod.ofGrown hgr6) (fun z hz e => by have := (hown5.lt z e).1; omega); have hS6 := S31.out w6 hk6)
                            | (refine step_append_any _ (by rfl) (.tmp 122) (.tmp 127) 43 (by rfl) w4.heap.size 48 iC _ 3 32 Try.underlying43 hiC hzC0 hzC1 hzC2 (by rfl) (by omega) v5 _ _ (by rfl) hown5 _ (some ⟨w4.heap.size, 0, none⟩) 1 1 [.int .i64 pe, .int .u64 id, .string sv] (by rfl) hl1 (one_C ((pe, id), sv)) (by simp only [maxLen]; omega) (by omega) (SM.out _ (by assumption)).size ?_; intro v6 w6 hown6 hgr6 hat6; have hk6 := (SM.out _ (by assumption)).trans (Mod.ofGrown hgr6) (fun z hz e => by have := (hown5.lt z e).1; omega); have hS6 := S31.out w6 hk6)
                            | (refine step_append_any _ (by rfl) (.tmp 128) (.tmp 131) 43 (by rfl) w4.heap.size 48 iC _ 3 32 Try.underlying43 hiC hzC0 hzC1 hzC2 (by rfl) (by omega) v6 _ _ (by rfl) hown6 _ none 0 0 X2 (by rfl) (HRD2.out _ (SM.out _ (by assumption))) HON2.out (by simp only [maxLen]; omega) (by omega) (SM.out _ (by assumption)).size ?_; intro v7 w7 hown7 hgr7 hat7; have hk7 := (SM.out _ (by assumption)).trans (Mod.ofGrown hgr7) (fun z hz e => by have := (hown6.lt z e).1; omega); have hS7 := S31.out w7 hk7))
                        all_goals
                          have htl : (([] : List Cl).take 0).length = 0 := by rw [List.length_take]; omega
                          have hl7 : (([] : List Cl).take 0 ++ [((pe, id), sv)] ++ ([] : List Cl).drop 0).length = 0 + 0 + 1 + 0 := by
                            rw [List.length_append, List.length_append, htl, List.length_drop, List.length_singleton]
                            omega
                          have ho7 : Own w7 w4.heap.size 48 3 encC v7 (([] : List Cl).take 0 ++ [((pe, id), sv)] ++ ([] : List Cl).drop 0) := by
                            unfold Own
                            rw [hl7, List.flatMap_append, List.flatMap_append, HXE1.out, HXE2.out]
                            exact hown7
                          have hB7 : Both w w7 bt bq most (fun k' => if k' = (pe, id) then some sv else f k') v7 (([] : List Cl).take 0 ++ [((pe, id), sv)] ++ ([] : List Cl).drop 0) :=
                            ⟨by
                              have h := HT4.out.mod hk7 (fun e => e) (fun e => e)
                              have hl : ((([] : List Cl).take 0 ++ [((pe, id), sv)] ++ ([] : List Cl).drop 0).length : Int) = (([] : List Cl).length : Int) + 1 := by
                                rw [hl7]
                                omega
                              rw [hl]
                              exact h, HIN.out.1, HIN.out.2, ho7.le hs4, fun z e => by
                              have h1 := ho7.base e
                              have h2 := hlt4.1
                              have h3 := hlt4.2.1
                              omega, by
                              have := HB3.out.bs0
                              have := HMW3.out.size
                              have := HBQ.out
                              omega, HB3.out.bt0, HMW4.out.trans hk7 (fun _ _ e => e)⟩
                          have hl6 : (([] : List Cl).take 0 ++ [((pe, id), sv)] ++ ([] : List Cl).drop 0).length ≤ q + 1 := by
                            rw [hl7]
                            omega
                          have HB7 := Lib.hid hB7
                          have HL7 := Lib.hid hl6
                          have HM7 := Lib.hid hk7
                          clear ho7 hB7 hl6 hl7 hown5 hown6 hown7 hgr5 hgr6 hgr7 hat5 hat6 hat7 hk5 hk6 hk7 hS5 hS6 hS7 htl
                          try clear hl1
                          go_wp2_with fail
                          go_meet
                          case rel => exact ⟨bq, _, _, HL7.out, HB7.out, HX4.out.mod HM7.out (fun e => e), HK4.out.mod HM7.out (fun e => e)⟩
                      · by_cases hcc : cm = at'
                        · subst hcc
                          have b0 : (0 : Int) ≤ (cm : Int) := by omega
                          have b1 : (cm : Int) ≤ (cm : Int) := by omega
                          have b2 : (cm : Int) ≤ (m.length : Int) := by omega
                          have b3 : (m.length : Int) ≤ (cm : Int) := by omega
                          simp only [if_pos, Nat.sub_eq_zero_of_le hcm] at HRD2
                          go_upto_region 31 with fail
                          go_region_held3 (fun w' => Mod (fun _ => False) w4 w' ∧ w'.cell? ⟨bx + 1, 0, none⟩ = some (.int .i64 pe) ∧ w'.cell? ⟨bx + 1, 1, none⟩ = some (.int .u64 id) ∧ w'.cell? ⟨bx, 3, none⟩ = some (.string sv))
                            (first | assumption | exact S31.out _ (Mod.refl _ _).drew | exact S31.out _ ((Mod.refl _ w4).alloc _).drew | exact S31.out _ (((Mod.refl _ w4).alloc _).alloc _).drew | exact S31.out _ ((SM.out _ (by assumption)).alloc _))
                            (first
                              | (refine step_append_any _ (by rfl) (.tmp 118) (.tmp 121) 43 (by rfl) w4.heap.size 48 iC _ 3 32 Try.underlying43 hiC hzC0 hzC1 hzC2 (by rfl) (by omega) (.slice (some ⟨w4.heap.size, 0, none⟩) 0 0) 0 [] (by rfl) (own_drew (litOwn (w := w4) (n := w4.heap.size) 48 #[] 0 (by simp) (by omega) (by decide) rfl)) _ (some ⟨gm, 0, none⟩) cm cm X1 (by rfl) (HRD1.out _ (SM.out _ (by assumption))) HON1.out (by simp only [maxLen]; omega) (by omega) (SM.out _ (by assumption)).size ?_; intro v5 w5 hown5 hgr5 hat5; have hk5 := (SM.out _ (by assumption)).trans (Mod.ofGrown hgr5) (fun z hz e => by have h2 := Option.some.inj e; simp only at h2; omega); have hS5 := S31.out w5 hk5)
                              | (refine step_append_any _ (by rfl) (.tmp 118) (.tmp 121) 43 (by rfl) w4.heap.size 48 iC _ 3 32 Try.underlying43 hiC hzC0 hzC1 hzC2 (by rfl) (by omega) (.slice (some ⟨w4.heap.size, 0, none⟩) 0 0) 0 [] (by rfl) (own_drew (own_mod ((Mod.refl (fun _ => False) (w4.alloc (.cells #[] 48))).alloc _) (litOwn (w := w4) (n := w4.heap.size) 48 #[] 0 (by simp) (by omega) (by decide) rfl) (fun _ _ e => e))) _ (some ⟨gm, 0, none⟩) cm cm X1 (by rfl) (HRD1.out _ (SM.out _ (by assumption))) HON1.out (by simp only [maxLen]; omega) (by omega) (SM.out _ (by assumption)).size ?_; intro v5 w5 hown5 hgr5 hat5; have hk5 := (SM.out _ (by assumption)).trans (Mod.ofGrown hgr5) (fun z hz e => by have h2 := Option.some.inj e; simp only at h2; omega); have hS5 := S31.out w5 hk5; have hl1 := Reads.of_own (own_mod (Mod.ofGrown hgr5) (own_drew (litOwn (w := (w4.alloc (.cells #[] 48))) (n := w4.heap.size + 1) 48 #[.int .i64 pe, .int .u64 id, .string sv] 1 (by simp) (Nat.zero_le _) (by decide) rfl)) (fun k e1 e2 => by have h1 := Option.some.inj e1; have h2 := Option.some.inj e2; simp only at h1 h2; omega)))
                              | (refine step_append_any _ (by rfl) (.tmp 118) (.tmp 121) 43 (by rfl) w4.heap.size 48 iC _ 3 32 Try.underlying43 hiC hzC0 hzC1 hzC2 (by rfl) (by omega) (.slice (some ⟨w4.heap.size + 1, 0, none⟩) 0 0) 0 [] (by rfl) (own_drew (litOwn (w := (w4.alloc (.cells #[.int .i64 pe, .int .u64 id, .string sv] 48))) (n := w4.heap.size + 1) 48 #[] 0 (by simp) (by omega) (by decide) rfl)) _ (some ⟨gm, 0, none⟩) cm cm X1 (by rfl) (HRD1.out _ (SM.out _ (by assumption))) HON1.out (by simp only [maxLen]; omega) (by omega) (SM.out _ (by assumption)).size ?_; intro v5 w5 hown5 hgr5 hat5; have hk5 := (SM.out _ (by assumption)).trans (Mod.ofGrown hgr5) (fun z hz e => by have h2 := Option.some.inj e; simp only at h2; omega); have hS5 := S31.out w5 hk5; have hl1 := Reads.of_own (own_mod (Mod.ofGrown hgr5) (own_drew (own_mod ((Mod.refl (fun _ => False) (w4.alloc (.cells #[.int .i64 pe, .int .u64 id, .string sv] 48))).alloc _) (litOwn (w := w4) (n := w4.heap.size) 48 #[.int .i64 pe, .int .u64 id, .string sv] 1 (by simp) (Nat.zero_le _) (by decide) rfl) (fun _ _ e => e))) (fun k e1 e2 => by have h1 := Option.some.inj e1; have h2 := Option.some.inj e2; simp only at h1 h2; omega)))
                              | (refine step_append_any _ (by rfl) (.tmp 122) (.tmp 127) 43 (by rfl) w4.heap.size 48 iC _ 3 32 Try.underlying43 hiC hzC0 hzC1 hzC2 (by rfl) (by omega) v5 _ _ (by rfl) (own_mod ((Mod.refl (fun _ => False) _).alloc _) hown5 (fun _ _ e => e)) _ (some ⟨w5.heap.size, 0, none⟩) 1 1 [.int .i64 pe, .int .u64 id, .string sv] (by rfl) (Reads.of_own (litOwn 48 #[.int .i64 pe, .int .u64 id, .string sv] 1 (by simp) (Nat.zero_le _) (by decide) rfl)) (one_C ((pe, id), sv)) (by simp only [maxLen]; omega) (by omega) (SM.out _ (by assumption)).size ?_; intro v6 w6 hown6 hgr6 hat6; have hk6 := (SM.out _ (by assumption)).trans (Mod.ofGrown hgr6) (fun z hz e => by have := (hown5.lt z e).1; omega); have hS6 := S31.out w6 hk6)
                              | (refine step_append_any _ (by rfl) (.tmp 122) (.tmp 127) 43 (by rfl) w4.heap.size 48 iC _ 3 32 Try.underlying43 hiC hzC0 hzC1 hzC2 (by rfl) (by omega) v5 _ _ (by rfl) hown5 _ (some ⟨w4.heap.size + 1, 0, none⟩) 1 1 [.int .i64 pe, .int .u64 id, .string sv] (by rfl) hl1 (one_C ((pe, id), sv)) (by simp only [maxLen]; omega) (by omega) (SM.out _ (by assumption)).size ?_; intro v6 w6 hown6 hgr6 hat6; have hk6 := (SM.out _ (by assumption)).trans (Mod.ofGrown hgr6) (fun z hz e => by have := (hown5.lt z e).1; omega); have hS6 := S31.out w6 hk6)
                              | (refine step_append_any _ (by rfl) (.tmp 122) (.tmp 127) 43 (by rfl) w4.heap.size 48 iC _ 3 32 Try.underlying43 hiC hzC0 hzC1 hzC2 (by rfl) (by omega) v5 _ _ (by rfl) hown5 _ (some ⟨w4.heap.size, 0, none⟩) 1 1 [.int .i64 pe, .int .u64 id, .string sv] (by rfl) hl1 (one_C ((pe, id), sv)) (by simp only [maxLen]; omega) (by omega) (SM.out _ (by assumption)).size ?_; intro v6 w6 hown6 hgr6 hat6; have hk6 := (SM.out _ (by assumption)).trans (Mod.ofGrown hgr6) (fun z hz e => by have := (hown5.lt z e).1; omega); have hS6 := S31.out w6 hk6)
                              | (refine step_append_any _ (by rfl) (.tmp 128) (.tmp 131) 43 (by rfl) w4.heap.size 48 iC _ 3 32 Try.underlying43 hiC hzC0 hzC1 hzC2 (by rfl) (by omega) v6 _ _ (by rfl) hown6 _ (some ⟨gm, 0, none⟩) 0 0 X2 (by rfl) (HRD2.out _ (SM.out _ (by assumption))) HON2.out (by simp only [maxLen]; omega) (by omega) (SM.out _ (by assumption)).size ?_; intro v7 w7 hown7 hgr7 hat7; have hk7 := (SM.out _ (by assumption)).trans (Mod.ofGrown hgr7) (fun z hz e => by have := (hown6.lt z e).1; omega); have hS7 := S31.out w7 hk7))
                          all_goals
                            have htl : (m.take cm).length = cm := by rw [List.length_take]; omega
                            have hl7 : (m.take cm ++ [((pe, id), sv)] ++ m.drop cm).length = 0 + cm + 1 + 0 := by
                              rw [List.length_append, List.length_append, htl, List.length_drop, List.length_singleton]
                              omega
                            have ho7 : Own w7 w4.heap.size 48 3 encC v7 (m.take cm ++ [((pe, id), sv)] ++ m.drop cm) := by
                              unfold Own
                              rw [hl7, List.flatMap_append, List.flatMap_append, HXE1.out, HXE2.out]
                              exact hown7
                            have hB7 : Both w w7 bt bq most (fun k' => if k' = (pe, id) then some sv else f k') v7 (m.take cm ++ [((pe, id), sv)] ++ m.drop cm) :=
                              ⟨by
                                have h := HT4.out.mod hk7 (fun e => e) (fun e => e)
                                have hl : ((m.take cm ++ [((pe, id), sv)] ++ m.drop cm).length : Int) = (m.length : Int) + 1 := by
                                  rw [hl7]
                                  omega
                                rw [hl]
                                exact h, HIN.out.1, HIN.out.2, ho7.le hs4, fun z e => by
                                have h1 := ho7.base e
                                have h2 := hlt4.1
                                have h3 := hlt4.2.1
                                omega, by
                                have := HB3.out.bs0
                                have := HMW3.out.size
                                have := HBQ.out
                                omega, HB3.out.bt0, HMW4.out.trans hk7 (fun _ _ e => e)⟩
                            have hl6 : (m.take cm ++ [((pe, id), sv)] ++ m.drop cm).length ≤ q + 1 := by
                              rw [hl7]
                              omega
                            have HB7 := Lib.hid hB7
                            have HL7 := Lib.hid hl6
                            have HM7 := Lib.hid hk7
                            clear ho7 hB7 hl6 hl7 hown5 hown6 hown7 hgr5 hgr6 hgr7 hat5 hat6 hat7 hk5 hk6 hk7 hS5 hS6 hS7 htl
                            try clear hl1
                            go_wp2_with fail
                            go_meet
                            case rel => exact ⟨bq, _, _, HL7.out, HB7.out, HX4.out.mod HM7.out (fun e => e), HK4.out.mod HM7.out (fun e => e)⟩
                        · have b0 : (0 : Int) ≤ (at' : Int) := by omega
                          have b1 : (at' : Int) ≤ (cm : Int) := by omega
                          have b2 : (at' : Int) ≤ (m.length : Int) := by omega
                          have b3 : (m.length : Int) ≤ (cm : Int) := by omega
                          have b4 : ¬ cm - at' = 0 := by omega
                          have b5 : ¬ (cm : Int) = (at' : Int) := by omega
                          have b6 : at' < cm := by omega
                          have b7 : at' ≤ cm := by omega
                          simp only [if_neg hcc, Option.map_some, Go.WideShapes.add_plain, Nat.zero_add] at HRD2
                          go_upto_region 31 with fail
                          go_region_held3 (fun w' => Mod (fun _ => False) w4 w' ∧ w'.cell? ⟨bx + 1, 0, none⟩ = some (.int .i64 pe) ∧ w'.cell? ⟨bx + 1, 1, none⟩ = some (.int .u64 id) ∧ w'.cell? ⟨bx, 3, none⟩ = some (.string sv))
                            (first | assumption | exact S31.out _ (Mod.refl _ _).drew | exact S31.out _ ((Mod.refl _ w4).alloc _).drew | exact S31.out _ (((Mod.refl _ w4).alloc _).alloc _).drew | exact S31.out _ ((SM.out _ (by assumption)).alloc _))
                            (first
                              | (refine step_append_any _ (by rfl) (.tmp 118) (.tmp 121) 43 (by rfl) w4.heap.size 48 iC _ 3 32 Try.underlying43 hiC hzC0 hzC1 hzC2 (by rfl) (by omega) (.slice (some ⟨w4.heap.size, 0, none⟩) 0 0) 0 [] (by rfl) (own_drew (litOwn (w := w4) (n := w4.heap.size) 48 #[] 0 (by simp) (by omega) (by decide) rfl)) _ (some ⟨gm, 0, none⟩) at' cm X1 (by rfl) (HRD1.out _ (SM.out _ (by assumption))) HON1.out (by simp only [maxLen]; omega) (by omega) (SM.out _ (by assumption)).size ?_; intro v5 w5 hown5 hgr5 hat5; have hk5 := (SM.out _ (by assumption)).trans (Mod.ofGrown hgr5) (fun z hz e => by have h2 := Option.some.inj e; simp only at h2; omega); have hS5 := S31.out w5 hk5)
                              | (refine step_append_any _ (by rfl) (.tmp 118) (.tmp 121) 43 (by rfl) w4.heap.size 48 iC _ 3 32 Try.underlying43 hiC hzC0 hzC1 hzC2 (by rfl) (by omega) (.slice (some ⟨w4.heap.size, 0, none⟩) 0 0) 0 [] (by rfl) (own_drew (own_mod ((Mod.refl (fun _ => False) (w4.alloc (.cells #[] 48))).alloc _) (litOwn (w := w4) (n := w4.heap.size) 48 #[] 0 (by simp) (by omega) (by decide) rfl) (fun _ _ e => e))) _ (some ⟨gm, 0, none⟩) at' cm X1 (by rfl) (HRD1.out _ (SM.out _ (by assumption))) HON1.out (by simp only [maxLen]; omega) (by omega) (SM.out _ (by assumption)).size ?_; intro v5 w5 hown5 hgr5 hat5; have hk5 := (SM.out _ (by assumption)).trans (Mod.ofGrown hgr5) (fun z hz e => by have h2 := Option.some.inj e; simp only at h2; omega); have hS5 := S31.out w5 hk5; have hl1 := Reads.of_own (own_mod (Mod.ofGrown hgr5) (own_drew (litOwn (w := (w4.alloc (.cells #[] 48))) (n := w4.heap.size + 1) 48 #[.int .i64 pe, .int .u64 id, .string sv] 1 (by simp) (Nat.zero_le _) (by decide) rfl)) (fun k e1 e2 => by have h1 := Option.some.inj e1; have h2 := Option.some.inj e2; simp only at h1 h2; omega)))
                              | (refine step_append_any _ (by rfl) (.tmp 118) (.tmp 121) 43 (by rfl) w4.heap.size 48 iC _ 3 32 Try.underlying43 hiC hzC0 hzC1 hzC2 (by rfl) (by omega) (.slice (some ⟨w4.heap.size + 1, 0, none⟩) 0 0) 0 [] (by rfl) (own_drew (litOwn (w := (w4.alloc (.cells #[.int .i64 pe, .int .u64 id, .string sv] 48))) (n := w4.heap.size + 1) 48 #[] 0 (by simp) (by omega) (by decide) rfl)) _ (some ⟨gm, 0, none⟩) at' cm X1 (by rfl) (HRD1.out _ (SM.out _ (by assumption))) HON1.out (by simp only [maxLen]; omega) (by omega) (SM.out _ (by assumption)).size ?_; intro v5 w5 hown5 hgr5 hat5; have hk5 := (SM.out _ (by assumption)).trans (Mod.ofGrown hgr5) (fun z hz e => by have h2 := Option.some.inj e; simp only at h2; omega); have hS5 := S31.out w5 hk5; have hl1 := Reads.of_own (own_mod (Mod.ofGrown hgr5) (own_drew (own_mod ((Mod.refl (fun _ => False) (w4.alloc (.cells #[.int .i64 pe, .int .u64 id, .string sv] 48))).alloc _) (litOwn (w := w4) (n := w4.heap.size) 48 #[.int .i64 pe, .int .u64 id, .string sv] 1 (by simp) (Nat.zero_le _) (by decide) rfl) (fun _ _ e => e))) (fun k e1 e2 => by have h1 := Option.some.inj e1; have h2 := Option.some.inj e2; simp only at h1 h2; omega)))
                              | (refine step_append_any _ (by rfl) (.tmp 122) (.tmp 127) 43 (by rfl) w4.heap.size 48 iC _ 3 32 Try.underlying43 hiC hzC0 hzC1 hzC2 (by rfl) (by omega) v5 _ _ (by rfl) (own_mod ((Mod.refl (fun _ => False) _).alloc _) hown5 (fun _ _ e => e)) _ (some ⟨w5.heap.size, 0, none⟩) 1 1 [.int .i64 pe, .int .u64 id, .string sv] (by rfl) (Reads.of_own (litOwn 48 #[.int .i64 pe, .int .u64 id, .string sv] 1 (by simp) (Nat.zero_le _) (by decide) rfl)) (one_C ((pe, id), sv)) (by simp only [maxLen]; omega) (by omega) (SM.out _ (by assumption)).size ?_; intro v6 w6 hown6 hgr6 hat6; have hk6 := (SM.out _ (by assumption)).trans (Mod.ofGrown hgr6) (fun z hz e => by have := (hown5.lt z e).1; omega); have hS6 := S31.out w6 hk6)
                              | (refine step_append_any _ (by rfl) (.tmp 122) (.tmp 127) 43 (by rfl) w4.heap.size 48 iC _ 3 32 Try.underlying43 hiC hzC0 hzC1 hzC2 (by rfl) (by omega) v5 _ _ (by rfl) hown5 _ (some ⟨w4.heap.size + 1, 0, none⟩) 1 1 [.int .i64 pe, .int .u64 id, .string sv] (by rfl) hl1 (one_C ((pe, id), sv)) (by simp only [maxLen]; omega) (by omega) (SM.out _ (by assumption)).size ?_; intro v6 w6 hown6 hgr6 hat6; have hk6 := (SM.out _ (by assumption)).trans (Mod.ofGrown hgr6) (fun z hz e => by have := (hown5.lt z e).1; omega); have hS6 := S31.out w6 hk6)
                              | (refine step_append_any _ (by rfl) (.tmp 122) (.tmp 127) 43 (by rfl) w4.heap.size 48 iC _ 3 32 Try.underlying43 hiC hzC0 hzC1 hzC2 (by rfl) (by omega) v5 _ _ (by rfl) hown5 _ (some ⟨w4.heap.size, 0, none⟩) 1 1 [.int .i64 pe, .int .u64 id, .string sv] (by rfl) hl1 (one_C ((pe, id), sv)) (by simp only [maxLen]; omega) (by omega) (SM.out _ (by assumption)).size ?_; intro v6 w6 hown6 hgr6 hat6; have hk6 := (SM.out _ (by assumption)).trans (Mod.ofGrown hgr6) (fun z hz e => by have := (hown5.lt z e).1; omega); have hS6 := S31.out w6 hk6)
                              | (refine step_append_any _ (by rfl) (.tmp 128) (.tmp 131) 43 (by rfl) w4.heap.size 48 iC _ 3 32 Try.underlying43 hiC hzC0 hzC1 hzC2 (by rfl) (by omega) v6 _ _ (by rfl) hown6 _ (some ⟨gm, at' * 3, none⟩) (m.length - at') (cm - at') X2 (by rfl) (HRD2.out _ (SM.out _ (by assumption))) HON2.out (by simp only [maxLen]; omega) (by omega) (SM.out _ (by assumption)).size ?_; intro v7 w7 hown7 hgr7 hat7; have hk7 := (SM.out _ (by assumption)).trans (Mod.ofGrown hgr7) (fun z hz e => by have := (hown6.lt z e).1; omega); have hS7 := S31.out w7 hk7))
                          all_goals
                            have htl : (m.take at').length = at' := by rw [List.length_take]; omega
                            have hl7 : (m.take at' ++ [((pe, id), sv)] ++ m.drop at').length = 0 + at' + 1 + (m.length - at') := by
                              rw [List.length_append, List.length_append, htl, List.length_drop, List.length_singleton]
                              omega
                            have ho7 : Own w7 w4.heap.size 48 3 encC v7 (m.take at' ++ [((pe, id), sv)] ++ m.drop at') := by
                              unfold Own
                              rw [hl7, List.flatMap_append, List.flatMap_append, HXE1.out, HXE2.out]
                              exact hown7
                            have hB7 : Both w w7 bt bq most (fun k' => if k' = (pe, id) then some sv else f k') v7 (m.take at' ++ [((pe, id), sv)] ++ m.drop at') :=
                              ⟨by
                                have h := HT4.out.mod hk7 (fun e => e) (fun e => e)
                                have hl : ((m.take at' ++ [((pe, id), sv)] ++ m.drop at').length : Int) = (m.length : Int) + 1 := by
                                  rw [hl7]
                                  omega
                                rw [hl]
                                exact h, HIN.out.1, HIN.out.2, ho7.le hs4, fun z e => by
                                have h1 := ho7.base e
                                have h2 := hlt4.1
                                have h3 := hlt4.2.1
                                omega, by
                                have := HB3.out.bs0
                                have := HMW3.out.size
                                have := HBQ.out
                                omega, HB3.out.bt0, HMW4.out.trans hk7 (fun _ _ e => e)⟩
                            have hl6 : (m.take at' ++ [((pe, id), sv)] ++ m.drop at').length ≤ q + 1 := by
                              rw [hl7]
                              omega
                            have HB7 := Lib.hid hB7
                            have HL7 := Lib.hid hl6
                            have HM7 := Lib.hid hk7
                            clear ho7 hB7 hl6 hl7 hown5 hown6 hown7 hgr5 hgr6 hgr7 hat5 hat6 hat7 hk5 hk6 hk7 hS5 hS6 hS7 htl
                            try clear hl1
                            go_wp2_with fail
                            go_meet
                            case rel => exact ⟨bq, _, _, HL7.out, HB7.out, HX4.out.mod HM7.out (fun e => e), HK4.out.mod HM7.out (fun e => e)⟩
                · by_cases k2 : kd = 2
                  · subst k2
                    cases hf : f (pe, id) with
                    | none =>
                      obtain rfl : is = false := by rw [hie, hf]; rfl
                      clear hie HIE
                      have hset := TabStr.setNoT bt bs most (m.length : Int) f pe id sv w3 HB3.out.tab hf
                      have HP := Lib.hid hset
                      clear hset hf k1
                      go_wp2_with fail
                      refine HP.out.mono ?_
                      rintro e w4 ⟨rfl, m4⟩
                      have HM4 := Lib.hid m4
                      clear m4
                      go_wp2_with fail
                      go_meet
                      case rel => exact ⟨bs, f, m, by omega, HB3.out.later HM4.out, HX3.out.mod HM4.out (fun e => e), HK3.out.mod HM4.out (fun e => e)⟩
                    | some u =>
                      obtain rfl : is = true := by rw [hie, hf]; rfl
                      clear hie HIE
                      have hset := TabStr.setT bt bs most (m.length : Int) f pe id sv w3 HB3.out.tab (by rw [hf]; rfl)
                      have HP := Lib.hid hset
                      have hso := set_okM HB3.out.sorted HB3.out.same hf sv
                      have hat := alike_some HB3.out.sorted HB3.out.same hf
                      have HSO := Lib.hid hso
                      have HAT := Lib.hid hat
                      have hal := (List.getElem?_eq_some_iff.1 hat).1
                      generalize atM m (pe, id) = at' at *
                      have ai1 : (at' : Int) < (m.length : Int) := by omega
                      obtain ⟨gm, rfl⟩ : ∃ gm, Am = some ⟨gm, 0, none⟩ := by
                        rcases hAm with ⟨_, h, _⟩ | ⟨g2, h, _⟩
                        · rw [h] at hal; simp at hal
                        · exact ⟨g2, h⟩
                      clear hset hso hat hf k1 hAm
                      go_wp2_with fail
                      refine HP.out.mono ?_
                      rintro e w4 ⟨rfl, hT4, m4⟩
                      have hap := HB3.out.apart gm rfl
                      have hgx := HXO.out gm rfl
                      have hx4 := HX3.out.mod m4 (fun e => by have := hbtl.2.1; omega)
                      have hk4 := HK3.out.mod m4 (fun e => by have := hbtl.2.1; omega)
                      have ho4 := HB3.out.own.mod m4 (fun z e1 e2 => by
                        have := HB3.out.apart z e1
                        omega)
                      have hfr := ho4.free (at' * 3 + 2)
                      have hc4 : w4.cell? ⟨gm, at' * 3 + 2, none⟩ = some (.string u) := ho4.cell encC_len HAT.out (j := 2) (by omega)
                      have hx4c := hx4.cell
                      have hk4c := hk4.cell
                      have m5 : Mod (fun k => k = gm) w4 (w4.setCell ⟨gm, at' * 3 + 2, none⟩ (.string sv)) := (Mod.refl (fun k => k = gm) w4).setCell (p := ⟨gm, at' * 3 + 2, none⟩) (fun _ => rfl) _
                      have hB5 : Both w (w4.setCell ⟨gm, at' * 3 + 2, none⟩ (.string sv)) bt bs most (fun k => if k = (pe, id) then some sv else f k) (.slice (some ⟨gm, 0, none⟩) m.length cm) (m.set at' ((pe, id), sv)) :=
                        ⟨by rw [List.length_set]; exact hT4.mod m5 (fun e => hap.1 e.symm) (fun e => hap.2 e.symm), HSO.out.1, HSO.out.2, ho4.set encC_len HAT.out (j := 2) (by omega) (.string sv) ((pe, id), sv) rfl, HB3.out.apart, HB3.out.bs0, HB3.out.bt0, (HB3.out.mod.trans m4 (fun z hz e => by
                          have := HB3.out.bs0
                          omega)).trans m5 (fun z hz e => by
                          have := HB3.out.own.base (k := gm) rfl
                          omega)⟩
                      have HB5 := Lib.hid hB5
                      have HX5 := Lib.hid (hx4.mod m5 (fun e => by omega))
                      have HK5 := Lib.hid (hk4.mod m5 (fun e => by omega))
                      clear hB5 m5 ho4 hT4 m4 hx3 hk3 hx4 hk4
                      go_wp2_with fail
                      go_meet
                      case rel => exact ⟨bs, _, _, by rw [List.length_set]; omega, HB5.out, HX5.out, HK5.out⟩
                  · by_cases k4 : kd = 4
                    · subst k4
                      cases hf : f (pe, id) with
                      | none =>
                        obtain rfl : is = false := by rw [hie, hf]; rfl
                        clear hie HIE
                        have hdel := TabStr.deleteNoT bt bs most (m.length : Int) f pe id w3 HB3.out.tab hf
                        have HP := Lib.hid hdel
                        clear hdel hf k1 k2
                        go_wp2_with fail
                        refine HP.out.mono ?_
                        rintro e w4 ⟨rfl, m4⟩
                        have HM4 := Lib.hid m4
                        clear m4
                        go_wp2_with fail
                        go_meet
                        case rel => exact ⟨bs, f, m, by omega, HB3.out.later HM4.out, HX3.out.mod HM4.out (fun e => e), HK3.out.mod HM4.out (fun e => e)⟩
                      | some u =>
                        obtain rfl : is = true := by rw [hie, hf]; rfl
                        clear hie HIE
                        have hdel := TabStr.deleteT bt bs most (m.length : Int) f pe id w3 HB3.out.tab (by rw [hf]; rfl)
                        have HP := Lib.hid hdel
                        have hdo := del_okM HB3.out.sorted HB3.out.same hf
                        have hat := alike_some HB3.out.sorted HB3.out.same hf
                        have hal := (List.getElem?_eq_some_iff.1 hat).1
                        have HDO := Lib.hid hdo
                        generalize atM m (pe, id) = at' at *
                        have ai1 : (at' : Int) < (m.length : Int) := by omega
                        have ai2 : (at' : Int) + 1 ≤ (m.length : Int) := by omega
                        have ai3 : (m.length : Int) ≤ (cm : Int) := by omega
                        obtain ⟨gm, rfl⟩ : ∃ gm, Am = some ⟨gm, 0, none⟩ := by
                          rcases hAm with ⟨_, h, _⟩ | ⟨g2, h, _⟩
                          · rw [h] at hal; simp at hal
                          · exact ⟨g2, h⟩
                        obtain ⟨iC, hiC, hzC0, hzC1, hzC2⟩ := info_parts cell_info
                        clear hdel hdo hat hf k1 k2 hAm
                        go_wp2_with fail
                        refine HP.out.mono ?_
                        rintro e w4 ⟨rfl, hT4, m4⟩
                        obtain ⟨ho4, hmw4⟩ := HB3.out.put (g := f) (bq := bs) m4
                        have hap := HB3.out.apart gm rfl
                        have hgx := HXO.out gm rfl
                        have hbtl' := hbtl
                        have HX4 := Lib.hid (HX3.out.mod m4 (fun e => by omega))
                        have HK4 := Lib.hid (HK3.out.mod m4 (fun e => by omega))
                        have hs4 := hmw4.size
                        have hlt4 := (hT4.lt)
                        have hm1 : Mod (fun _ => False) w4 (w4.alloc (.cells #[] 48)) := (Mod.refl _ w4).alloc _
                        have hlit0 := World.ownsRow_lit (base := w4.heap.size) (size := 3) (e := 48) w4 #[] 0 (Nat.le_refl _) (by decide) rfl
                        have hkeep : ∀ w5 : World, Mod (fun k => (Value.slice (some ⟨w4.heap.size, 0, none⟩) 0 0).ownBlock = some k) (w4.alloc (.cells #[] 48)) w5 → Own w5 w.heap.size 48 3 encC (.slice (some ⟨gm, 0, none⟩) m.length cm) m ∧ Mod (fun _ => False) w4 w5 := fun w5 m5 =>
                          ⟨(ho4.later hm1).mod m5 (fun z e1 e2 => by
                            have h1 := Option.some.inj e1
                            have h2 := Option.some.inj e2
                            have := (ho4.lt gm rfl).2
                            simp only at h1 h2
                            omega), hm1.trans m5 (fun z hz e => by
                            have h2 := Option.some.inj e
                            simp only at h2
                            omega)⟩
                        have HLIT0 := Lib.hid hlit0
                        have HRD1 := Lib.hid (((ho4.later hm1).has.take encC_len (show at' ≤ m.length by omega)).reads)
                        have HON1 := Lib.hid (one_Cs (m.take at'))
                        have HON2 := Lib.hid (one_Cs (m.drop (at' + 1)))
                        have HKP := Lib.hid hkeep
                        have HT4 := Lib.hid hT4
                        have HMW4 := Lib.hid hmw4
                        have HNE := Lib.hid (HB3.out.own.base (k := gm) rfl)
                        clear hkeep hlit0 hm1 ho4 hT4 hmw4 m4 hx3 hk3
                        by_cases hcc : cm = at' + 1
                        · subst hcc
                          have HRD2 : Hid (∀ w5 : World, Own w5 w.heap.size 48 3 encC (.slice (some ⟨gm, 0, none⟩) m.length (at' + 1)) m → Reads w5 w5.heap.size 3 (some ⟨gm, 0, none⟩) (m.length - (at' + 1)) ((m.drop (at' + 1)).flatMap encC)) := Lib.hid fun w5 ho => by
                            have h := (ho.has.cut encC_len (k := at' + 1) (by omega)).reads
                            rw [if_pos rfl] at h
                            exact h
                          have b0 : (0 : Int) ≤ (at' : Int) := by omega
                          have b3 : IntKind.i64.wrap ((at' : Int) + 1) = (at' : Int) + 1 := by rw [IntKind.wrap_i64]; omega
                          have b1 : (at' : Int) ≤ (at' : Int) + 1 := by omega
                          have b2 : (at' : Int) + 1 ≤ (at' : Int) + 1 := by omega
                          have b7 : at' + 1 ≤ m.length := by omega
                          have b9 : (0 : Int) ≤ (at' : Int) + 1 := by omega
                          go_upto_region 42 with fail
                          go_region_law
                            (first
                              | (refine step_append_any _ (by rfl) (.tmp 168) (.tmp 171) 43 (by rfl) w4.heap.size 48 iC _ 3 32 Try.underlying43 hiC hzC0 hzC1 hzC2 (by rfl) (by omega) (.slice (some ⟨w4.heap.size, 0, none⟩) 0 0) 0 [] (by rfl) HLIT0.out _ (some ⟨gm, 0, none⟩) at' (at' + 1) ((m.take at').flatMap encC) (by rfl) HRD1.out HON1.out (by simp only [maxLen]; omega) (by omega) (by simp) ?_; intro v5 w5 hown5 hgr5 hat5; have hk5 := HKP.out w5 ⟨(Mod.ofGrown hgr5).os, (Mod.ofGrown hgr5).tape, (Mod.ofGrown hgr5).output, (Mod.ofGrown hgr5).size, (Mod.ofGrown hgr5).block⟩; have hr5 := HRD2.out w5 hk5.1)
                              | (refine step_append_any _ (by rfl) (.tmp 172) (.tmp 176) 43 (by rfl) w4.heap.size 48 iC _ 3 32 Try.underlying43 hiC hzC0 hzC1 hzC2 (by rfl) (by omega) _ _ _ (by rfl) hown5 _ (some ⟨gm, 0, none⟩) 0 0 [] (by rfl) (⟨by simp, fun h => absurd h (by omega)⟩ : Reads w5 w5.heap.size 3 (some ⟨gm, 0, none⟩) 0 []) (fun _ h => by cases h) (by simp only [maxLen]; omega) (by omega) (by have := hk5.2.size; omega) ?_; intro v6 w6 hown6 hgr6 hat6))
                          all_goals
                            have htl : (m.take at').length = at' := by rw [List.length_take]; omega
                            have ho5 : Own w5 w4.heap.size 48 3 encC v5 (m.take at') := by
                              unfold Own
                              rw [htl]
                              simpa using hown5
                            have ho6 : Own w6 w4.heap.size 48 3 encC v6 (m.take at' ++ m.drop (at' + 1)) := by
                              unfold Own
                              rw [List.drop_of_length_le (show m.length ≤ at' + 1 by omega), List.append_nil, htl]
                              simpa using hown6
                            have m6 : Mod (fun _ => False) w4 w6 := hk5.2.trans (Mod.ofGrown hgr6) (fun z hz e => by
                              have := ho5.base e
                              omega)
                            have hB6 : Both w w6 bt bs most (fun k' => if k' = (pe, id) then none else f k') v6 (m.take at' ++ m.drop (at' + 1)) :=
                              ⟨by
                                have h := HT4.out.mod m6 (fun e => e) (fun e => e)
                                have hl : ((m.take at' ++ m.drop (at' + 1)).length : Int) = (m.length : Int) - 1 := by
                                  rw [List.length_append, htl, List.length_drop]
                                  omega
                                rw [hl]
                                exact h, HDO.out.1, HDO.out.2, ho6.le hs4, fun z e => by
                                have h1 := ho6.base e
                                have h2 := hlt4.1
                                have h3 := hlt4.2.1
                                omega, HB3.out.bs0, HB3.out.bt0, HMW4.out.trans m6 (fun _ _ e => e)⟩
                            have hl6 : (m.take at' ++ m.drop (at' + 1)).length ≤ q + 1 := by
                              rw [List.length_append, htl, List.length_drop]
                              omega
                            have HB6 := Lib.hid hB6
                            have HL6 := Lib.hid hl6
                            have HM6 := Lib.hid m6
                            clear hB6 hl6 m6 ho5 ho6 hown5 hown6 hgr5 hgr6 hat5 hat6 hk5 hr5 htl
                            go_wp2_with fail
                            go_meet
                            case rel => exact ⟨bs, _, _, HL6.out, HB6.out, HX4.out.mod HM6.out (fun e => e), HK4.out.mod HM6.out (fun e => e)⟩
                        · have HRD2 : Hid (∀ w5 : World, Own w5 w.heap.size 48 3 encC (.slice (some ⟨gm, 0, none⟩) m.length cm) m → Reads w5 w5.heap.size 3 (some ⟨gm, (at' + 1) * 3, none⟩) (m.length - (at' + 1)) ((m.drop (at' + 1)).flatMap encC)) := Lib.hid fun w5 ho => by
                            have h := (ho.has.cut encC_len (k := at' + 1) (by omega)).reads
                            rw [if_neg hcc] at h
                            simpa [Go.WideShapes.add_plain] using h
                          have b0 : (0 : Int) ≤ (at' : Int) := by omega
                          have b1 : (at' : Int) ≤ (cm : Int) := by omega
                          have b2 : (at' : Int) + 1 ≤ (cm : Int) := by omega
                          have b3 : IntKind.i64.wrap ((at' : Int) + 1) = (at' : Int) + 1 := by rw [IntKind.wrap_i64]; omega
                          have b4 : ¬ cm - (at' + 1) = 0 := by omega
                          have b5 : ¬ (cm : Int) = (at' : Int) + 1 := by omega
                          have b6 : at' + 1 < cm := by omega
                          have b7 : at' + 1 ≤ m.length := by omega
                          have b8 : at' ≤ cm := by omega
                          have b9 : (0 : Int) ≤ (at' : Int) + 1 := by omega
                          go_upto_region 42 with fail
                          go_region_law
                            (first
                              | (refine step_append_any _ (by rfl) (.tmp 168) (.tmp 171) 43 (by rfl) w4.heap.size 48 iC _ 3 32 Try.underlying43 hiC hzC0 hzC1 hzC2 (by rfl) (by omega) (.slice (some ⟨w4.heap.size, 0, none⟩) 0 0) 0 [] (by rfl) HLIT0.out _ (some ⟨gm, 0, none⟩) at' cm ((m.take at').flatMap encC) (by rfl) HRD1.out HON1.out (by simp only [maxLen]; omega) (by omega) (by simp) ?_; intro v5 w5 hown5 hgr5 hat5; have hk5 := HKP.out w5 ⟨(Mod.ofGrown hgr5).os, (Mod.ofGrown hgr5).tape, (Mod.ofGrown hgr5).output, (Mod.ofGrown hgr5).size, (Mod.ofGrown hgr5).block⟩; have hr5 := HRD2.out w5 hk5.1)
                              | (refine step_append_any _ (by rfl) (.tmp 172) (.tmp 176) 43 (by rfl) w4.heap.size 48 iC _ 3 32 Try.underlying43 hiC hzC0 hzC1 hzC2 (by rfl) (by omega) _ _ _ (by rfl) hown5 _ (some ⟨gm, (at' + 1) * 3, none⟩) (m.length - (at' + 1)) (cm - (at' + 1)) ((m.drop (at' + 1)).flatMap encC) (by rfl) hr5 HON2.out (by simp only [maxLen]; omega) (by omega) (by have := hk5.2.size; omega) ?_; intro v6 w6 hown6 hgr6 hat6))
                          all_goals
                            have htl : (m.take at').length = at' := by rw [List.length_take]; omega
                            have ho5 : Own w5 w4.heap.size 48 3 encC v5 (m.take at') := by
                              unfold Own
                              rw [htl]
                              simpa using hown5
                            have ho6 : Own w6 w4.heap.size 48 3 encC v6 (m.take at' ++ m.drop (at' + 1)) := by
                              unfold Own
                              rw [List.length_append, htl, List.length_drop, List.flatMap_append]
                              simpa using hown6
                            have m6 : Mod (fun _ => False) w4 w6 := hk5.2.trans (Mod.ofGrown hgr6) (fun z hz e => by
                              have := ho5.base e
                              omega)
                            have hB6 : Both w w6 bt bs most (fun k' => if k' = (pe, id) then none else f k') v6 (m.take at' ++ m.drop (at' + 1)) :=
                              ⟨by
                                have h := HT4.out.mod m6 (fun e => e) (fun e => e)
                                have hl : ((m.take at' ++ m.drop (at' + 1)).length : Int) = (m.length : Int) - 1 := by
                                  rw [List.length_append, htl, List.length_drop]
                                  omega
                                rw [hl]
                                exact h, HDO.out.1, HDO.out.2, ho6.le hs4, fun z e => by
                                have h1 := ho6.base e
                                have h2 := hlt4.1
                                have h3 := hlt4.2.1
                                omega, HB3.out.bs0, HB3.out.bt0, HMW4.out.trans m6 (fun _ _ e => e)⟩
                            have hl6 : (m.take at' ++ m.drop (at' + 1)).length ≤ q + 1 := by
                              rw [List.length_append, htl, List.length_drop]
                              omega
                            have HB6 := Lib.hid hB6
                            have HL6 := Lib.hid hl6
                            have HM6 := Lib.hid m6
                            clear hB6 hl6 m6 ho5 ho6 hown5 hown6 hgr5 hgr6 hat5 hat6 hk5 hr5 htl
                            go_wp2_with fail
                            go_meet
                            case rel => exact ⟨bs, _, _, HL6.out, HB6.out, HX4.out.mod HM6.out (fun e => e), HK4.out.mod HM6.out (fun e => e)⟩
                    · have e1 : (kd == 1) = false := by simpa using k1
                      have e2 : (kd == 2) = false := by simpa using k2
                      have e4 : (kd == 4) = false := by simpa using k4
                      clear k1 k2 k4 hie HIE
                      go_wp2_with fail
                      go_meet
                      case rel => exact ⟨bs, f, m, by omega, HB3.out, HX3.out, HK3.out⟩
              case rest =>
                obtain ⟨bs', f', m', hml, hB4, hX4, hK4⟩ := hcut
                obtain ⟨w4, rfl⟩ : ∃ z : World, z = wc := ⟨_, rfl⟩
                obtain ⟨Am', cm', rfl, hcm', -⟩ := hB4.own.form
                have hfind := findMW (.slice Am' m'.length cm') m' pe id w4 hB4.own.has (by omega)
                rw [isM_eq hB4.sorted hB4.same] at hfind
                have hk4 := hK4.cell
                have HB4 := Lib.hid hB4
                have HK4 := Lib.hid hK4
                clear hB4 hK4 hX4 hx3 hk3 HX3 HK3 HB3
                cases hf : f' (pe, id) with
                | none =>
                  rw [hf] at hfind
                  simp only [Option.isSome_none] at hfind
                  have HF4 := Lib.hid hfind
                  have HFN := Lib.hid hf
                  clear hfind hf
                  go_wp2_with fail
                  refine HF4.out.mono ?_
                  rintro e w5 ⟨rfl, m5⟩
                  have hB5 := HB4.out.later m5
                  have hk5 := (HK4.out.mod m5 (fun e => e)).cell
                  have hget := TabStr.getT bt bs' most (m'.length : Int) f' pe id w5 hB5.tab
                  rw [HFN.out] at hget
                  simp only [TabStr.val, Option.isSome_none] at hget
                  have HG5 := Lib.hid hget
                  have HB5 := Lib.hid hB5
                  clear hget hB5 m5 hk4
                  go_wp2_with fail
                  refine HG5.out.mono ?_
                  rintro e w6 ⟨rfl, m6⟩
                  have hB6 := HB5.out.later m6
                  have hlen := TabStr.lenT bt bs' most (m'.length : Int) f' w6 hB6.tab
                  have HL6 := Lib.hid hlen
                  have HB6 := Lib.hid hB6
                  clear hlen hB6 m6 hk5
                  go_wp2_with fail
                  refine HL6.out.mono ?_
                  rintro e w7 ⟨rfl, rfl⟩
                  go_wp2_with fail
                  go_roundw
                  case rel => exact ⟨q + 1, bs', f', m', by go_num, by omega, hml, HB6.out⟩
                  case measure => simp [intOf]; omega
                | some u =>
                  rw [hf] at hfind
                  simp only [Option.isSome_some] at hfind
                  have hat := alike_some HB4.out.sorted HB4.out.same hf
                  have hal := (List.getElem?_eq_some_iff.1 hat).1
                  have HAT := Lib.hid hat
                  have HF4 := Lib.hid hfind
                  have HFN := Lib.hid hf
                  generalize atM m' (pe, id) = at' at *
                  have ai0 : (0 : Int) ≤ (at' : Int) := by omega
                  have ai1 : (at' : Int) < (m'.length : Int) := by omega
                  clear hfind hf hat
                  go_wp2_with fail
                  refine HF4.out.mono ?_
                  rintro e w5 ⟨rfl, m5⟩
                  have hB5 := HB4.out.later m5
                  have hk5 := (HK4.out.mod m5 (fun e => e)).cell
                  have hget := TabStr.getT bt bs' most (m'.length : Int) f' pe id w5 hB5.tab
                  rw [HFN.out] at hget
                  simp only [TabStr.val, Option.isSome_some] at hget
                  obtain ⟨gm, om, rfl, _, d0, d1, d2⟩ := hB5.own.has.atC HAT.out
                  simp only at d2
                  have HG5 := Lib.hid hget
                  have HB5 := Lib.hid hB5
                  clear hget hB5 m5 hk4 d0 d1
                  go_wp2_with fail
                  refine HG5.out.mono ?_
                  rintro e w6 ⟨rfl, m6⟩
                  have hB6 := HB5.out.later m6
                  have hlen := TabStr.lenT bt bs' most (m'.length : Int) f' w6 hB6.tab
                  have HL6 := Lib.hid hlen
                  have HB6 := Lib.hid hB6
                  clear hlen hB6 m6 hk5 d2
                  go_wp2_with fail
                  refine HL6.out.mono ?_
                  rintro e w7 ⟨rfl, rfl⟩
                  go_wp2_with fail
                  go_roundw
                  case rel => exact ⟨q + 1, bs', f', m', by go_num, by omega, hml, HB6.out⟩
                  case measure => simp [intOf]; omega
            · obtain rfl : L = q := by omega
              have hkc := TabStr.keysT bt bs most (m.length : Int) f wr hB.tab
              have HKC := Lib.hid hkc
              have HB := Lib.hid hB
              clear hkc hB hAm
              go_wp2_with fail
              refine HKC.out.mono ?_
              rintro e w2 ⟨vk, ks, rfl, hok, hsk, hmk, hlk, m2⟩
              have hks : ks = m.map fun c => c.1 := keys_same HB.out.sorted HB.out.same hsk hmk
              subst hks
              obtain ⟨Ak, ck, rfl, -⟩ := hok.form
              have hmo := HB.out.own.later m2
              have HOK := Lib.hid hok
              have HMO := Lib.hid hmo
              have HM2 := Lib.hid (HB.out.mod.trans m2 (fun _ _ e => e))
              rw [List.length_map]
              obtain ⟨nm, hnm⟩ : ∃ z, m.length = z := ⟨_, rfl⟩
              rw [hnm]
              have HNM := Lib.hid hnm
              have hnb : nm ≤ 1000 := by omega
              clear hok hmo m2 hsk hmk hlk hcm hnm hmq
              go_wp2_with fail
              go_loopw [22] (fun i wr => ∃ j : Nat, i = .int .i64 j ∧ j ≤ nm ∧ Mod (fun _ => False) w2 wr) (fun i _ => nm - (intOf i).toNat)
              case atStart => exact ⟨0, rfl, by omega, Mod.refl _ _⟩
              case round =>
                obtain ⟨j, rfl, hj, hmj⟩ := hrel
                by_cases hjn : j < nm
                · have hjx : j < m.length := by rw [HNM.out]; exact hjn
                  have hc? := List.getElem?_eq_getElem hjx
                  have hk? : (m.map fun c => c.1)[j]? = some m[j].1 := by rw [List.getElem?_map, hc?]; rfl
                  obtain ⟨gm, om, rfl, _, c0, c1, c2⟩ := (HMO.out.later hmj).has.atC hc?
                  obtain ⟨gk, ok, rfl, _, k0, k1⟩ := TabStr.atKy (HOK.out.later hmj).has hk?
                  generalize m[j]'hjx = c at *
                  obtain ⟨⟨p, i⟩, sv⟩ := c
                  simp only at c0 c1 k0 k1
                  have z1 : (j : Int) < (nm : Int) := by omega
                  have HMJ := Lib.hid hmj
                  clear hc? hk? hmj c2
                  go_wp2_with fail
                  go_quiet (fail)
                  go_wp2_with fail
                  go_roundw
                  case rel => exact ⟨j + 1, by go_num, by omega, HMJ.out.drewN _⟩
                  case measure => simp [intOf]; omega
                · have HMJ := Lib.hid (HM2.out.trans hmj (fun _ _ e => e))
                  clear hmj
                  go_wp2_with fail
                  refine (awakeW _).mono ?_
                  rintro e w5 ⟨rfl, m5⟩
                  have M5 := Lib.hid (HMJ.out.trans m5 (fun _ _ e => e))
                  clear m5
                  go_wp2_with fail
                  go_ret
                  exact ⟨rfl, M5.out⟩
        · have hno := TabStr.newNo most wr (by omega)
          have HNO := Lib.hid hno
          clear hno
          have hcs : (most < 1 ∧ decide (1 ≤ most) = false) ∨ (1 ≤ most ∧ decide (1 ≤ most) = true ∧ 100000 < most ∧ decide (most ≤ 100000) = false) := by
            simp only [decide_eq_false_iff_not, decide_eq_true_eq]
            omega
          rcases hcs with ⟨g1, g2⟩ | ⟨g1, g2, g3, g4⟩
          all_goals
            clear hok
            go_wp2_with fail
            refine HNO.out.mono ?_
            rintro e w' ⟨rfl, rfl⟩
            go_wp2_with fail
            refine (awakeW _).mono ?_
            rintro e w5 ⟨rfl, m5⟩
            have M5 := Lib.hid (HM.out.trans m5 (fun _ _ e => e))
            clear m5
            go_wp2_with fail
            go_ret
            exact ⟨rfl, M5.out⟩
      · go_wp2_with fail
        refine (awakeW _).mono ?_
        rintro e w5 ⟨rfl, m5⟩
        have M5 := Lib.hid (hm.trans m5 (fun _ _ e => e))
        clear m5
        go_wp2_with fail
        go_ret
        exact ⟨rfl, M5.out⟩
end Go.Proofs.Ytkfembhladjhdaa
