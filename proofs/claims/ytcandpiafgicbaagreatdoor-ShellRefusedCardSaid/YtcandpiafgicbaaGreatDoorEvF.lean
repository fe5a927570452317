/- The evaluator's operations: append, copy, clear. -/
import Derived.Test.YtcandpiafgicbaaGreatDoorEvE
namespace Go.Proofs.YtcandpiafgicbaaGreatDoor.Ev
open Go hiding Obj
set_option linter.unusedVariables false
set_option linter.unusedSimpArgs false
set_option linter.unusedSectionVars false
variable [Gl]
section
variable {P : Program}
theorem cells_list {r : Ren} {S : St} {w : World} (h : Rel r S w) {b : Nat} {c : List Value} {e : TypeId} {sz : Nat} (hb : S.get b = some (.cells c e sz)) {o n : Nat} (hn : ((c.drop o).take n).length = n) :
    ∃ xs', VRs r ((c.drop o).take n) xs' ∧ (∀ (j : Nat) u, xs'[j]? = some u → w.cell? ⟨r.μ b, j + o + r.δ b, none⟩ = some u) ∧ (∀ u ∈ xs', u.oneCell' = true) := by
  have hlen : ∀ j, j < n → j + o < c.length := fun j hj => by simp at hn; omega
  have key : ∀ j, j < n → ∃ v', w.cell? ⟨r.μ b, j + o + r.δ b, none⟩ = some v' ∧ VR r (c.getD (j + o) undef) v' ∧ v'.oneCell' = true := fun j hj => by
    obtain ⟨v', h1, h2, h3, _⟩ := h.cells hb (List.getElem?_eq_getElem (hlen j hj))
    exact ⟨v', h1, by rw [List.getD_eq_getElem?_getD, List.getElem?_eq_getElem (hlen j hj)]; exact h2, h3⟩
  have hget : ∀ (j : Nat) u, ((List.range n).map fun j => (w.cell? ⟨r.μ b, j + o + r.δ b, none⟩).getD undef)[j]? = some u → j < n ∧ w.cell? ⟨r.μ b, j + o + r.δ b, none⟩ = some u := fun j u hj => by
    have hjn : j < n := by have := (List.getElem?_eq_some_iff.1 hj).1; simpa using this
    obtain ⟨v', h1, _⟩ := key j hjn
    refine ⟨hjn, ?_⟩
    simp [hjn, h1] at hj
    rw [h1, hj]
  refine ⟨(List.range n).map fun j => (w.cell? ⟨r.μ b, j + o + r.δ b, none⟩).getD undef, VRs.of_get (by simpa using hn) fun j v hj => ?_, fun j u hj => (hget j u hj).2, fun u hu => ?_⟩
  · have hjn : j < n := by
      have := (List.getElem?_eq_some_iff.1 hj).1
      omega
    obtain ⟨v', h1, h2, _⟩ := key j hjn
    refine ⟨v', by simp [hjn, h1], ?_⟩
    rw [List.getElem?_take_of_lt hjn, List.getElem?_drop] at hj
    rw [List.getD_eq_getElem?_getD, show j + o = o + j by omega, hj] at h2
    exact h2
  · obtain ⟨j, hj⟩ := List.getElem?_of_mem hu
    obtain ⟨hjn, hc⟩ := hget j u hj
    obtain ⟨v', h1, _, h3⟩ := key j hjn
    rw [h1] at hc
    injection hc with hc
    subst hc; exact h3
/-- What an append or a copy reads. -/
noncomputable def srcC (P : Program) (S : St) (sz : Nat) (tx : TypeId) : Value → Option (Nat × List Value)
  | .slice none n _ => match P.underlying tx with | some (.slice _) => bif Nat.beq n 0 then some (0, []) else none | _ => none
  | .slice (some ⟨b, o, none⟩) n _ => match P.underlying tx with
    | some (.slice _) => bif Nat.beq n 0 then some (0, []) else
      match S.get b with
      | some (.cells c _ _) => let xs := (c.drop o).take (n * sz); bif Nat.beq xs.length (n * sz) then some (n, xs) else none
      | _ => none
    | _ => none
  | .string s => match P.underlying tx with | some .string => bif Nat.beq sz 1 then some (s.size, byteCells s) else none | _ => none
  | _ => none
theorem byteCells_sc (s : ByteArray) : (byteCells s).all scalar = true := by
  rw [List.all_eq_true]
  intro v hv
  obtain ⟨_, _, rfl⟩ := List.mem_map.1 hv
  rfl
theorem srcC_sim {r : Ren} {S : St} {w : World} (h : Rel r S w) {sz : Nat} {tx : TypeId} {x x' : Value} (hv : VR r x x') {n : Nat} {news : List Value} (hs : srcC P S sz tx x = some (n, news)) :
    ∃ news', Src P sz tx x' n news' w ∧ VRs r news news' := by
  unfold srcC at hs
  split at hs
  · rename_i n' c
    split at hs
    · rename_i e' hk
      cases hn : Nat.beq n' 0 with
      | false => rw [hn] at hs; simp at hs
      | true =>
        rw [hn] at hs
        simp only [cond_true, Option.some.injEq, Prod.mk.injEq] at hs
        obtain ⟨rfl, rfl⟩ := hs
        obtain rfl := beq0 hn
        cases hv with
        | sc v hsc => exact ⟨[], Src.ofNil w hk c, .nil⟩
    · cases hs
  · rename_i b o n' c
    split at hs
    · rename_i e' hk
      have go : ∀ (m c' : Nat) (o' : Nat) (news' : List Value), news'.length = n' * sz → (∀ (j : Nat) u, news'[j]? = some u → w.cell? ⟨m, o' + j, none⟩ = some u) → (∀ u ∈ news', u.oneCell' = true) →
          Src P sz tx (.slice (some ⟨m, o', none⟩) n' c') n' news' w := fun m c' o' news' hl hc h1 =>
        Src.ofSlice w hk _ _ _ _ hl (fun j u hj => by rw [add_eq]; exact hc j u hj) h1
      have res : (n' = 0 ∧ n = 0 ∧ news = []) ∨ ∃ news', VRs r news news' ∧ n = n' ∧ n' ≠ 0 ∧ news'.length = n' * sz ∧ (∀ (j : Nat) u, news'[j]? = some u → w.cell? ⟨r.μ b, o + r.δ b + j, none⟩ = some u) ∧ (∀ u ∈ news', u.oneCell' = true) := by
        cases hn : Nat.beq n' 0 with
        | true =>
          rw [hn] at hs
          simp only [cond_true, Option.some.injEq, Prod.mk.injEq] at hs
          obtain ⟨rfl, rfl⟩ := hs
          exact .inl ⟨beq0 hn, rfl, rfl⟩
        | false =>
          rw [hn] at hs
          simp only [cond_false] at hs
          split at hs
          · rename_i c2 e2 s2 hg
            cases hl : Nat.beq ((c2.drop o).take (n' * sz)).length (n' * sz) with
            | false => rw [hl] at hs; simp at hs
            | true =>
              rw [hl] at hs
              simp only [cond_true, Option.some.injEq, Prod.mk.injEq] at hs
              obtain ⟨rfl, rfl⟩ := hs
              obtain ⟨xs', g1, g2, g3⟩ := cells_list h hg (beq0 hl)
              refine .inr ⟨xs', g1, rfl, nbeq0 hn, by rw [← g1.length]; exact beq0 hl, fun j u hj => ?_, g3⟩
              rw [show o + r.δ b + j = j + o + r.δ b by omega]
              exact g2 j u hj
          · cases hs
      rcases res with ⟨rfl, rfl, rfl⟩ | ⟨news', q1, rfl, q0, q2, q3, q4⟩
      · cases hv with
        | sc v hsc => simp [scalar] at hsc
        | slE => exact ⟨[], go _ _ _ [] (by simp) (fun j u hj => by simp at hj) (fun u hu => by cases hu), .nil⟩
        | slO => exact ⟨[], go _ _ _ [] (by simp) (fun j u hj => by simp at hj) (fun u hu => by cases hu), .nil⟩
        | slK => exact ⟨[], go _ _ _ [] (by simp) (fun j u hj => by simp at hj) (fun u hu => by cases hu), .nil⟩
      · cases hv with
        | sc v hsc => simp [scalar] at hsc
        | slE => exact ⟨news', go _ _ _ _ q2 q3 q4, q1⟩
        | slO _ _ _ _ _ _ _ _ _ ha =>
          obtain ⟨rfl, rfl⟩ : _ ∧ _ := ha.resolve_right (by omega)
          exact ⟨news', go _ _ _ _ q2 q3 q4, q1⟩
        | slK _ _ _ _ _ _ _ _ ha =>
          obtain ⟨rfl, rfl⟩ : _ ∧ _ := ha.resolve_right (by omega)
          exact ⟨news', go _ _ _ _ q2 q3 q4, q1⟩
    · cases hs
  · rename_i s
    split at hs
    · rename_i hk
      cases hn : Nat.beq sz 1 with
      | false => rw [hn] at hs; simp at hs
      | true =>
        rw [hn] at hs
        simp only [cond_true, Option.some.injEq, Prod.mk.injEq] at hs
        obtain ⟨rfl, rfl⟩ := hs
        obtain rfl := beq0 hn
        cases hv with
        | sc v hsc => exact ⟨_, Src.ofString w hk s, VRs.sc (byteCells_sc s)⟩
    · cases hs
  · cases hs
/-- append(s, x...) -/
noncomputable def app (P : Program) (S : St) (ts tx : TypeId) (s x : Value) : Option (Value × St) :=
  match P.underlying ts with
  | some (.slice e) =>
    match P.info? e with
    | some ie =>
      match ie.zero, srcC P S ie.size tx x with
      | some z, some (n, news) =>
        bif !(Nat.beq z.cells.size ie.size) then none else
        bif Nat.beq n 0 then
          match s with
          | .slice none 0 0 => some (s, S)
          | .slice (some ⟨b, o, none⟩) len cap =>
            bif Nat.beq (b % 2) 0 then (bif Nat.ble len cap then some (s, S) else none)
            else bif !(Nat.blt cap KB) then (bif Nat.ble (KB + len) cap then some (s, S) else none)
            else match S.get b with
              | some (.cells c _ sz') => bif Nat.beq sz' ie.size && !(Nat.beq ie.size 0) && Nat.ble ((cap + len) * ie.size) c.length then some (s, S) else none
              | _ => bif Nat.beq len 0 then some (s, S) else none
          | _ => none
        else
          match s with
          | .slice none 0 0 => bif Nat.ble n 1048576 && Nat.ble ie.bytes 1048576 then some (.slice (some ⟨S.next + 1, 0, none⟩) n 0, S.newG (.cells news e ie.size)) else none
          | .slice (some ⟨b, o, none⟩) len cap =>
            bif Nat.beq (b % 2) 0 then
              bif Nat.ble (len + n) cap then
                match S.get b with
                | some (.cells c e' sz') => bif Nat.ble (o + len * ie.size + news.length) c.length then some (.slice (some ⟨b, o, none⟩) (len + n) cap, S.set b (.cells (spl c (o + len * ie.size) news) e' sz')) else none
                | _ => none
              else bif Nat.ble (len + n) 1048576 && Nat.ble ie.bytes 1048576 then
                match (bif Nat.beq len 0 then some (0, []) else srcC P S ie.size ts s) with
                | some (_, olds) => some (.slice (some ⟨S.next + 1, 0, none⟩) (len + n) 0, S.newG (.cells (olds ++ news) e ie.size))
                | none => none
              else none
            else bif !(Nat.blt cap KB) then
              bif Nat.blt cap (KB + len + n) && Nat.ble (len + n) 1048576 && Nat.ble ie.bytes 1048576 then
                match (bif Nat.beq len 0 then some (0, []) else srcC P S ie.size ts s) with
                | some (_, olds) => some (.slice (some ⟨S.next + 1, 0, none⟩) (len + n) 0, S.newG (.cells (olds ++ news) e ie.size))
                | none => none
              else none
            else
              match S.get b with
              | some (.cells c e' sz') =>
                bif Nat.beq sz' ie.size && !(Nat.beq ie.size 0) && Nat.beq o (cap * ie.size) then
                  bif Nat.ble ((cap + (len + n)) * ie.size) c.length then some (.slice (some ⟨b, o, none⟩) (len + n) cap, S.set b (.cells (spl c (o + len * ie.size) news) e' sz'))
                  else bif Nat.ble (len + n) 1048576 && Nat.ble ie.bytes 1048576 && Nat.beq e' e && Nat.ble ((cap + len) * ie.size) c.length then
                    some (.slice (some ⟨S.next + 1, 0, none⟩) (len + n) 0, (S.del b).newG (.cells ((c.drop o).take (len * ie.size) ++ news) e ie.size))
                  else none
                else none
              | _ => none
          | _ => none
      | _, _ => none
    | none => none
  | _ => none
theorem fits {need old bytes : Nat} (h : old < need) (h1 : need ≤ 1048576) (h2 : bytes ≤ 1048576) : Builtin.nextslicecap need old * bytes ≤ 281474976710656 := by
  have := nextslicecap_le h
  calc Builtin.nextslicecap need old * bytes ≤ (2 * 1048576) * 1048576 := Nat.mul_le_mul (by omega) h2
    _ ≤ 281474976710656 := by decide
theorem zc_length (z : Array Value) (n : Nat) : (Builtin.zeroCells z n).toList.length = n * z.size := by simp [Builtin.zeroCells]
theorem cap_le (w : World) (need old : Nat) (e : TypeId) : need ≤ grownCap w need old e := by simp [grownCap, Question.cut]
theorem grow_sim {r : Ren} {S : St} {w : World} (hr : Rel r S w) {ts tx ty e : TypeId} {ie : TypeInfo} {z : Value} (hu : P.underlying ts = some (.slice e)) (hi : P.info? e = some ie) (hz : ie.zero = some z) (hzs : z.cells.size = ie.size) {base : Option Addr} {len cap n : Nat} {x : Value}
    {olds olds' news news' : List Value} (ho : VRs r olds olds') (ho1 : ∀ v ∈ olds', v.oneCell' = true) (holen : olds'.length = len * ie.size) (hrun : (Builtin.firstCells ie.size len (.slice base len cap)).run P w.drew = .ok olds'.toArray w.drew)
    (hs : Src P ie.size tx x n news' w) (hx : VRs r news news') (hg : cap < len + n) (h1 : len + n ≤ 1048576) (h2 : ie.bytes ≤ 1048576) :
    ∃ K w', (Builtin.append_ #[ts, tx] ty #[.slice base len cap, x]).run P w = .ok (.slice (some ⟨w.heap.size, 0, none⟩) (len + n) K) w' ∧ Fr r S w (r.ext (S.next + 1) w.heap.size 0 K) (S.newG (.cells (olds ++ news) e ie.size)) w' := by
  have h := run_append_grow_src (P := P) w ts tx ty e ie z hu hi hz base len cap olds' hrun x n news' hs hg (by omega) (fits hg h1 h2)
  refine ⟨_, _, h, ?_⟩
  have hcl := cap_le w (len + n) cap e
  generalize hG : grownCap w (len + n) cap e = G at hcl
  have hd := Fr.drew hr
  have hp := hd.rel.newGr (ho.append hx) (rest := (Builtin.zeroCells z.cells (G - (len + n))).toList) (fun v hv => by
      rcases List.mem_append.1 hv with h | h
      · exact ho1 v h
      · exact hs.one v h) e (sz := ie.size) (K := G) (by
        rw [List.length_append, zc_length, List.length_append, holen, hs.newsLen, hzs, ← Nat.add_mul, ← Nat.add_mul]
        congr 1; omega) (fr := (0, 0)) (.inl rfl)
  have := hd.trans hp
  have e1 : (olds' ++ news').toArray ++ Builtin.zeroCells z.cells (G - (len + n)) = ⟨olds' ++ news' ++ (Builtin.zeroCells z.cells (G - (len + n))).toList⟩ := by
    apply Array.ext'; simp
  rw [e1]
  exact this
theorem app_nil {ts tx ty e : TypeId} {ie : TypeInfo} (hu : P.underlying ts = some (.slice e)) (hi : P.info? e = some ie) {x : Value} {news' : List Value} {w : World} (hs : Src P ie.size tx x 0 news' w) :
    (Builtin.append_ #[ts, tx] ty #[.slice none 0 0, x]).run P w = .ok (.slice none 0 0) w := by
  rcases hs.kind with ⟨e', hk⟩ | hk <;> simp [Builtin.append_, run_und hu, run_und hk, run_so hi, hs.len, hs.cells]
theorem app_sim {r : Ren} {S S' : St} {w : World} (hr : Rel r S w) {ts tx ty : TypeId} {s s' x x' v : Value} (hv : VR r s s') (hx : VR r x x') (hb : app P S ts tx s x = some (v, S')) :
    ∃ r' w' v', (Builtin.append_ #[ts, tx] ty #[s', x']).run P w = .ok v' w' ∧ Fr r S w r' S' w' ∧ VR r' v v' := by
  unfold app at hb
  split at hb
  case h_2 => cases hb
  rename_i e hu
  split at hb
  case h_2 => cases hb
  rename_i ie hi
  split at hb
  case h_2 => cases hb
  rename_i z n news hz hsrc
  cases hzs : Nat.beq z.cells.size ie.size with
  | false => rw [hzs] at hb; simp at hb
  | true =>
  rw [hzs] at hb
  simp only [Bool.not_true, cond_false] at hb
  have hzs := beq0 hzs
  obtain ⟨news', hS, hN⟩ := srcC_sim hr hx hsrc
  have hNl := hN.length
  have room : ∀ (m o' len cap' : Nat), len + n ≤ cap' → (∀ j, j < news'.length → (w.cell? ⟨m, o' + len * ie.size + j, none⟩).isSome = true ∧ w.frozen? ⟨m, o' + len * ie.size + j, none⟩ = false) →
      (Builtin.append_ #[ts, tx] ty #[.slice (some ⟨m, o', none⟩) len cap', x']).run P w = .ok (.slice (some ⟨m, o', none⟩) (len + n) cap') (w.setCells m (o' + len * ie.size) news') := fun m o' len cap' hroom hc =>
    run_append_room_src w ts tx ty e ie hu hi m o' len cap' x' n news' hS hroom (fun j hj => (hc j hj).1) (fun j hj => (hc j hj).2)
  cases hn : Nat.beq n 0 with
  | true =>
    rw [hn] at hb
    simp only [cond_true] at hb
    obtain rfl := beq0 hn
    have hn0 : news' = [] := by
      have := hS.newsLen
      simp at this
      exact this
    subst hn0
    have stay : ∀ (m o' len cap' : Nat), len ≤ cap' → (Builtin.append_ #[ts, tx] ty #[.slice (some ⟨m, o', none⟩) len cap', x']).run P w = .ok (.slice (some ⟨m, o', none⟩) len cap') w := fun m o' len cap' hle =>
      room m o' len cap' hle fun j hj => by simp at hj
    split at hb
    · simp only [Option.some.injEq, Prod.mk.injEq] at hb
      obtain ⟨rfl, rfl⟩ := hb
      cases hv with
      | sc v hsc => exact ⟨r, w, _, app_nil hu hi hS, Fr.refl hr, .sc _ rfl⟩
    · rename_i b o len cap
      cases hv with
      | sc v hsc => simp [scalar] at hsc
      | slE _ _ _ _ hlt he =>
        rw [he] at hb
        simp only [Nat.beq_refl, cond_true] at hb
        cases hle : Nat.ble len cap with
        | false => rw [hle] at hb; simp at hb
        | true =>
          rw [hle] at hb
          simp only [cond_true, Option.some.injEq, Prod.mk.injEq] at hb
          obtain ⟨rfl, rfl⟩ := hb
          exact ⟨r, w, _, stay _ _ _ _ (ble0 hle), Fr.refl hr, .slE b o len cap hlt he⟩
      | slK _ _ _ k M D hlt ho ha =>
        rw [ho] at hb
        simp only [show Nat.beq 1 0 = false from rfl, cond_false] at hb
        have hkb : Nat.blt (KB + k) KB = false := by
          cases hq : Nat.blt (KB + k) KB
          · rfl
          · have : KB + k < KB := by simpa [Nat.blt_eq] using hq
            omega
        rw [hkb] at hb
        simp only [Bool.not_false, cond_true] at hb
        cases hle : Nat.ble (KB + len) (KB + k) with
        | false => rw [hle] at hb; simp at hb
        | true =>
          rw [hle] at hb
          simp only [cond_true, Option.some.injEq, Prod.mk.injEq] at hb
          obtain ⟨rfl, rfl⟩ := hb
          exact ⟨r, w, _, stay _ _ _ _ (by have := ble0 hle; omega), Fr.refl hr, .slK b o len k M D hlt ho ha⟩
      | slO _ _ _ _ M D hlt ho hKB ha =>
        rw [ho] at hb
        simp only [show Nat.beq 1 0 = false from rfl, cond_false] at hb
        have hkb : Nat.blt cap KB = true := by simpa [Nat.blt_eq] using hKB
        rw [hkb] at hb
        simp only [Bool.not_true, cond_false] at hb
        split at hb
        · rename_i c e2 sz' hg
          cases hc : (Nat.beq sz' ie.size && !(Nat.beq ie.size 0) && Nat.ble ((cap + len) * ie.size) c.length) with
          | false => rw [hc] at hb; simp at hb
          | true =>
            rw [hc] at hb
            simp only [cond_true, Option.some.injEq, Prod.mk.injEq] at hb
            obtain ⟨rfl, rfl⟩ := hb
            simp only [Bool.and_eq_true, Bool.not_eq_true'] at hc
            obtain ⟨⟨c1, c2⟩, c3⟩ := hc
            have c1 := beq0 c1
            have hgr := (hr.objs b _ hg).2.2.2.1 ho
            have hk : cap + len ≤ r.κ b := Nat.le_of_mul_le_mul_right (Nat.le_trans (ble0 c3) (by rw [← c1]; exact hgr.1)) (Nat.pos_of_ne_zero (nbeq0 c2))
            exact ⟨r, w, _, stay _ _ _ _ (by omega), Fr.refl hr, .slO b o len cap M D hlt ho hKB ha⟩
        · cases hl0 : Nat.beq len 0 with
          | false => rw [hl0] at hb; simp at hb
          | true =>
            rw [hl0] at hb
            simp only [cond_true, Option.some.injEq, Prod.mk.injEq] at hb
            obtain ⟨rfl, rfl⟩ := hb
            obtain rfl := beq0 hl0
            exact ⟨r, w, _, stay _ _ _ _ (by omega), Fr.refl hr, .slO b o 0 cap M D hlt ho hKB ha⟩
    · cases hb
  | false =>
    rw [hn] at hb
    simp only [cond_false] at hb
    have hn := nbeq0 hn
    split at hb
    · cases hc : (Nat.ble n 1048576 && Nat.ble ie.bytes 1048576) with
      | false => rw [hc] at hb; simp at hb
      | true =>
        rw [hc] at hb
        simp only [cond_true, Option.some.injEq, Prod.mk.injEq] at hb
        obtain ⟨rfl, rfl⟩ := hb
        simp only [Bool.and_eq_true] at hc
        cases hv with
        | sc v hsc =>
          obtain ⟨K, w', g1, g2⟩ := grow_sim (P := P) (ty := ty) hr hu hi hz hzs (base := none) (len := 0) (cap := 0) (olds := []) (olds' := []) .nil (by simp) (by simp) (run_firstCells_none w.drew ie.size 0 0 0) hS hN (by omega) (by have := ble0 hc.1; omega) (ble0 hc.2)
          simp only [Nat.zero_add, List.nil_append] at g1 g2
          exact ⟨_, w', _, g1, g2, VR.newO hr _ _ _ _⟩
    · rename_i b o len cap
      cases hv with
      | sc v hsc => simp [scalar] at hsc
      | slE _ _ _ _ hlt he =>
        rw [he] at hb
        simp only [Nat.beq_refl, cond_true] at hb
        cases hroom : Nat.ble (len + n) cap with
        | true =>
          rw [hroom] at hb
          simp only [cond_true] at hb
          split at hb
          · rename_i c e2 sz' hg
            cases hc : Nat.ble (o + len * ie.size + news.length) c.length with
            | false => rw [hc] at hb; simp at hb
            | true =>
              rw [hc] at hb
              simp only [cond_true, Option.some.injEq, Prod.mk.injEq] at hb
              obtain ⟨rfl, rfl⟩ := hb
              have hc := ble0 hc
              have hw := hr.write hg hN hS.one hc
              have hrun := room (r.μ b) (o + r.δ b) len cap (ble0 hroom) fun j hj => by
                have := hr.there hg (j := o + len * ie.size + j) (by omega)
                rwa [show o + r.δ b + len * ie.size + j = o + len * ie.size + j + r.δ b by omega]
              rw [show o + r.δ b + len * ie.size = o + len * ie.size + r.δ b by omega] at hrun
              exact ⟨r, _, _, hrun, hw, .slE b o _ cap hlt he⟩
          · cases hb
        | false =>
          rw [hroom] at hb
          simp only [cond_false] at hb
          have hgr : cap < len + n := by
            by_cases hle : len + n ≤ cap
            · rw [Nat.ble_eq_true_of_le hle] at hroom; cases hroom
            · omega
          cases hc : (Nat.ble (len + n) 1048576 && Nat.ble ie.bytes 1048576) with
          | false => rw [hc] at hb; simp at hb
          | true =>
            rw [hc] at hb
            simp only [cond_true] at hb
            simp only [Bool.and_eq_true] at hc
            have old : ∀ olds, (bif Nat.beq len 0 then some (0, []) else srcC P S ie.size ts (.slice (some ⟨b, o, none⟩) len cap)) = some olds → ∃ olds', VRs r olds.2 olds' ∧ (∀ v ∈ olds', v.oneCell' = true) ∧ olds'.length = len * ie.size ∧
                (Builtin.firstCells ie.size len (.slice (some ⟨r.μ b, o + r.δ b, none⟩) len cap)).run P w.drew = .ok olds'.toArray w.drew := fun olds ho => by
              cases hl0 : Nat.beq len 0 with
              | true =>
                rw [hl0] at ho
                simp only [cond_true, Option.some.injEq] at ho
                subst ho
                obtain rfl := beq0 hl0
                exact ⟨[], .nil, by simp, by simp, run_firstCells_some w.drew ie.size 0 _ _ _ [] (by simp) (fun j v hj => by simp at hj)⟩
              | false =>
                rw [hl0] at ho
                simp only [cond_false] at ho
                obtain ⟨on, oc⟩ := olds
                obtain ⟨olds', q1, q2⟩ := srcC_sim hr (VR.slE (r := r) b o len cap hlt he) ho
                have hlen : on = len := by
                  have := q1.len w
                  simp [Builtin.lenOf] at this
                  exact this.symm
                subst hlen
                exact ⟨olds', q2, q1.one, q1.newsLen, q1.cellsD⟩
            cases hold : (bif Nat.beq len 0 then some (0, []) else srcC P S ie.size ts (.slice (some ⟨b, o, none⟩) len cap)) with
            | none => rw [hold] at hb; simp at hb
            | some olds =>
              rw [hold] at hb
              simp only [Option.some.injEq, Prod.mk.injEq] at hb
              obtain ⟨rfl, rfl⟩ := hb
              obtain ⟨olds', q1, q2, q3, q4⟩ := old olds hold
              obtain ⟨K, w', g1, g2⟩ := grow_sim (P := P) (ty := ty) hr hu hi hz hzs q1 q2 q3 q4 hS hN hgr (ble0 hc.1) (ble0 hc.2)
              exact ⟨_, w', _, g1, g2, VR.newO hr _ _ _ _⟩
      | slK _ _ _ k M D hlt ho ha =>
        rw [ho] at hb
        simp only [show Nat.beq 1 0 = false from rfl, cond_false] at hb
        have hkb : Nat.blt (KB + k) KB = false := by
          cases hq : Nat.blt (KB + k) KB
          · rfl
          · have : KB + k < KB := by simpa [Nat.blt_eq] using hq
            omega
        rw [hkb] at hb
        simp only [Bool.not_false, cond_true] at hb
        cases hc : (Nat.blt (KB + k) (KB + len + n) && Nat.ble (len + n) 1048576 && Nat.ble ie.bytes 1048576) with
        | false => rw [hc] at hb; simp at hb
        | true =>
          rw [hc] at hb
          simp only [cond_true] at hb
          simp only [Bool.and_eq_true] at hc
          obtain ⟨⟨c1, c2⟩, c3⟩ := hc
          have c1 : KB + k < KB + len + n := by simpa [Nat.blt_eq] using c1
          have hvr : VR r (.slice (some ⟨b, o, none⟩) len (KB + k)) (.slice (some ⟨M, D, none⟩) len k) := .slK b o len k M D hlt ho ha
          have old : ∀ olds, (bif Nat.beq len 0 then some (0, []) else srcC P S ie.size ts (.slice (some ⟨b, o, none⟩) len (KB + k))) = some olds → ∃ olds', VRs r olds.2 olds' ∧ (∀ v ∈ olds', v.oneCell' = true) ∧ olds'.length = len * ie.size ∧
              (Builtin.firstCells ie.size len (.slice (some ⟨M, D, none⟩) len k)).run P w.drew = .ok olds'.toArray w.drew := fun olds hol => by
            cases hl0 : Nat.beq len 0 with
            | true =>
              rw [hl0] at hol
              simp only [cond_true, Option.some.injEq] at hol
              subst hol
              obtain rfl := beq0 hl0
              exact ⟨[], .nil, by simp, by simp, run_firstCells_some w.drew ie.size 0 _ _ _ [] (by simp) (fun j v hj => by simp at hj)⟩
            | false =>
              rw [hl0] at hol
              simp only [cond_false] at hol
              obtain ⟨on, oc⟩ := olds
              obtain ⟨olds', q1, q2⟩ := srcC_sim hr hvr hol
              have hlen : on = len := by
                have := q1.len w
                simp [Builtin.lenOf] at this
                exact this.symm
              subst hlen
              exact ⟨olds', q2, q1.one, q1.newsLen, q1.cellsD⟩
          cases hold : (bif Nat.beq len 0 then some (0, []) else srcC P S ie.size ts (.slice (some ⟨b, o, none⟩) len (KB + k))) with
          | none => rw [hold] at hb; simp at hb
          | some olds =>
            rw [hold] at hb
            simp only [Option.some.injEq, Prod.mk.injEq] at hb
            obtain ⟨rfl, rfl⟩ := hb
            obtain ⟨olds', q1, q2, q3, q4⟩ := old olds hold
            obtain ⟨K, w', g1, g2⟩ := grow_sim (P := P) (ty := ty) hr hu hi hz hzs q1 q2 q3 q4 hS hN (by omega) (ble0 c2) (ble0 c3)
            exact ⟨_, w', _, g1, g2, VR.newO hr _ _ _ _⟩
      | slO _ _ _ _ M D hlt ho hKB ha =>
        rw [ho] at hb
        simp only [show Nat.beq 1 0 = false from rfl, cond_false] at hb
        have hkb : Nat.blt cap KB = true := by simpa [Nat.blt_eq] using hKB
        rw [hkb] at hb
        simp only [Bool.not_true, cond_false] at hb
        split at hb
        · rename_i c e2 sz' hg
          cases hc : (Nat.beq sz' ie.size && !(Nat.beq ie.size 0) && Nat.beq o (cap * ie.size)) with
          | false => rw [hc] at hb; simp at hb
          | true =>
            rw [hc] at hb
            simp only [cond_true] at hb
            simp only [Bool.and_eq_true, Bool.not_eq_true'] at hc
            obtain ⟨⟨c1, c2⟩, c3⟩ := hc
            obtain rfl := beq0 c1
            have c2 := nbeq0 c2
            have c3 := beq0 c3
            have hpos : 0 < ie.size := Nat.pos_of_ne_zero c2
            have hgr := (hr.objs b _ hg).2.2.2.1 ho
            have hk : ∀ q, q * ie.size ≤ c.length → q ≤ r.κ b := fun q hq => Nat.le_of_mul_le_mul_right (Nat.le_trans hq hgr.1) hpos
            cases hfit : Nat.ble ((cap + (len + n)) * ie.size) c.length with
            | true =>
              rw [hfit] at hb
              simp only [cond_true, Option.some.injEq, Prod.mk.injEq] at hb
              obtain ⟨rfl, rfl⟩ := hb
              have hfit := ble0 hfit
              have hkk := hk _ hfit
              obtain ⟨rfl, rfl⟩ : _ ∧ _ := ha.resolve_right (by omega)
              have hlen : o + len * ie.size + news.length ≤ c.length := by
                rw [c3, hNl, hS.newsLen, ← Nat.add_mul, ← Nat.add_mul]
                rwa [Nat.add_assoc]
              have hw := hr.write hg hN hS.one hlen
              have hrun := room (r.μ b) (o + r.δ b) len (r.κ b - cap) (by omega) fun j hj => by
                have := hr.there hg (j := o + len * ie.size + j) (by omega)
                rwa [show o + r.δ b + len * ie.size + j = o + len * ie.size + j + r.δ b by omega]
              rw [show o + r.δ b + len * ie.size = o + len * ie.size + r.δ b by omega] at hrun
              exact ⟨r, _, _, hrun, hw, .slO b o _ cap _ _ hlt ho hKB (.inl ⟨rfl, rfl⟩)⟩
            | false =>
              rw [hfit] at hb
              simp only [cond_false] at hb
              cases hc4 : (Nat.ble (len + n) 1048576 && Nat.ble ie.bytes 1048576 && Nat.beq e2 e && Nat.ble ((cap + len) * ie.size) c.length) with
              | false => rw [hc4] at hb; simp at hb
              | true =>
                rw [hc4] at hb
                simp only [cond_true, Option.some.injEq, Prod.mk.injEq] at hb
                obtain ⟨rfl, rfl⟩ := hb
                simp only [Bool.and_eq_true] at hc4
                obtain ⟨⟨⟨d1, d2⟩, d3⟩, d4⟩ := hc4
                obtain rfl := beq0 d3
                have d4 := ble0 d4
                have hkk := hk _ d4
                have hol : ((c.drop o).take (len * ie.size)).length = len * ie.size := by
                  rw [Nat.add_mul, ← c3] at d4
                  simp; omega
                obtain ⟨olds', q1, q2, q3⟩ := cells_list hr hg hol
                have q1l : olds'.length = len * ie.size := by rw [← q1.length]; exact hol
                by_cases hcap : len + n ≤ r.κ b - cap
                · obtain ⟨rfl, rfl⟩ : _ ∧ _ := ha.resolve_right (by omega)
                  have hKs : (cap + len + n) * ie.size ≤ r.κ b * ie.size := Nat.mul_le_mul_right _ (by omega)
                  have hrun := room (r.μ b) (o + r.δ b) len (r.κ b - cap) hcap fun j hj => by
                    have := hgr.2 (o + len * ie.size + j) (by
                      rw [hS.newsLen] at hj
                      rw [Nat.add_mul, Nat.add_mul] at hKs
                      omega)
                    rwa [show o + r.δ b + len * ie.size + j = o + len * ie.size + j + r.δ b by omega]
                  have hon := hr.onto hg ho (d := o + r.δ b) (K := r.κ b - cap) (by omega) (by
                      rw [Nat.sub_mul, c3]
                      have : cap * ie.size ≤ r.κ b * ie.size := Nat.mul_le_mul_right _ (by omega)
                      omega) (olds := (c.drop o).take (len * ie.size)) (news := news) (news' := news') (by
                      rw [hol, hNl, hS.newsLen, ← Nat.add_mul]
                      exact Nat.mul_le_mul_right _ hcap) (fun j v hj => by
                        obtain ⟨v', e1, e2⟩ := q1.get hj
                        refine ⟨v', ?_, e2, q3 v' (List.mem_of_getElem? e1)⟩
                        rw [show j + (o + r.δ b) = j + o + r.δ b by omega]
                        exact q2 j v' e1) hN hS.one
                  rw [hol, show len * ie.size + (o + r.δ b) = o + r.δ b + len * ie.size by omega] at hon
                  exact ⟨_, _, _, hrun, hon, VR.newO hr _ _ _ _⟩
                · have hdel := hr.del b
                  obtain ⟨K, w', g1, g2⟩ := grow_sim (P := P) (ty := ty) (base := some ⟨M, D, none⟩) (cap := r.κ b - cap) hdel.rel hu hi hz hzs q1 q3 q1l
                    (run_firstCells_some w.drew ie.size len _ _ _ olds' q1l (fun j v hj => by
                      rw [add_eq]
                      have hjl := (List.getElem?_eq_some_iff.1 hj).1
                      have hl0 : len ≠ 0 := by rintro rfl; omega
                      obtain ⟨rfl, rfl⟩ : _ ∧ _ := ha.resolve_right (by omega)
                      have := q2 j v hj
                      rwa [show o + r.δ b + j = j + o + r.δ b by omega])) hS hN (by omega) (ble0 d1) (ble0 d2)
                  exact ⟨_, w', _, g1, hdel.trans g2, VR.newO hr _ _ _ _⟩
        · cases hb
    · cases hb
end
end Go.Proofs.YtcandpiafgicbaaGreatDoor.Ev
