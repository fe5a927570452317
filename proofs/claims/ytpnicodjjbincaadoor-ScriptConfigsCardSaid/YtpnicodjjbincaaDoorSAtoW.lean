/- What the library reads; the contract of strconv.Atoi. -/
import Derived.Test.YtpnicodjjbincaaDoorSParW
import Derived.Lib.AtoiErrMem
namespace Go.Proofs.YtpnicodjjbincaaDoor
open Go.RowKit
set_option linter.unusedVariables false
set_option maxHeartbeats 4000000
set_option maxRecDepth 100000
theorem var_later {w w' : World} {name : String} {cs : Array Value} (h : w.var? Tryd.prog name = some cs) (m : Mod (fun _ => False) w w') : w'.var? Tryd.prog name = some cs := by
  unfold World.var? at *
  cases hg : Tryd.prog.globalNamed name with
  | none => simp [hg] at h
  | some g =>
    simp only [hg, Option.bind_some] at h ⊢
    have hlt : g < w.heap.size := by
      rcases Nat.lt_or_ge g w.heap.size with h' | h'
      · exact h'
      · rw [Array.getElem?_eq_none h'] at h; simp at h
    rw [m.block g hlt (fun e => e)]
    exact h
/-- What the library's functions read. -/
structure Env (w : World) : Prop where
  pow : Pow w
  maxl : MaxL w
  syn : ∃ tp p, w.var? Tryd.prog "strconv.ErrSyntax" = some #[.iface tp p]
  ran : ∃ tp p, w.var? Tryd.prog "strconv.ErrRange" = some #[.iface tp p]
theorem Env.later {w w' : World} (h : Env w) (m : Mod (fun _ => False) w w') : Env w' := by
  obtain ⟨h1, h2, ⟨t1, p1, h3⟩, ⟨t2, p2, h4⟩⟩ := h
  exact ⟨h1.later m, h2.later m, ⟨t1, p1, var_later h3 m⟩, ⟨t2, p2, var_later h4 m⟩⟩
theorem atoiW (s : ByteArray) (hs : s.size ≤ 1000000) (w : World) (E : Env w) :
    Calls Tryd.prog 28 #[.string s] w fun e w' => (∃ err, e = .returned (.tuple #[.int .i64 (atoiV s.data.toList), err])) ∧ Mod (fun _ => False) w w' := by
  unfold atoiV
  obtain ⟨t1, p1, h3⟩ := E.syn
  obtain ⟨t2, p2, h4⟩ := E.ran
  rcases h : Lib.atoiAll s.data.toList with v | _ | _
  · refine (Tryd.strconv_Atoi_ok s (by omega) v h w).mono ?_
    rintro e w' ⟨rfl, rfl | ⟨t, rfl⟩⟩
    · exact ⟨⟨_, rfl⟩, Mod.refl _ _⟩
    · exact ⟨⟨_, rfl⟩, Mod.ofBelow (Lib.bytesWorld_below _ _ _)⟩
  · refine (Tryd.strconv_Atoi_bad_var s (by omega) h t1 p1 w h3).mono ?_
    rintro e w' hx
    obtain ⟨N, rfl, h5, h6, h7⟩ := hx
    exact ⟨⟨_, rfl⟩, Mod.ofBelow h7⟩
  · refine (Tryd.strconv_Atoi_range_var s (by omega) h t2 p2 w h4).mono ?_
    rintro e w' hx
    obtain ⟨N, rfl, h5, h6, h7⟩ := hx
    exact ⟨⟨_, rfl⟩, Mod.ofBelow h7⟩
end Go.Proofs.YtpnicodjjbincaaDoor
