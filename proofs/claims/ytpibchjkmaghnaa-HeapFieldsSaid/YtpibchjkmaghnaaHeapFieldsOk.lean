/- HeapFields: the contract in the form's words. -/
import Derived.Test.YtpibchjkmaghnaaHeapFields
namespace Go.Proofs.Ytpibchjkmaghnaa
open Go.RowKit Go.Mm Go.WideShapes Go.ChangeShapes
set_option maxRecDepth 100000
section
variable {H : Type} {enc : TypeId × Value → H} {w : World}
theorem hel_HOw (fuel : Nat) (cs : List Value) (d : DataW H) (ps : List MemPlace) (h : DataW.trod enc Try.prog w 0 (fun _ => true) true fuel 32 cs = some (d, ps)) : ∃ x, cs = cHO x ∧ (Lit.int .i64 x.I).wf = true := by
  obtain ⟨xs, n, rfl, hl, hx, hi⟩ := open_struct fl_HO h
  rw [co_HO] at hl
  obtain ⟨a, b, c, e, f, g, x, y, z, rfl⟩ := list9 hl
  obtain ⟨⟨d1, p1⟩, ⟨d2, p2⟩, ⟨d3, p3⟩, ⟨d4, p4⟩, ⟨d5, p5⟩, ⟨d6, p6⟩, ⟨d7, p7⟩, rfl⟩ := list7 hx
  have h1 := hi 0 _ _ rfl
  have h2 := hi 1 _ _ rfl
  have h3 := hi 2 _ _ rfl
  have h4 := hi 3 _ _ rfl
  have h5 := hi 4 _ _ rfl
  have h6 := hi 5 _ _ rfl
  have h7 := hi 6 _ _ rfl
  rw [co_int] at h1 h2 h6
  rw [co_V] at h3 h4
  rw [co_i64] at h5
  rw [co_Vs] at h7
  obtain ⟨x1, rfl, _⟩ := open_i ty_int h1
  obtain ⟨x2, rfl, _⟩ := open_i ty_int h2
  obtain ⟨x3, e3, _⟩ := hel_V _ _ _ _ h3
  obtain ⟨x4, e4, _⟩ := hel_V _ _ _ _ h4
  obtain ⟨x5, rfl, _, hw⟩ := open_i ty_i64 h5
  obtain ⟨x6, rfl, _⟩ := open_i ty_int h6
  obtain ⟨A, m, k, zs, e7, _, _, _⟩ := open_cells (cV) (fun _ _ => True) 2 (by omega) ty_Vs co_V (fun x => ⟨cV_len x, cV_one x⟩) hel_V h7
  replace e3 : [c, e] = cV x3 := e3
  replace e4 : [f, g] = cV x4 := e4
  replace e7 : [z] = [.slice A m k] := e7
  simp only [cV, List.cons.injEq, and_true] at e3 e4 e7
  obtain ⟨rfl, rfl⟩ := e3
  obtain ⟨rfl, rfl⟩ := e4
  subst e7
  exact ⟨⟨x1, x2, x3, x4, x5, x6, A, m, k, zs⟩, rfl, hw⟩
end
theorem heapFields_ok (H : Type) (enc : TypeId × Value → H) (W : World) (base : Nat)
    (v0 : Value) (d0 : DataW H) (p0 : List MemPlace) (_h0 : DataW.Trod enc Try.prog W 0 (fun _ => true) true 3 v0 d0 p0) (ok0 : Value.okWide Try.prog W .any base 3 v0)
    (v1 : Value) (d1 : DataW H) (p1 : List MemPlace) (h1 : DataW.Trod enc Try.prog W 0 (fun _ => true) true 22 v1 d1 p1) (ok1 : Value.okWide Try.prog W .any base 22 v1) :
    Calls Try.prog 5 #[v0, v1] W fun e w' => e = .returned (.bool true) ∧ Gr W w' := by
  obtain ⟨x, rfl⟩ := okWide_int ty_int ok0
  obtain ⟨A, n, c, ops, rfl, hr, hl, hd⟩ := open_list cHO (fun _ x => (Lit.int .i64 x.I).wf = true) 9 (by omega) ty_HOs co_HO (fun x => ⟨cHO_len x, cHO_one x⟩) hel_HOw h1 ok1
  have hn : n ≤ maxLen := by
    obtain ⟨_, _, _, e, _, h2, h3, _⟩ := hr
    cases e
    omega
  exact fields_walk W x A n c ops ⟨hr⟩ (fun x hx => (cells_each hd hx).elim fun y hy => hy.1) hn
end Go.Proofs.Ytpibchjkmaghnaa
