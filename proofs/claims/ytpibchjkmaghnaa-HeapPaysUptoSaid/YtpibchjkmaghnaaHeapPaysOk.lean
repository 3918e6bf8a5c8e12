/- HeapPays: the contract in the form's words. -/
import Derived.Test.YtpibchjkmaghnaaHeapPays
namespace Go.Proofs.Ytpibchjkmaghnaa
open Go.RowKit Go.Mm Go.WideShapes Go.ChangeShapes
set_option maxRecDepth 100000
theorem heapPays_ok (H : Type) (enc : TypeId × Value → H) (W : World) (base : Nat)
    (v0 : Value) (d0 : DataW H) (p0 : List MemPlace) (_h0 : DataW.Trod enc Try.prog W 0 (fun _ => true) true 3 v0 d0 p0) (ok0 : Value.okWide Try.prog W .any base 3 v0)
    (v1 : Value) (d1 : DataW H) (p1 : List MemPlace) (h1 : DataW.Trod enc Try.prog W 0 (fun _ => true) true 22 v1 d1 p1) (ok1 : Value.okWide Try.prog W .any base 22 v1) (hk : Rows.uptoSmall H ([d0] ++ ([d1] ++ [])) = true) :
    Calls Try.prog 10 #[v0, v1] W fun e w' => e = .returned (.bool true) ∧ Gr W w' := by
  have hb := bulk_small hk
  simp only [Rows.uptoBulkAll, List.cons_append, List.nil_append] at hb
  obtain ⟨x, rfl⟩ := okWide_int ty_int ok0
  obtain ⟨A, n, c, ops, rfl, hr, hi, hl⟩ := open_hops h1 ok1
  exact pays_walk W x A n c ops ⟨hr⟩ (fun x hx => ⟨(hi x hx).1, by have := (hi x hx).2; omega⟩) (by omega)
end Go.Proofs.Ytpibchjkmaghnaa
