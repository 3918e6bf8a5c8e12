/- HeapFirst: the contract in the form's words. -/
import Derived.Test.YtpibchjkmaghnaaHeapFirst
namespace Go.Proofs.Ytpibchjkmaghnaa
open Go.RowKit Go.Mm Go.WideShapes Go.ChangeShapes
set_option maxRecDepth 100000
theorem heapFirst_ok (H : Type) (enc : TypeId × Value → H) (W : World) (base : Nat)
    (v0 : Value) (d0 : DataW H) (p0 : List MemPlace) (_h0 : DataW.Trod enc Try.prog W 0 (fun _ => true) true 3 v0 d0 p0) (ok0 : Value.okWide Try.prog W .any base 3 v0)
    (v1 : Value) (d1 : DataW H) (p1 : List MemPlace) (h1 : DataW.Trod enc Try.prog W 0 (fun _ => true) true 22 v1 d1 p1) (ok1 : Value.okWide Try.prog W .any base 22 v1) :
    Calls Try.prog 3 #[v0, v1] W fun e w' => e = .returned (.bool true) ∧ Gr W w' := by
  obtain ⟨x, rfl⟩ := okWide_int ty_int ok0
  obtain ⟨A, n, c, ops, rfl, hr, _, _⟩ := open_hops h1 ok1
  have hn : n ≤ maxLen := by
    obtain ⟨_, _, _, e, _, h2, h3, _⟩ := hr
    cases e
    omega
  exact first_walk W x A n c ops ⟨hr⟩ hn
end Go.Proofs.Ytpibchjkmaghnaa
