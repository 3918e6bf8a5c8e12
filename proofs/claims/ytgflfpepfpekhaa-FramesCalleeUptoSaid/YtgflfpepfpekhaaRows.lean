/-
  No cell of these rows narrows 'for every input' (looked for: loops, veiled, ifaces, maps, wideKeys, modest, calm, conditions, laid).
  DERIVED. THE GIVEN ROWS OF THIS SEAT. 10 by the template 'for every input the law returns true; each argument reads behind the call as it read before'; 0 by the template 'total and deterministic' (their statements: YtgflfpepfpekhaaTotals.lean).
  GIVEN WITH THE SEED: the statements are not yours to turn. If you find one false, say at which input.
  Laid BY PROGRAM, IN A SANDBOX (cutbox-rows.mjs): the forced cells as the released guide's own fill.sh prints them over the translation e1d6426e194f3adc… (all of the seat's roots in one cut). By AI agents, Wed Nov 11 2026. No macro, syntax, notation, axiom, sorry.
-/
import Derived.Test.YtgflfpepfpekhaaChecked
import GoSem.Claim
import GoSem.ClaimJoined
import GoSem.ClaimMapViews
import Derived.JoinedTies
import Derived.KernelRfl
namespace Go.Proofs.Ytgflfpepfpekhaa
/- THE CELL 'sum', in the pinned program and in every row, IS THE sha256 OF THE DUMP (.gsa) THAT YtgflfpepfpekhaaProg.lean LOADS. Nothing in Lean hashes anything: it is a label: what it is worth is what the hold of that sum in a sandbox is worth. -/
noncomputable def Try.pinned : Pinned := { name := "ytgflfpepfpekhaa", sum := "e1d6426e194f3adcfa0c888ad690c5d5821a2a93e5f99fa458294dc25cfb607a", checked := Try.checked }
namespace Rows
def none {H : Type} : Left H := { results := [], args := [] }

/-- 'portagelaw14.FramesEnter': WHATEVER THE INPUT: true; the input reads as it did. -/
def framesEnterSpec : ChangeSpec := { name := "framesEnter", fn := fun _ => fun
  | [d1, d2, d3] => { results := [.lit (.bool true)], args := [d1, d2, d3] }
  | _ => none }
def framesEnterRow : OpenClaim := { program := "ytgflfpepfpekhaa", sum := "e1d6426e194f3adcfa0c888ad690c5d5821a2a93e5f99fa458294dc25cfb607a", func := "portage/portagelaw14.FramesEnter", spec := "framesEnter", apart := false }
def FramesEnterSaid : Prop := framesEnterRow.holds Try.pinned (OpenSpec.ofChange framesEnterSpec)

/-- ITS FALSE NEIGHBOUR: 'it returns false'. Refute it at one input. -/
def framesEnterWrong : ChangeSpec := { name := "framesEnter", fn := fun _ => fun
  | [d1, d2, d3] => { results := [.lit (.bool false)], args := [d1, d2, d3] }
  | _ => none }
def FramesEnterWrongFalsely : Prop := framesEnterRow.holds Try.pinned (OpenSpec.ofChange framesEnterWrong)

/-- 'portagelaw14.FramesReturn': WHATEVER THE INPUT: true; the input reads as it did. -/
def framesReturnSpec : ChangeSpec := { name := "framesReturn", fn := fun _ => fun
  | [d1, d2, d3] => { results := [.lit (.bool true)], args := [d1, d2, d3] }
  | _ => none }
def framesReturnRow : OpenClaim := { program := "ytgflfpepfpekhaa", sum := "e1d6426e194f3adcfa0c888ad690c5d5821a2a93e5f99fa458294dc25cfb607a", func := "portage/portagelaw14.FramesReturn", spec := "framesReturn", apart := false }
def FramesReturnSaid : Prop := framesReturnRow.holds Try.pinned (OpenSpec.ofChange framesReturnSpec)

/-- ITS FALSE NEIGHBOUR: 'it returns false'. Refute it at one input. -/
def framesReturnWrong : ChangeSpec := { name := "framesReturn", fn := fun _ => fun
  | [d1, d2, d3] => { results := [.lit (.bool false)], args := [d1, d2, d3] }
  | _ => none }
def FramesReturnWrongFalsely : Prop := framesReturnRow.holds Try.pinned (OpenSpec.ofChange framesReturnWrong)

/-- 'portagelaw14.FramesStack': WHATEVER THE INPUT: true; the input reads as it did. -/
def framesStackSpec : ChangeSpec := { name := "framesStack", fn := fun _ => fun
  | [d] => { results := [.lit (.bool true)], args := [d] }
  | _ => none }
def framesStackRow : OpenClaim := { program := "ytgflfpepfpekhaa", sum := "e1d6426e194f3adcfa0c888ad690c5d5821a2a93e5f99fa458294dc25cfb607a", func := "portage/portagelaw14.FramesStack", spec := "framesStack", apart := false }
def FramesStackSaid : Prop := framesStackRow.holds Try.pinned (OpenSpec.ofChange framesStackSpec)

/-- ITS FALSE NEIGHBOUR: 'it returns false'. Refute it at one input. -/
def framesStackWrong : ChangeSpec := { name := "framesStack", fn := fun _ => fun
  | [d] => { results := [.lit (.bool false)], args := [d] }
  | _ => none }
def FramesStackWrongFalsely : Prop := framesStackRow.holds Try.pinned (OpenSpec.ofChange framesStackWrong)

/-- 'portagelaw14.FramesBalance': WHATEVER THE INPUT: true; the input reads as it did. -/
def framesBalanceSpec : ChangeSpec := { name := "framesBalance", fn := fun _ => fun
  | [d1, d2, d3] => { results := [.lit (.bool true)], args := [d1, d2, d3] }
  | _ => none }
def framesBalanceRow : OpenClaim := { program := "ytgflfpepfpekhaa", sum := "e1d6426e194f3adcfa0c888ad690c5d5821a2a93e5f99fa458294dc25cfb607a", func := "portage/portagelaw14.FramesBalance", spec := "framesBalance", apart := false }
def FramesBalanceSaid : Prop := framesBalanceRow.holds Try.pinned (OpenSpec.ofChange framesBalanceSpec)

/-- ITS FALSE NEIGHBOUR: 'it returns false'. Refute it at one input. -/
def framesBalanceWrong : ChangeSpec := { name := "framesBalance", fn := fun _ => fun
  | [d1, d2, d3] => { results := [.lit (.bool false)], args := [d1, d2, d3] }
  | _ => none }
def FramesBalanceWrongFalsely : Prop := framesBalanceRow.holds Try.pinned (OpenSpec.ofChange framesBalanceWrong)

/-- 'portagelaw14.FramesCatch': WHATEVER THE INPUT: true; the input reads as it did. -/
def framesCatchSpec : ChangeSpec := { name := "framesCatch", fn := fun _ => fun
  | [d1, d2, d3] => { results := [.lit (.bool true)], args := [d1, d2, d3] }
  | _ => none }
def framesCatchRow : OpenClaim := { program := "ytgflfpepfpekhaa", sum := "e1d6426e194f3adcfa0c888ad690c5d5821a2a93e5f99fa458294dc25cfb607a", func := "portage/portagelaw14.FramesCatch", spec := "framesCatch", apart := false }
def FramesCatchSaid : Prop := framesCatchRow.holds Try.pinned (OpenSpec.ofChange framesCatchSpec)

/-- ITS FALSE NEIGHBOUR: 'it returns false'. Refute it at one input. -/
def framesCatchWrong : ChangeSpec := { name := "framesCatch", fn := fun _ => fun
  | [d1, d2, d3] => { results := [.lit (.bool false)], args := [d1, d2, d3] }
  | _ => none }
def FramesCatchWrongFalsely : Prop := framesCatchRow.holds Try.pinned (OpenSpec.ofChange framesCatchWrong)

/-- 'portagelaw14.FramesUnwind': WHATEVER THE INPUT: true; the input reads as it did. -/
def framesUnwindSpec : ChangeSpec := { name := "framesUnwind", fn := fun _ => fun
  | [d1, d2, d3] => { results := [.lit (.bool true)], args := [d1, d2, d3] }
  | _ => none }
def framesUnwindRow : OpenClaim := { program := "ytgflfpepfpekhaa", sum := "e1d6426e194f3adcfa0c888ad690c5d5821a2a93e5f99fa458294dc25cfb607a", func := "portage/portagelaw14.FramesUnwind", spec := "framesUnwind", apart := false }
def FramesUnwindSaid : Prop := framesUnwindRow.holds Try.pinned (OpenSpec.ofChange framesUnwindSpec)

/-- ITS FALSE NEIGHBOUR: 'it returns false'. Refute it at one input. -/
def framesUnwindWrong : ChangeSpec := { name := "framesUnwind", fn := fun _ => fun
  | [d1, d2, d3] => { results := [.lit (.bool false)], args := [d1, d2, d3] }
  | _ => none }
def FramesUnwindWrongFalsely : Prop := framesUnwindRow.holds Try.pinned (OpenSpec.ofChange framesUnwindWrong)

/-- 'portagelaw14.FramesWhere': WHATEVER THE INPUT: true; the input reads as it did. -/
def framesWhereSpec : ChangeSpec := { name := "framesWhere", fn := fun _ => fun
  | [d1, d2, d3] => { results := [.lit (.bool true)], args := [d1, d2, d3] }
  | _ => none }
def framesWhereRow : OpenClaim := { program := "ytgflfpepfpekhaa", sum := "e1d6426e194f3adcfa0c888ad690c5d5821a2a93e5f99fa458294dc25cfb607a", func := "portage/portagelaw14.FramesWhere", spec := "framesWhere", apart := false }
def FramesWhereSaid : Prop := framesWhereRow.holds Try.pinned (OpenSpec.ofChange framesWhereSpec)

/-- ITS FALSE NEIGHBOUR: 'it returns false'. Refute it at one input. -/
def framesWhereWrong : ChangeSpec := { name := "framesWhere", fn := fun _ => fun
  | [d1, d2, d3] => { results := [.lit (.bool false)], args := [d1, d2, d3] }
  | _ => none }
def FramesWhereWrongFalsely : Prop := framesWhereRow.holds Try.pinned (OpenSpec.ofChange framesWhereWrong)

/-- 'portagelaw14.FramesRound': WHATEVER THE INPUT: true; the input reads as it did. -/
def framesRoundSpec : ChangeSpec := { name := "framesRound", fn := fun _ => fun
  | [d1, d2, d3] => { results := [.lit (.bool true)], args := [d1, d2, d3] }
  | _ => none }
def framesRoundRow : OpenClaim := { program := "ytgflfpepfpekhaa", sum := "e1d6426e194f3adcfa0c888ad690c5d5821a2a93e5f99fa458294dc25cfb607a", func := "portage/portagelaw14.FramesRound", spec := "framesRound", apart := false }
def FramesRoundSaid : Prop := framesRoundRow.holds Try.pinned (OpenSpec.ofChange framesRoundSpec)

/-- ITS FALSE NEIGHBOUR: 'it returns false'. Refute it at one input. -/
def framesRoundWrong : ChangeSpec := { name := "framesRound", fn := fun _ => fun
  | [d1, d2, d3] => { results := [.lit (.bool false)], args := [d1, d2, d3] }
  | _ => none }
def FramesRoundWrongFalsely : Prop := framesRoundRow.holds Try.pinned (OpenSpec.ofChange framesRoundWrong)

/-- 'portagelaw14.FramesKinds': WHATEVER THE INPUT: true; the input reads as it did. -/
def framesKindsSpec : ChangeSpec := { name := "framesKinds", fn := fun _ => fun
  | [d] => { results := [.lit (.bool true)], args := [d] }
  | _ => none }
def framesKindsRow : OpenClaim := { program := "ytgflfpepfpekhaa", sum := "e1d6426e194f3adcfa0c888ad690c5d5821a2a93e5f99fa458294dc25cfb607a", func := "portage/portagelaw14.FramesKinds", spec := "framesKinds", apart := false }
def FramesKindsSaid : Prop := framesKindsRow.holds Try.pinned (OpenSpec.ofChange framesKindsSpec)

/-- ITS FALSE NEIGHBOUR: 'it returns false'. Refute it at one input. -/
def framesKindsWrong : ChangeSpec := { name := "framesKinds", fn := fun _ => fun
  | [d] => { results := [.lit (.bool false)], args := [d] }
  | _ => none }
def FramesKindsWrongFalsely : Prop := framesKindsRow.holds Try.pinned (OpenSpec.ofChange framesKindsWrong)

/-- 'portagelaw14.FramesCallee': WHATEVER THE INPUT: true; the input reads as it did. -/
def framesCalleeSpec : ChangeSpec := { name := "framesCallee", fn := fun _ => fun
  | [d1, d2] => { results := [.lit (.bool true)], args := [d1, d2] }
  | _ => none }
def framesCalleeRow : OpenClaim := { program := "ytgflfpepfpekhaa", sum := "e1d6426e194f3adcfa0c888ad690c5d5821a2a93e5f99fa458294dc25cfb607a", func := "portage/portagelaw14.FramesCallee", spec := "framesCallee", unfollowed := true, recurses := true, apart := false }
def FramesCalleeSaid : Prop := framesCalleeRow.holds Try.pinned (OpenSpec.ofChange framesCalleeSpec)

/-- ITS FALSE NEIGHBOUR: 'it returns false'. Refute it at one input. -/
def framesCalleeWrong : ChangeSpec := { name := "framesCallee", fn := fun _ => fun
  | [d1, d2] => { results := [.lit (.bool false)], args := [d1, d2] }
  | _ => none }
def FramesCalleeWrongFalsely : Prop := framesCalleeRow.holds Try.pinned (OpenSpec.ofChange framesCalleeWrong)

/- THE SECOND FORM. 'bulk': how many values and letters a reading holds, each counted each time it is reached (what is shared counts as often as it is met; a slice's spare places count too). A statement '..UptoSaid' is the law's where the arguments, and the package variables that the reading takes, are together of bulk at most 1048576: NARROWER than '..Said'. Prove '..Said' where nothing that the law and all that it calls make is longer than what came in: it says more and counts as full. Else prove '..UptoSaid'. A law counts once. -/
mutual
def uptoBulk {H : Type} : DataW H → Nat
  | .lit (.string bytes) => bytes.length + 1
  | .lit _ => 1
  | .nil => 1
  | .ptr d => uptoBulk d + 1
  | .slice elems spare => uptoBulkAll elems + uptoBulkAll spare + 1
  | .agg parts => uptoBulkAll parts + 1
  | .iface _ d => uptoBulk d + 1
  | .map entries => uptoBulkEntries entries + 1
  | .held _ => 1
def uptoBulkAll {H : Type} : List (DataW H) → Nat
  | [] => 0
  | d :: r => uptoBulk d + uptoBulkAll r
def uptoBulkEntries {H : Type} : List (Lit × DataW H) → Nat
  | [] => 0
  | x :: r => uptoBulkEntry x + uptoBulkEntries r
def uptoBulkEntry {H : Type} : Lit × DataW H → Nat
  | (.string bytes, d) => bytes.length + uptoBulk d + 1
  | (_, d) => uptoBulk d + 1
 end
def uptoSmall : (H : Type) → List (DataW H) → Bool := fun _ ds => decide (uptoBulkAll ds ≤ 1048576)
def OpenSpec.upto (s : _root_.Go.ChangeSpec) : _root_.Go.OpenSpec := { _root_.Go.OpenSpec.ofChange s with cond := some uptoSmall }

/-- 'portagelaw14.FramesEnter', WHERE WHAT IT READS IS OF BULK AT MOST 1048576: true; the input reads as it did. -/
def framesEnterUptoRow : OpenClaim := { program := "ytgflfpepfpekhaa", sum := "e1d6426e194f3adcfa0c888ad690c5d5821a2a93e5f99fa458294dc25cfb607a", func := "portage/portagelaw14.FramesEnter", spec := "framesEnter", apart := false, narrowed := true }
def FramesEnterUptoSaid : Prop := framesEnterUptoRow.holds Try.pinned (OpenSpec.upto framesEnterSpec)

/-- 'portagelaw14.FramesReturn', WHERE WHAT IT READS IS OF BULK AT MOST 1048576: true; the input reads as it did. -/
def framesReturnUptoRow : OpenClaim := { program := "ytgflfpepfpekhaa", sum := "e1d6426e194f3adcfa0c888ad690c5d5821a2a93e5f99fa458294dc25cfb607a", func := "portage/portagelaw14.FramesReturn", spec := "framesReturn", apart := false, narrowed := true }
def FramesReturnUptoSaid : Prop := framesReturnUptoRow.holds Try.pinned (OpenSpec.upto framesReturnSpec)

/-- 'portagelaw14.FramesStack', WHERE WHAT IT READS IS OF BULK AT MOST 1048576: true; the input reads as it did. -/
def framesStackUptoRow : OpenClaim := { program := "ytgflfpepfpekhaa", sum := "e1d6426e194f3adcfa0c888ad690c5d5821a2a93e5f99fa458294dc25cfb607a", func := "portage/portagelaw14.FramesStack", spec := "framesStack", apart := false, narrowed := true }
def FramesStackUptoSaid : Prop := framesStackUptoRow.holds Try.pinned (OpenSpec.upto framesStackSpec)

/-- 'portagelaw14.FramesBalance', WHERE WHAT IT READS IS OF BULK AT MOST 1048576: true; the input reads as it did. -/
def framesBalanceUptoRow : OpenClaim := { program := "ytgflfpepfpekhaa", sum := "e1d6426e194f3adcfa0c888ad690c5d5821a2a93e5f99fa458294dc25cfb607a", func := "portage/portagelaw14.FramesBalance", spec := "framesBalance", apart := false, narrowed := true }
def FramesBalanceUptoSaid : Prop := framesBalanceUptoRow.holds Try.pinned (OpenSpec.upto framesBalanceSpec)

/-- 'portagelaw14.FramesCatch', WHERE WHAT IT READS IS OF BULK AT MOST 1048576: true; the input reads as it did. -/
def framesCatchUptoRow : OpenClaim := { program := "ytgflfpepfpekhaa", sum := "e1d6426e194f3adcfa0c888ad690c5d5821a2a93e5f99fa458294dc25cfb607a", func := "portage/portagelaw14.FramesCatch", spec := "framesCatch", apart := false, narrowed := true }
def FramesCatchUptoSaid : Prop := framesCatchUptoRow.holds Try.pinned (OpenSpec.upto framesCatchSpec)

/-- 'portagelaw14.FramesUnwind', WHERE WHAT IT READS IS OF BULK AT MOST 1048576: true; the input reads as it did. -/
def framesUnwindUptoRow : OpenClaim := { program := "ytgflfpepfpekhaa", sum := "e1d6426e194f3adcfa0c888ad690c5d5821a2a93e5f99fa458294dc25cfb607a", func := "portage/portagelaw14.FramesUnwind", spec := "framesUnwind", apart := false, narrowed := true }
def FramesUnwindUptoSaid : Prop := framesUnwindUptoRow.holds Try.pinned (OpenSpec.upto framesUnwindSpec)

/-- 'portagelaw14.FramesWhere', WHERE WHAT IT READS IS OF BULK AT MOST 1048576: true; the input reads as it did. -/
def framesWhereUptoRow : OpenClaim := { program := "ytgflfpepfpekhaa", sum := "e1d6426e194f3adcfa0c888ad690c5d5821a2a93e5f99fa458294dc25cfb607a", func := "portage/portagelaw14.FramesWhere", spec := "framesWhere", apart := false, narrowed := true }
def FramesWhereUptoSaid : Prop := framesWhereUptoRow.holds Try.pinned (OpenSpec.upto framesWhereSpec)

/-- 'portagelaw14.FramesRound', WHERE WHAT IT READS IS OF BULK AT MOST 1048576: true; the input reads as it did. -/
def framesRoundUptoRow : OpenClaim := { program := "ytgflfpepfpekhaa", sum := "e1d6426e194f3adcfa0c888ad690c5d5821a2a93e5f99fa458294dc25cfb607a", func := "portage/portagelaw14.FramesRound", spec := "framesRound", apart := false, narrowed := true }
def FramesRoundUptoSaid : Prop := framesRoundUptoRow.holds Try.pinned (OpenSpec.upto framesRoundSpec)

/-- 'portagelaw14.FramesKinds', WHERE WHAT IT READS IS OF BULK AT MOST 1048576: true; the input reads as it did. -/
def framesKindsUptoRow : OpenClaim := { program := "ytgflfpepfpekhaa", sum := "e1d6426e194f3adcfa0c888ad690c5d5821a2a93e5f99fa458294dc25cfb607a", func := "portage/portagelaw14.FramesKinds", spec := "framesKinds", apart := false, narrowed := true }
def FramesKindsUptoSaid : Prop := framesKindsUptoRow.holds Try.pinned (OpenSpec.upto framesKindsSpec)

/-- 'portagelaw14.FramesCallee', WHERE WHAT IT READS IS OF BULK AT MOST 1048576: true; the input reads as it did. -/
def framesCalleeUptoRow : OpenClaim := { program := "ytgflfpepfpekhaa", sum := "e1d6426e194f3adcfa0c888ad690c5d5821a2a93e5f99fa458294dc25cfb607a", func := "portage/portagelaw14.FramesCallee", spec := "framesCallee", unfollowed := true, recurses := true, apart := false, narrowed := true }
def FramesCalleeUptoSaid : Prop := framesCalleeUptoRow.holds Try.pinned (OpenSpec.upto framesCalleeSpec)

end Rows
end Go.Proofs.Ytgflfpepfpekhaa
