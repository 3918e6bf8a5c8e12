/-
  No cell of these rows narrows 'for every input' (looked for: loops, veiled, ifaces, maps, wideKeys, modest, calm, conditions, laid).
  DERIVED. THE GIVEN ROWS OF THIS SEAT. 9 by the template 'for every input the law returns true; each argument reads behind the call as it read before'; 0 by the template 'total and deterministic' (their statements: YtpibchjkmaghnaaTotals.lean).
  GIVEN WITH THE SEED: the statements are not yours to turn. If you find one false, say at which input.
  Laid BY PROGRAM, IN A SANDBOX (cutbox-rows.mjs): the forced cells as the released guide's own fill.sh prints them over the translation 41139d53456b443d… (all of the seat's roots in one cut). By AI agents, Wed Nov 11 2026. No macro, syntax, notation, axiom, sorry.
-/
import Derived.Test.YtpibchjkmaghnaaChecked
import GoSem.Claim
import GoSem.ClaimJoined
import GoSem.ClaimMapViews
import Derived.JoinedTies
import Derived.KernelRfl
namespace Go.Proofs.Ytpibchjkmaghnaa
/- THE CELL 'sum', in the pinned program and in every row, IS THE sha256 OF THE DUMP (.gsa) THAT YtpibchjkmaghnaaProg.lean LOADS. Nothing in Lean hashes anything: it is a label: what it is worth is what the hold of that sum in a sandbox is worth. -/
noncomputable def Try.pinned : Pinned := { name := "ytpibchjkmaghnaa", sum := "41139d53456b443da7477269114ddf6f3e7546f8d4ac5a0f9dd7363a5716d18e", checked := Try.checked }
namespace Rows
def none {H : Type} : Left H := { results := [], args := [] }

/-- 'portagelaw06.HeapFirst': WHATEVER THE INPUT: true; the input reads as it did. -/
def heapFirstSpec : ChangeSpec := { name := "heapFirst", fn := fun _ => fun
  | [d1, d2] => { results := [.lit (.bool true)], args := [d1, d2] }
  | _ => none }
def heapFirstRow : OpenClaim := { program := "ytpibchjkmaghnaa", sum := "41139d53456b443da7477269114ddf6f3e7546f8d4ac5a0f9dd7363a5716d18e", func := "portage/portagelaw06.HeapFirst", spec := "heapFirst", unfollowed := true, recurses := true, apart := false }
def HeapFirstSaid : Prop := heapFirstRow.holds Try.pinned (OpenSpec.ofChange heapFirstSpec)

/-- ITS FALSE NEIGHBOUR: 'it returns false'. Refute it at one input. -/
def heapFirstWrong : ChangeSpec := { name := "heapFirst", fn := fun _ => fun
  | [d1, d2] => { results := [.lit (.bool false)], args := [d1, d2] }
  | _ => none }
def HeapFirstWrongFalsely : Prop := heapFirstRow.holds Try.pinned (OpenSpec.ofChange heapFirstWrong)

/-- 'portagelaw06.HeapLoad': WHATEVER THE INPUT: true; the input reads as it did. -/
def heapLoadSpec : ChangeSpec := { name := "heapLoad", fn := fun _ => fun
  | [d] => { results := [.lit (.bool true)], args := [d] }
  | _ => none }
def heapLoadRow : OpenClaim := { program := "ytpibchjkmaghnaa", sum := "41139d53456b443da7477269114ddf6f3e7546f8d4ac5a0f9dd7363a5716d18e", func := "portage/portagelaw06.HeapLoad", spec := "heapLoad", unfollowed := true, recurses := true, apart := false }
def HeapLoadSaid : Prop := heapLoadRow.holds Try.pinned (OpenSpec.ofChange heapLoadSpec)

/-- ITS FALSE NEIGHBOUR: 'it returns false'. Refute it at one input. -/
def heapLoadWrong : ChangeSpec := { name := "heapLoad", fn := fun _ => fun
  | [d] => { results := [.lit (.bool false)], args := [d] }
  | _ => none }
def HeapLoadWrongFalsely : Prop := heapLoadRow.holds Try.pinned (OpenSpec.ofChange heapLoadWrong)

/-- 'portagelaw06.HeapFields': WHATEVER THE INPUT: true; the input reads as it did. -/
def heapFieldsSpec : ChangeSpec := { name := "heapFields", fn := fun _ => fun
  | [d1, d2] => { results := [.lit (.bool true)], args := [d1, d2] }
  | _ => none }
def heapFieldsRow : OpenClaim := { program := "ytpibchjkmaghnaa", sum := "41139d53456b443da7477269114ddf6f3e7546f8d4ac5a0f9dd7363a5716d18e", func := "portage/portagelaw06.HeapFields", spec := "heapFields", unfollowed := true, recurses := true, apart := false }
def HeapFieldsSaid : Prop := heapFieldsRow.holds Try.pinned (OpenSpec.ofChange heapFieldsSpec)

/-- ITS FALSE NEIGHBOUR: 'it returns false'. Refute it at one input. -/
def heapFieldsWrong : ChangeSpec := { name := "heapFields", fn := fun _ => fun
  | [d1, d2] => { results := [.lit (.bool false)], args := [d1, d2] }
  | _ => none }
def HeapFieldsWrongFalsely : Prop := heapFieldsRow.holds Try.pinned (OpenSpec.ofChange heapFieldsWrong)

/-- 'portagelaw06.HeapReach': WHATEVER THE INPUT: true; the input reads as it did. -/
def heapReachSpec : ChangeSpec := { name := "heapReach", fn := fun _ => fun
  | [d1, d2, d3] => { results := [.lit (.bool true)], args := [d1, d2, d3] }
  | _ => none }
def heapReachRow : OpenClaim := { program := "ytpibchjkmaghnaa", sum := "41139d53456b443da7477269114ddf6f3e7546f8d4ac5a0f9dd7363a5716d18e", func := "portage/portagelaw06.HeapReach", spec := "heapReach", unfollowed := true, recurses := true, apart := false }
def HeapReachSaid : Prop := heapReachRow.holds Try.pinned (OpenSpec.ofChange heapReachSpec)

/-- ITS FALSE NEIGHBOUR: 'it returns false'. Refute it at one input. -/
def heapReachWrong : ChangeSpec := { name := "heapReach", fn := fun _ => fun
  | [d1, d2, d3] => { results := [.lit (.bool false)], args := [d1, d2, d3] }
  | _ => none }
def HeapReachWrongFalsely : Prop := heapReachRow.holds Try.pinned (OpenSpec.ofChange heapReachWrong)

/-- 'portagelaw06.HeapMet': WHATEVER THE INPUT: true; the input reads as it did. -/
def heapMetSpec : ChangeSpec := { name := "heapMet", fn := fun _ => fun
  | [d1, d2, d3] => { results := [.lit (.bool true)], args := [d1, d2, d3] }
  | _ => none }
def heapMetRow : OpenClaim := { program := "ytpibchjkmaghnaa", sum := "41139d53456b443da7477269114ddf6f3e7546f8d4ac5a0f9dd7363a5716d18e", func := "portage/portagelaw06.HeapMet", spec := "heapMet", unfollowed := true, recurses := true, apart := false }
def HeapMetSaid : Prop := heapMetRow.holds Try.pinned (OpenSpec.ofChange heapMetSpec)

/-- ITS FALSE NEIGHBOUR: 'it returns false'. Refute it at one input. -/
def heapMetWrong : ChangeSpec := { name := "heapMet", fn := fun _ => fun
  | [d1, d2, d3] => { results := [.lit (.bool false)], args := [d1, d2, d3] }
  | _ => none }
def HeapMetWrongFalsely : Prop := heapMetRow.holds Try.pinned (OpenSpec.ofChange heapMetWrong)

/-- 'portagelaw06.HeapEdges': WHATEVER THE INPUT: true; the input reads as it did. -/
def heapEdgesSpec : ChangeSpec := { name := "heapEdges", fn := fun _ => fun
  | [] => { results := [.lit (.bool true)], args := [] }
  | _ => none }
def heapEdgesRow : OpenClaim := { program := "ytpibchjkmaghnaa", sum := "41139d53456b443da7477269114ddf6f3e7546f8d4ac5a0f9dd7363a5716d18e", func := "portage/portagelaw06.HeapEdges", spec := "heapEdges", unfollowed := true, recurses := true, apart := false }
def HeapEdgesSaid : Prop := heapEdgesRow.holds Try.pinned (OpenSpec.ofChange heapEdgesSpec)

/-- ITS FALSE NEIGHBOUR: 'it returns false'. Refute it at one input. -/
def heapEdgesWrong : ChangeSpec := { name := "heapEdges", fn := fun _ => fun
  | [] => { results := [.lit (.bool false)], args := [] }
  | _ => none }
def HeapEdgesWrongFalsely : Prop := heapEdgesRow.holds Try.pinned (OpenSpec.ofChange heapEdgesWrong)

/-- 'portagelaw06.HeapMakes': WHATEVER THE INPUT: true; the input reads as it did. -/
def heapMakesSpec : ChangeSpec := { name := "heapMakes", fn := fun _ => fun
  | [d1, d2, d3] => { results := [.lit (.bool true)], args := [d1, d2, d3] }
  | _ => none }
def heapMakesRow : OpenClaim := { program := "ytpibchjkmaghnaa", sum := "41139d53456b443da7477269114ddf6f3e7546f8d4ac5a0f9dd7363a5716d18e", func := "portage/portagelaw06.HeapMakes", spec := "heapMakes", unfollowed := true, recurses := true, apart := false }
def HeapMakesSaid : Prop := heapMakesRow.holds Try.pinned (OpenSpec.ofChange heapMakesSpec)

/-- ITS FALSE NEIGHBOUR: 'it returns false'. Refute it at one input. -/
def heapMakesWrong : ChangeSpec := { name := "heapMakes", fn := fun _ => fun
  | [d1, d2, d3] => { results := [.lit (.bool false)], args := [d1, d2, d3] }
  | _ => none }
def HeapMakesWrongFalsely : Prop := heapMakesRow.holds Try.pinned (OpenSpec.ofChange heapMakesWrong)

/-- 'portagelaw06.HeapPays': WHATEVER THE INPUT: true; the input reads as it did. -/
def heapPaysSpec : ChangeSpec := { name := "heapPays", fn := fun _ => fun
  | [d1, d2] => { results := [.lit (.bool true)], args := [d1, d2] }
  | _ => none }
def heapPaysRow : OpenClaim := { program := "ytpibchjkmaghnaa", sum := "41139d53456b443da7477269114ddf6f3e7546f8d4ac5a0f9dd7363a5716d18e", func := "portage/portagelaw06.HeapPays", spec := "heapPays", unfollowed := true, recurses := true, apart := false }
def HeapPaysSaid : Prop := heapPaysRow.holds Try.pinned (OpenSpec.ofChange heapPaysSpec)

/-- ITS FALSE NEIGHBOUR: 'it returns false'. Refute it at one input. -/
def heapPaysWrong : ChangeSpec := { name := "heapPays", fn := fun _ => fun
  | [d1, d2] => { results := [.lit (.bool false)], args := [d1, d2] }
  | _ => none }
def HeapPaysWrongFalsely : Prop := heapPaysRow.holds Try.pinned (OpenSpec.ofChange heapPaysWrong)

/-- 'portagelaw06.HeapStill': WHATEVER THE INPUT: true; the input reads as it did. -/
def heapStillSpec : ChangeSpec := { name := "heapStill", fn := fun _ => fun
  | [d1, d2, d3] => { results := [.lit (.bool true)], args := [d1, d2, d3] }
  | _ => none }
def heapStillRow : OpenClaim := { program := "ytpibchjkmaghnaa", sum := "41139d53456b443da7477269114ddf6f3e7546f8d4ac5a0f9dd7363a5716d18e", func := "portage/portagelaw06.HeapStill", spec := "heapStill", unfollowed := true, recurses := true, apart := false }
def HeapStillSaid : Prop := heapStillRow.holds Try.pinned (OpenSpec.ofChange heapStillSpec)

/-- ITS FALSE NEIGHBOUR: 'it returns false'. Refute it at one input. -/
def heapStillWrong : ChangeSpec := { name := "heapStill", fn := fun _ => fun
  | [d1, d2, d3] => { results := [.lit (.bool false)], args := [d1, d2, d3] }
  | _ => none }
def HeapStillWrongFalsely : Prop := heapStillRow.holds Try.pinned (OpenSpec.ofChange heapStillWrong)

/- THE SECOND FORM. 'bulk': how many values and letters a reading holds, each counted each time it is reached (what is shared counts as often as it is met; a slice's spare places count too). A statement '..UptoSaid' is the law's where the arguments, and the package variables that the reading takes, are together of bulk at most 1048576: NARROWER than '..Said'. Prove '..Said' where nothing that the law and all that it calls make is longer than what came in: it says more and counts as full. Else prove '..UptoSaid'. A law counts once. -/
mutual
def uptoBulk {H : Type} : DataW H → Nat
  | .lit (.string bytes) => bytes.length + 1
  | .lit _ => 1
  | .nil => 1
  | .ptr d => uptoBulk d + 1
  | .slice elems spare => uptoBulkAll elems + uptoBulkAll spare + 1
  | .agg parts => uptoBulkAll parts + 1
  | .iface _ d => uptoBulk d + 1
  | .map entries => uptoBulkEntries entries + 1
  | .held _ => 1
def uptoBulkAll {H : Type} : List (DataW H) → Nat
  | [] => 0
  | d :: r => uptoBulk d + uptoBulkAll r
def uptoBulkEntries {H : Type} : List (Lit × DataW H) → Nat
  | [] => 0
  | x :: r => uptoBulkEntry x + uptoBulkEntries r
def uptoBulkEntry {H : Type} : Lit × DataW H → Nat
  | (.string bytes, d) => bytes.length + uptoBulk d + 1
  | (_, d) => uptoBulk d + 1
 end
def uptoSmall : (H : Type) → List (DataW H) → Bool := fun _ ds => decide (uptoBulkAll ds ≤ 1048576)
def OpenSpec.upto (s : _root_.Go.ChangeSpec) : _root_.Go.OpenSpec := { _root_.Go.OpenSpec.ofChange s with cond := some uptoSmall }

/-- 'portagelaw06.HeapFirst', WHERE WHAT IT READS IS OF BULK AT MOST 1048576: true; the input reads as it did. -/
def heapFirstUptoRow : OpenClaim := { program := "ytpibchjkmaghnaa", sum := "41139d53456b443da7477269114ddf6f3e7546f8d4ac5a0f9dd7363a5716d18e", func := "portage/portagelaw06.HeapFirst", spec := "heapFirst", unfollowed := true, recurses := true, apart := false, narrowed := true }
def HeapFirstUptoSaid : Prop := heapFirstUptoRow.holds Try.pinned (OpenSpec.upto heapFirstSpec)

/-- 'portagelaw06.HeapLoad', WHERE WHAT IT READS IS OF BULK AT MOST 1048576: true; the input reads as it did. -/
def heapLoadUptoRow : OpenClaim := { program := "ytpibchjkmaghnaa", sum := "41139d53456b443da7477269114ddf6f3e7546f8d4ac5a0f9dd7363a5716d18e", func := "portage/portagelaw06.HeapLoad", spec := "heapLoad", unfollowed := true, recurses := true, apart := false, narrowed := true }
def HeapLoadUptoSaid : Prop := heapLoadUptoRow.holds Try.pinned (OpenSpec.upto heapLoadSpec)

/-- 'portagelaw06.HeapFields', WHERE WHAT IT READS IS OF BULK AT MOST 1048576: true; the input reads as it did. -/
def heapFieldsUptoRow : OpenClaim := { program := "ytpibchjkmaghnaa", sum := "41139d53456b443da7477269114ddf6f3e7546f8d4ac5a0f9dd7363a5716d18e", func := "portage/portagelaw06.HeapFields", spec := "heapFields", unfollowed := true, recurses := true, apart := false, narrowed := true }
def HeapFieldsUptoSaid : Prop := heapFieldsUptoRow.holds Try.pinned (OpenSpec.upto heapFieldsSpec)

/-- 'portagelaw06.HeapReach', WHERE WHAT IT READS IS OF BULK AT MOST 1048576: true; the input reads as it did. -/
def heapReachUptoRow : OpenClaim := { program := "ytpibchjkmaghnaa", sum := "41139d53456b443da7477269114ddf6f3e7546f8d4ac5a0f9dd7363a5716d18e", func := "portage/portagelaw06.HeapReach", spec := "heapReach", unfollowed := true, recurses := true, apart := false, narrowed := true }
def HeapReachUptoSaid : Prop := heapReachUptoRow.holds Try.pinned (OpenSpec.upto heapReachSpec)

/-- 'portagelaw06.HeapMet', WHERE WHAT IT READS IS OF BULK AT MOST 1048576: true; the input reads as it did. -/
def heapMetUptoRow : OpenClaim := { program := "ytpibchjkmaghnaa", sum := "41139d53456b443da7477269114ddf6f3e7546f8d4ac5a0f9dd7363a5716d18e", func := "portage/portagelaw06.HeapMet", spec := "heapMet", unfollowed := true, recurses := true, apart := false, narrowed := true }
def HeapMetUptoSaid : Prop := heapMetUptoRow.holds Try.pinned (OpenSpec.upto heapMetSpec)

/-- 'portagelaw06.HeapEdges', WHERE WHAT IT READS IS OF BULK AT MOST 1048576: true; the input reads as it did. -/
def heapEdgesUptoRow : OpenClaim := { program := "ytpibchjkmaghnaa", sum := "41139d53456b443da7477269114ddf6f3e7546f8d4ac5a0f9dd7363a5716d18e", func := "portage/portagelaw06.HeapEdges", spec := "heapEdges", unfollowed := true, recurses := true, apart := false, narrowed := true }
def HeapEdgesUptoSaid : Prop := heapEdgesUptoRow.holds Try.pinned (OpenSpec.upto heapEdgesSpec)

/-- 'portagelaw06.HeapMakes', WHERE WHAT IT READS IS OF BULK AT MOST 1048576: true; the input reads as it did. -/
def heapMakesUptoRow : OpenClaim := { program := "ytpibchjkmaghnaa", sum := "41139d53456b443da7477269114ddf6f3e7546f8d4ac5a0f9dd7363a5716d18e", func := "portage/portagelaw06.HeapMakes", spec := "heapMakes", unfollowed := true, recurses := true, apart := false, narrowed := true }
def HeapMakesUptoSaid : Prop := heapMakesUptoRow.holds Try.pinned (OpenSpec.upto heapMakesSpec)

/-- 'portagelaw06.HeapPays', WHERE WHAT IT READS IS OF BULK AT MOST 1048576: true; the input reads as it did. -/
def heapPaysUptoRow : OpenClaim := { program := "ytpibchjkmaghnaa", sum := "41139d53456b443da7477269114ddf6f3e7546f8d4ac5a0f9dd7363a5716d18e", func := "portage/portagelaw06.HeapPays", spec := "heapPays", unfollowed := true, recurses := true, apart := false, narrowed := true }
def HeapPaysUptoSaid : Prop := heapPaysUptoRow.holds Try.pinned (OpenSpec.upto heapPaysSpec)

/-- 'portagelaw06.HeapStill', WHERE WHAT IT READS IS OF BULK AT MOST 1048576: true; the input reads as it did. -/
def heapStillUptoRow : OpenClaim := { program := "ytpibchjkmaghnaa", sum := "41139d53456b443da7477269114ddf6f3e7546f8d4ac5a0f9dd7363a5716d18e", func := "portage/portagelaw06.HeapStill", spec := "heapStill", unfollowed := true, recurses := true, apart := false, narrowed := true }
def HeapStillUptoSaid : Prop := heapStillUptoRow.holds Try.pinned (OpenSpec.upto heapStillSpec)

end Rows
end Go.Proofs.Ytpibchjkmaghnaa
