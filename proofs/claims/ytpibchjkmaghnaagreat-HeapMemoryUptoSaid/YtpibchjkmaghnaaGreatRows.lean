/-
  No cell of these rows narrows 'for every input' (looked for: loops, veiled, ifaces, maps, wideKeys, modest, calm, conditions, laid).
  DERIVED. THE GIVEN ROWS OF THIS SEAT. 5 by the template 'for every input the law returns true; each argument reads behind the call as it read before'; 0 by the template 'total and deterministic' (their statements: YtpibchjkmaghnaaGreatTotals.lean).
  GIVEN WITH THE SEED: the statements are not yours to turn. If you find one false, say at which input.
  Laid BY PROGRAM, IN A SANDBOX (cutbox-rows.mjs): the forced cells as the released guide's own fill.sh prints them over the translation cdb53851c5d5197c… (all of the seat's roots in one cut). By AI agents, Wed Nov 11 2026. No macro, syntax, notation, axiom, sorry.
-/
import Derived.Test.YtpibchjkmaghnaaGreatChecked
import GoSem.Claim
import GoSem.ClaimJoined
import GoSem.ClaimMapViews
import Derived.JoinedTies
import Derived.KernelRfl
namespace Go.Proofs.YtpibchjkmaghnaaGreat
/- THE CELL 'sum', in the pinned program and in every row, IS THE sha256 OF THE DUMP (.gsa) THAT YtpibchjkmaghnaaGreatProg.lean LOADS. Nothing in Lean hashes anything: it is a label: what it is worth is what the hold of that sum in a sandbox is worth. -/
noncomputable def Tryz.pinned : Pinned := { name := "ytpibchjkmaghnaagreat", sum := "cdb53851c5d5197c7e9fd5a7ecd3dffd4b4a55d7dd6cd945182807db0c1f9a12", checked := Tryz.checked }
namespace Rows
def none {H : Type} : Left H := { results := [], args := [] }

/-- 'portagelaw06.HeapArrays': WHATEVER THE INPUT: true; the input reads as it did. -/
def heapArraysSpec : ChangeSpec := { name := "heapArrays", fn := fun _ => fun
  | [d1, d2] => { results := [.lit (.bool true)], args := [d1, d2] }
  | _ => none }
def heapArraysRow : OpenClaim := { program := "ytpibchjkmaghnaagreat", sum := "cdb53851c5d5197c7e9fd5a7ecd3dffd4b4a55d7dd6cd945182807db0c1f9a12", func := "portage/portagelaw06.HeapArrays", spec := "heapArrays", unfollowed := true, recurses := true, apart := false }
def HeapArraysSaid : Prop := heapArraysRow.holds Tryz.pinned (OpenSpec.ofChange heapArraysSpec)

/-- ITS FALSE NEIGHBOUR: 'it returns false'. Refute it at one input. -/
def heapArraysWrong : ChangeSpec := { name := "heapArrays", fn := fun _ => fun
  | [d1, d2] => { results := [.lit (.bool false)], args := [d1, d2] }
  | _ => none }
def HeapArraysWrongFalsely : Prop := heapArraysRow.holds Tryz.pinned (OpenSpec.ofChange heapArraysWrong)

/-- 'portagelaw06.HeapRecords': WHATEVER THE INPUT: true; the input reads as it did. -/
def heapRecordsSpec : ChangeSpec := { name := "heapRecords", fn := fun _ => fun
  | [d1, d2] => { results := [.lit (.bool true)], args := [d1, d2] }
  | _ => none }
def heapRecordsRow : OpenClaim := { program := "ytpibchjkmaghnaagreat", sum := "cdb53851c5d5197c7e9fd5a7ecd3dffd4b4a55d7dd6cd945182807db0c1f9a12", func := "portage/portagelaw06.HeapRecords", spec := "heapRecords", unfollowed := true, recurses := true, apart := false }
def HeapRecordsSaid : Prop := heapRecordsRow.holds Tryz.pinned (OpenSpec.ofChange heapRecordsSpec)

/-- ITS FALSE NEIGHBOUR: 'it returns false'. Refute it at one input. -/
def heapRecordsWrong : ChangeSpec := { name := "heapRecords", fn := fun _ => fun
  | [d1, d2] => { results := [.lit (.bool false)], args := [d1, d2] }
  | _ => none }
def HeapRecordsWrongFalsely : Prop := heapRecordsRow.holds Tryz.pinned (OpenSpec.ofChange heapRecordsWrong)

/-- 'portagelaw06.HeapChans': WHATEVER THE INPUT: true; the input reads as it did. -/
def heapChansSpec : ChangeSpec := { name := "heapChans", fn := fun _ => fun
  | [d1, d2] => { results := [.lit (.bool true)], args := [d1, d2] }
  | _ => none }
def heapChansRow : OpenClaim := { program := "ytpibchjkmaghnaagreat", sum := "cdb53851c5d5197c7e9fd5a7ecd3dffd4b4a55d7dd6cd945182807db0c1f9a12", func := "portage/portagelaw06.HeapChans", spec := "heapChans", unfollowed := true, recurses := true, apart := false }
def HeapChansSaid : Prop := heapChansRow.holds Tryz.pinned (OpenSpec.ofChange heapChansSpec)

/-- ITS FALSE NEIGHBOUR: 'it returns false'. Refute it at one input. -/
def heapChansWrong : ChangeSpec := { name := "heapChans", fn := fun _ => fun
  | [d1, d2] => { results := [.lit (.bool false)], args := [d1, d2] }
  | _ => none }
def HeapChansWrongFalsely : Prop := heapChansRow.holds Tryz.pinned (OpenSpec.ofChange heapChansWrong)

/-- 'portagelaw06.HeapCalls': WHATEVER THE INPUT: true; the input reads as it did. -/
def heapCallsSpec : ChangeSpec := { name := "heapCalls", fn := fun _ => fun
  | [d1, d2, d3] => { results := [.lit (.bool true)], args := [d1, d2, d3] }
  | _ => none }
def heapCallsRow : OpenClaim := { program := "ytpibchjkmaghnaagreat", sum := "cdb53851c5d5197c7e9fd5a7ecd3dffd4b4a55d7dd6cd945182807db0c1f9a12", func := "portage/portagelaw06.HeapCalls", spec := "heapCalls", unfollowed := true, recurses := true, apart := false }
def HeapCallsSaid : Prop := heapCallsRow.holds Tryz.pinned (OpenSpec.ofChange heapCallsSpec)

/-- ITS FALSE NEIGHBOUR: 'it returns false'. Refute it at one input. -/
def heapCallsWrong : ChangeSpec := { name := "heapCalls", fn := fun _ => fun
  | [d1, d2, d3] => { results := [.lit (.bool false)], args := [d1, d2, d3] }
  | _ => none }
def HeapCallsWrongFalsely : Prop := heapCallsRow.holds Tryz.pinned (OpenSpec.ofChange heapCallsWrong)

/-- 'portagelaw06.HeapMemory': WHATEVER THE INPUT: true; the input reads as it did. -/
def heapMemorySpec : ChangeSpec := { name := "heapMemory", fn := fun _ => fun
  | [d1, d2] => { results := [.lit (.bool true)], args := [d1, d2] }
  | _ => none }
def heapMemoryRow : OpenClaim := { program := "ytpibchjkmaghnaagreat", sum := "cdb53851c5d5197c7e9fd5a7ecd3dffd4b4a55d7dd6cd945182807db0c1f9a12", func := "portage/portagelaw06.HeapMemory", spec := "heapMemory", unfollowed := true, recurses := true, apart := false }
def HeapMemorySaid : Prop := heapMemoryRow.holds Tryz.pinned (OpenSpec.ofChange heapMemorySpec)

/-- ITS FALSE NEIGHBOUR: 'it returns false'. Refute it at one input. -/
def heapMemoryWrong : ChangeSpec := { name := "heapMemory", fn := fun _ => fun
  | [d1, d2] => { results := [.lit (.bool false)], args := [d1, d2] }
  | _ => none }
def HeapMemoryWrongFalsely : Prop := heapMemoryRow.holds Tryz.pinned (OpenSpec.ofChange heapMemoryWrong)

/- THE SECOND FORM. 'bulk': how many values and letters a reading holds, each counted each time it is reached (what is shared counts as often as it is met; a slice's spare places count too). A statement '..UptoSaid' is the law's where the arguments, and the package variables that the reading takes, are together of bulk at most 1048576: NARROWER than '..Said'. Prove '..Said' where nothing that the law and all that it calls make is longer than what came in: it says more and counts as full. Else prove '..UptoSaid'. A law counts once. -/
mutual
def uptoBulk {H : Type} : DataW H → Nat
  | .lit (.string bytes) => bytes.length + 1
  | .lit _ => 1
  | .nil => 1
  | .ptr d => uptoBulk d + 1
  | .slice elems spare => uptoBulkAll elems + uptoBulkAll spare + 1
  | .agg parts => uptoBulkAll parts + 1
  | .iface _ d => uptoBulk d + 1
  | .map entries => uptoBulkEntries entries + 1
  | .held _ => 1
def uptoBulkAll {H : Type} : List (DataW H) → Nat
  | [] => 0
  | d :: r => uptoBulk d + uptoBulkAll r
def uptoBulkEntries {H : Type} : List (Lit × DataW H) → Nat
  | [] => 0
  | x :: r => uptoBulkEntry x + uptoBulkEntries r
def uptoBulkEntry {H : Type} : Lit × DataW H → Nat
  | (.string bytes, d) => bytes.length + uptoBulk d + 1
  | (_, d) => uptoBulk d + 1
 end
def uptoSmall : (H : Type) → List (DataW H) → Bool := fun _ ds => decide (uptoBulkAll ds ≤ 1048576)
def OpenSpec.upto (s : _root_.Go.ChangeSpec) : _root_.Go.OpenSpec := { _root_.Go.OpenSpec.ofChange s with cond := some uptoSmall }

/-- 'portagelaw06.HeapArrays', WHERE WHAT IT READS IS OF BULK AT MOST 1048576: true; the input reads as it did. -/
def heapArraysUptoRow : OpenClaim := { program := "ytpibchjkmaghnaagreat", sum := "cdb53851c5d5197c7e9fd5a7ecd3dffd4b4a55d7dd6cd945182807db0c1f9a12", func := "portage/portagelaw06.HeapArrays", spec := "heapArrays", unfollowed := true, recurses := true, apart := false, narrowed := true }
def HeapArraysUptoSaid : Prop := heapArraysUptoRow.holds Tryz.pinned (OpenSpec.upto heapArraysSpec)

/-- 'portagelaw06.HeapRecords', WHERE WHAT IT READS IS OF BULK AT MOST 1048576: true; the input reads as it did. -/
def heapRecordsUptoRow : OpenClaim := { program := "ytpibchjkmaghnaagreat", sum := "cdb53851c5d5197c7e9fd5a7ecd3dffd4b4a55d7dd6cd945182807db0c1f9a12", func := "portage/portagelaw06.HeapRecords", spec := "heapRecords", unfollowed := true, recurses := true, apart := false, narrowed := true }
def HeapRecordsUptoSaid : Prop := heapRecordsUptoRow.holds Tryz.pinned (OpenSpec.upto heapRecordsSpec)

/-- 'portagelaw06.HeapChans', WHERE WHAT IT READS IS OF BULK AT MOST 1048576: true; the input reads as it did. -/
def heapChansUptoRow : OpenClaim := { program := "ytpibchjkmaghnaagreat", sum := "cdb53851c5d5197c7e9fd5a7ecd3dffd4b4a55d7dd6cd945182807db0c1f9a12", func := "portage/portagelaw06.HeapChans", spec := "heapChans", unfollowed := true, recurses := true, apart := false, narrowed := true }
def HeapChansUptoSaid : Prop := heapChansUptoRow.holds Tryz.pinned (OpenSpec.upto heapChansSpec)

/-- 'portagelaw06.HeapCalls', WHERE WHAT IT READS IS OF BULK AT MOST 1048576: true; the input reads as it did. -/
def heapCallsUptoRow : OpenClaim := { program := "ytpibchjkmaghnaagreat", sum := "cdb53851c5d5197c7e9fd5a7ecd3dffd4b4a55d7dd6cd945182807db0c1f9a12", func := "portage/portagelaw06.HeapCalls", spec := "heapCalls", unfollowed := true, recurses := true, apart := false, narrowed := true }
def HeapCallsUptoSaid : Prop := heapCallsUptoRow.holds Tryz.pinned (OpenSpec.upto heapCallsSpec)

/-- 'portagelaw06.HeapMemory', WHERE WHAT IT READS IS OF BULK AT MOST 1048576: true; the input reads as it did. -/
def heapMemoryUptoRow : OpenClaim := { program := "ytpibchjkmaghnaagreat", sum := "cdb53851c5d5197c7e9fd5a7ecd3dffd4b4a55d7dd6cd945182807db0c1f9a12", func := "portage/portagelaw06.HeapMemory", spec := "heapMemory", unfollowed := true, recurses := true, apart := false, narrowed := true }
def HeapMemoryUptoSaid : Prop := heapMemoryUptoRow.holds Tryz.pinned (OpenSpec.upto heapMemorySpec)

end Rows
end Go.Proofs.YtpibchjkmaghnaaGreat
