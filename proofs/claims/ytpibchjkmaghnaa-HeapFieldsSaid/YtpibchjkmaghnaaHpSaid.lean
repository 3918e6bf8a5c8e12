/- What a call answered: as data, and in memory. -/
import Derived.Test.YtpibchjkmaghnaaHpObject
import Derived.Test.YtpibchjkmaghnaaHpOps
import Derived.Test.YtpibchjkmaghnaaSetM
namespace Go.Proofs.Ytpibchjkmaghnaa
open Go.RowKit Go.Mm
set_option maxHeartbeats 4000000
set_option maxRecDepth 100000
structure Sd where
  v : V2
  n : Int
  trap : Int
  ok : Bool
  ob : Ob
  list : List Int
def sd0 : Sd := ⟨(0, 0), 0, 0, false, ob0, []⟩
/-- An answer's cells. -/
def sC (v1 v2 n trap : Int) (ok : Bool) (k : Int) (A : Option Addr) (m c : Nat) (KA : Option Addr) (kn kc : Nat) (fn cap : Int) (sh : Bool) (LA : Option Addr) (ln lc : Nat) : List Value :=
  [.int .i64 v1, .int .i64 v2, .int .i64 n, .int .i64 trap, .bool ok, .int .i64 k, .slice A m c, .slice KA kn kc, .int .i64 fn, .int .i64 cap, .bool sh, .slice LA ln lc]
theorem sC_one (v1 v2 n trap : Int) (ok : Bool) (k : Int) (A : Option Addr) (m c : Nat) (KA : Option Addr) (kn kc : Nat) (fn cap : Int) (sh : Bool) (LA : Option Addr) (ln lc : Nat) : One (sC v1 v2 n trap ok k A m c KA kn kc fn cap sh LA ln lc) := fun u hu => by
  simp [sC] at hu
  rcases hu with rfl | rfl | rfl | rfl | rfl | rfl | rfl | rfl | rfl | rfl | rfl | rfl <;> rfl
theorem sz_S : (Try.prog.info? 84).map (·.size) = some 12 := by kernel_rfl
theorem row_S : (Try.prog.underlying 84).map (·.isRow) = some true := by kernel_rfl
theorem sz_HO : (Try.prog.info? 32).map (·.size) = some 9 := by kernel_rfl
theorem row_HO : (Try.prog.underlying 32).map (·.isRow) = some true := by kernel_rfl
theorem sz_int : (Try.prog.info? 3).map (·.size) = some 1 := by kernel_rfl
theorem sz_i64 : (Try.prog.info? 2).map (·.size) = some 1 := by kernel_rfl
theorem sz_bool : (Try.prog.info? 4).map (·.size) = some 1 := by kernel_rfl
theorem sz_ints : (Try.prog.info? 55).map (·.size) = some 1 := by kernel_rfl
def sdC (s : Sd) (A : Option Addr) (c : Nat) (K : Option Addr) (k : Nat) (LA : Option Addr) (lc : Nat) : List Value := sC s.v.1 s.v.2 s.n s.trap s.ok s.ob.kind A s.ob.items.length c K s.ob.keys.length k s.ob.fn s.ob.cap s.ob.shut LA s.list.length lc
def SdQ (w0 : World) (L : List Chunk) (s : Sd) (v : Value) (w : World) : Prop := ∃ A c K k LA lc, v = .agg (sdC s A c K k LA lc).toArray ∧ Mem w0 w (Own 2 (.slice A s.ob.items.length c) (fV s.ob.items) :: Own 1 (.slice K s.ob.keys.length k) (nums .i64 s.ob.keys) :: Own 1 (.slice LA s.list.length lc) (nums .i64 s.list) :: L)
/-- An answer without an object and without a list. -/
def sdV (v : V2) (n trap : Int) (ok : Bool) : Sd := ⟨v, n, trap, ok, ob0, []⟩
theorem SdQ.plain {w0 w : World} {L : List Chunk} (v1 v2 n trap : Int) (ok : Bool) (hm : Mem w0 w L) : SdQ w0 L (sdV (v1, v2) n trap ok) (.agg (sC v1 v2 n trap ok 0 none 0 0 none 0 0 0 0 false none 0 0).toArray) w :=
  ⟨none, 0, none, 0, none, 0, rfl, Mem.nil (Mem.nil (Mem.nil hm 1 none) 1 none) 2 none⟩
/-- What a call on a heap leaves: its answer and the heap. -/
def AskQ (w0 : World) (L : List Chunk) (g : Nat) (s : Hs) (r : Sd) (v : Value) (w : World) : Prop := ∃ h : Hp, h.g = g ∧ h.abs = s ∧ h.Ok ∧ SdQ w0 (HpC h :: L) r v w
/-- What a call that makes an object answers. -/
def Hs.makeV (s : Hs) (may : Bool) (n k : Int) : Sd := match may && s.room n with | true => sdV (k, s.objs.length) 0 0 true | false => sdV (0, 0) 0 0 false
theorem makeR_parts (s : Hs) (may : Bool) (n k : Int) : ∃ a b c, s.makeR may n k = .tuple #[.agg #[.int .i64 a, .int .i64 b], .bool c] ∧ s.makeV may n k = sdV (a, b) 0 0 c := by
  unfold Hs.makeR Hs.makeV
  cases may && s.room n
  · exact ⟨_, _, _, rfl, rfl⟩
  · exact ⟨_, _, _, rfl, rfl⟩
end Go.Proofs.Ytpibchjkmaghnaa
