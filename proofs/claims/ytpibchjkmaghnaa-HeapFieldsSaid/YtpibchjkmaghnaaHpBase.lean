/- The heap's objects: as data, where they lie, and how an interface's methods are called. -/
import Derived.Test.YtpibchjkmaghnaaHpVals
import Derived.Test.YtpibchjkmaghnaaCutw
import Derived.Test.YtpibchjkmaghnaaMk
import Derived.Maps.Own
import Derived.Maps.Views
import Derived.WalkSpells
import Derived.StillTail
import Derived.StillTailTactics
namespace Go.Mm
open Go.RowKit
abbrev Disj (l : List Chunk) : Prop := l.Pairwise fun (c d : Chunk) => ∀ k : Nat, c.foot k → ¬ d.foot k
/-- Many chunks seen as one. -/
def Chunk.all (l : List Chunk) : Chunk :=
  ⟨fun k => ∃ c, c ∈ l ∧ c.foot k, fun w => (∀ c, c ∈ l → c.ok w) ∧ Disj l,
    fun w w' h hw => ⟨fun c hc => c.loc w w' (fun k hk => h k ⟨c, hc, hk⟩) (hw.1 c hc), hw.2⟩⟩
theorem Mem.opn {w0 w : World} {l L : List Chunk} (h : Mem w0 w (Chunk.all l :: L)) : Mem w0 w (l ++ L) := by
  have hd := List.pairwise_cons.1 h.dis
  have ho := h.ok _ m0
  refine ⟨h.below, fun c hc => ?_, fun c hc k hk => ?_, List.pairwise_append.2 ⟨ho.2, hd.2, fun c hc d hd' k hk => hd.1 d hd' k ⟨c, hc, hk⟩⟩⟩
  · rcases List.mem_append.1 hc with hc | hc
    · exact ho.1 c hc
    · exact h.ok c (.tail _ hc)
  · rcases List.mem_append.1 hc with hc | hc
    · exact h.rng _ m0 k ⟨c, hc, hk⟩
    · exact h.rng c (.tail _ hc) k hk
theorem Mem.sht {w0 w : World} {L : List Chunk} (l : List Chunk) (h : Mem w0 w (l ++ L)) : Mem w0 w (Chunk.all l :: L) := by
  have hd := List.pairwise_append.1 h.dis
  refine ⟨h.below, fun c hc => ?_, fun c hc k hk => ?_, List.pairwise_cons.2 ⟨fun d hd' k hk => ?_, hd.2.1⟩⟩
  · rcases List.mem_cons.1 hc with rfl | hc
    · exact ⟨fun c hc => h.ok c (List.mem_append_left _ hc), hd.1⟩
    · exact h.ok c (List.mem_append_right _ hc)
  · rcases List.mem_cons.1 hc with rfl | hc
    · obtain ⟨c, hc, hk⟩ := hk
      exact h.rng c (List.mem_append_left _ hc) k hk
    · exact h.rng c (List.mem_append_right _ hc) k hk
  · obtain ⟨c, hc, hk⟩ := hk
    exact hd.2.2 c hc d hd' k hk
theorem Chunk.all_mem {l : List Chunk} {w : World} (h : (Chunk.all l).ok w) {c : Chunk} (hc : c ∈ l) : c.ok w := h.1 c hc
/-- What a chunk of a memory says, of one inside it. -/
theorem Mem.in_all {w0 w : World} {L l : List Chunk} (h : Mem w0 w L) (hm : Chunk.all l ∈ L) {c : Chunk} (hc : c ∈ l) : c.ok w := (h.ok _ hm).1 c hc
/-- Chunk number i pulled to the front; put back, changed. -/
theorem perm_pull {α : Type} (l : List α) (i : Nat) (x : α) (h : l[i]? = some x) : l.Perm (x :: (l.take i ++ l.drop (i + 1))) := by
  obtain ⟨hi, rfl⟩ := List.getElem?_eq_some_iff.1 h
  conv => lhs; rw [← List.take_append_drop i l, List.drop_eq_getElem_cons hi]
  exact List.perm_middle
theorem perm_back {α : Type} (l : List α) (i : Nat) (hi : i < l.length) (y : α) : (y :: (l.take i ++ l.drop (i + 1))).Perm (l.set i y) := by
  rw [List.set_eq_take_append_cons_drop, if_pos hi]
  exact List.perm_middle.symm
end Go.Mm
namespace Go.Proofs.Ytpibchjkmaghnaa
open Go.RowKit Go.Mm
set_option maxHeartbeats 1000000
set_option maxRecDepth 100000
/-- An object as data. -/
structure Ob where
  kind : Int
  items : List V2
  keys : List Int
  fn : Int
  cap : Int
  shut : Bool
def ob0 : Ob := ⟨0, [], [], 0, 0, false⟩
/-- Where a thing lies. -/
structure Th where
  g : Nat
  A : Option Addr
  n : Nat
  c : Nat
  KA : Option Addr
  kn : Nat
  kc : Nat
  mp : Option Nat
  ob : Ob
/-- The block of a map of places, if there is one: number i stands at key number i. -/
def mapOk (mp : Option Nat) (ks : List Int) (w : World) : Prop :=
  match mp with
  | none => ks = []
  | some b => ∃ D : DataW Unit, w.ownsMap Try.prog 2 (plainElem Try.prog 3) b ks.length D ∧ Maps.Tidy D ∧ ∀ key : Int, (Lit.int .i64 key).wf = true → ∀ z, D.atKey (.int .i64 key) z = match ks.idxOf? key with | some i => .lit (.int .i64 (i : Nat)) | none => z
def MapC (mp : Option Nat) (ks : List Int) : Chunk :=
  ⟨fun k => mp = some k, mapOk mp ks, fun w w' h hw => by
    cases mp with
    | none => exact hw
    | some b =>
      obtain ⟨D, ⟨es, clock, hb, F, hs, hD⟩, hT, ha⟩ := hw
      exact ⟨D, ⟨es, clock, by rw [h b rfl]; exact hb, F, hs, hD⟩, hT, ha⟩⟩
/-- A thing's type, by its kind. -/
def thTy (k : Int) : TypeId := if k = 6 then 104 else if k = 7 then 107 else if k = 8 then 145 else 95
def thEl (k : Int) : TypeId := if k = 6 then 106 else if k = 7 then 110 else if k = 8 then 147 else 97
def Th.cells (t : Th) : List Value :=
  if t.ob.kind = 6 then [.slice t.A t.n t.c]
  else if t.ob.kind = 7 then [.slice t.KA t.kn t.kc, .slice t.A t.n t.c, .map t.mp]
  else if t.ob.kind = 8 then [.int .i64 t.ob.fn, .slice t.A t.n t.c]
  else [.int .i64 t.ob.cap, .slice t.A t.n t.c, .bool t.ob.shut]
def Th.val (t : Th) : Value := .iface (thTy t.ob.kind) (.pointer (some ⟨t.g, 0, none⟩))
def Th.chunks (t : Th) : List Chunk :=
  [Blk t.g (.cells t.cells.toArray (thEl t.ob.kind)), Own 2 (.slice t.A t.n t.c) (fV t.ob.items), Own 1 (.slice t.KA t.kn t.kc) (nums .i64 t.ob.keys), MapC t.mp t.ob.keys]
def ThC (t : Th) : Chunk := Chunk.all t.chunks
/-- What holds of every thing. -/
structure Th.Ok (t : Th) : Prop where
  kind : t.ob.kind = 6 ∨ t.ob.kind = 7 ∨ t.ob.kind = 8 ∨ t.ob.kind = 9
  size : t.ob.items.length ≤ 1048576
  keys : t.ob.kind = 7 → t.ob.keys.length = t.ob.items.length
  nokeys : t.ob.kind ≠ 7 → t.ob.keys = []
  nodup : t.ob.keys.Nodup
  wf : ∀ k, k ∈ t.ob.keys → (Lit.int .i64 k).wf = true
  fn : t.ob.kind ≠ 8 → t.ob.fn = 0
  cap : t.ob.kind ≠ 9 → t.ob.cap = 0 ∧ t.ob.shut = false
/-- A heap: where it lies, and what it holds. -/
structure Hp where
  g : Nat
  budget : Int
  spent : Int
  A : Option Addr
  c : Nat
  ths : List Th
def Hp.cells (h : Hp) : List Value := [.int .i64 h.budget, .int .i64 h.spent, .slice h.A h.ths.length h.c]
def Hp.chunks (h : Hp) : List Chunk := Blk h.g (.cells h.cells.toArray 93) :: Own 1 (.slice h.A h.ths.length h.c) (h.ths.map Th.val) :: h.ths.map ThC
def HpC (h : Hp) : Chunk := Chunk.all h.chunks
structure Hp.Ok (h : Hp) : Prop where
  each : ∀ t, t ∈ h.ths → t.Ok
  size : h.ths.length ≤ 16777216
  b0 : 0 ≤ h.budget
  b1 : h.budget ≤ 9223372036854775807
  s0 : 0 ≤ h.spent
  s1 : h.spent ≤ 9223372036854775807
def Hp.objs (h : Hp) : List Ob := h.ths.map (·.ob)
def th0 : Th := ⟨0, none, 0, 0, none, 0, 0, none, ob0⟩
/-- The number of the object that a value names. -/
def nm (l : List Ob) (v : V2) : Option Nat := if 0 ≤ v.2 ∧ v.2 < l.length ∧ (l.getD v.2.toNat ob0).kind = v.1 then some v.2.toNat else none
end Go.Proofs.Ytpibchjkmaghnaa
