import Derived.Test.YtgflfpepfpekhaaFh
import Derived.Test.YtgflfpepfpekhaaRng
import Derived.Test.YtgflfpepfpekhaaBulk
import Derived.Test.YtgflfpepfpekhaaOpenS
namespace Go.Proofs.Ytgflfpepfpekhaa
open Go.RowKit Go.Mm
/-! ### Constants, three cells each -/
abbrev C3 := Int × Int × ByteArray
def cC (x : C3) : List Value := [.int .i64 x.1, .int .i64 x.2.1, .string x.2.2]
theorem cC_len (x : C3) : (cC x).length = 3 := rfl
theorem cC_one (x : C3) : One (cC x) := fun u hu => by simp [cC] at hu; rcases hu with rfl | rfl | rfl <;> rfl
def fC (xs : List C3) : List Value := xs.flatMap cC
/-! ### Functions, five cells each -/
structure Fn where
  name : ByteArray
  params : Int
  locals : Int
  cA : Option Addr
  cn : Nat
  cc : Nat
  code : List V2
  hA : Option Addr
  hn : Nat
  hc : Nat
  hands : List H4
def cF (f : Fn) : List Value := [.string f.name, .int .i64 f.params, .int .i64 f.locals, .slice f.cA f.cn f.cc, .slice f.hA f.hn f.hc]
theorem cF_len (x : Fn) : (cF x).length = 5 := rfl
theorem cF_one (x : Fn) : One (cF x) := fun u hu => by simp [cF] at hu; rcases hu with rfl | rfl | rfl | rfl | rfl <;> rfl
def fF (xs : List Fn) : List Value := xs.flatMap cF
def FnOk (w : World) (f : Fn) : Prop := RdC w 2 (.slice f.cA f.cn f.cc) (fV f.code) ∧ RdC w 4 (.slice f.hA f.hn f.hc) (fH f.hands)
theorem FnOk.gr {w w' : World} {f : Fn} (h : FnOk w f) (hg : Gr w w') : FnOk w' f := ⟨h.1.gr hg, h.2.gr hg⟩
def fn0 : Fn := ⟨⟨#[]⟩, 0, 0, none, 0, 0, [], none, 0, 0, []⟩
/-! ### Programs -/
structure Pg where
  kA : Option Addr
  kn : Nat
  kc : Nat
  consts : List C3
  fA : Option Addr
  fn : Nat
  fc : Nat
  fns : List Fn
def vP (p : Pg) : Value := .agg #[.slice p.kA p.kn p.kc, .slice p.fA p.fn p.fc]
structure PgOk (w : World) (p : Pg) : Prop where
  consts : RdC w 3 (.slice p.kA p.kn p.kc) (fC p.consts)
  fns : RdC w 5 (.slice p.fA p.fn p.fc) (fF p.fns)
  each : ∀ f, f ∈ p.fns → FnOk w f
  small : p.fn ≤ 1048576 ∧ ∀ f, f ∈ p.fns → f.hn ≤ 1048576 ∧ f.cn ≤ 1048576
theorem PgOk.gr {w w' : World} {p : Pg} (h : PgOk w p) (hg : Gr w w') : PgOk w' p := ⟨h.consts.gr hg, h.fns.gr hg, fun f hf => (h.each f hf).gr hg, h.small⟩
/-! ### Frames, three cells each -/
structure Fr where
  fn : Int
  pc : Int
  A : Option Addr
  n : Nat
  c : Nat
  sl : List V2
def cR (f : Fr) : List Value := [.int .i64 f.fn, .int .i64 f.pc, .slice f.A f.n f.c]
theorem cR_len (x : Fr) : (cR x).length = 3 := rfl
theorem cR_one (x : Fr) : One (cR x) := fun u hu => by simp [cR] at hu; rcases hu with rfl | rfl | rfl <;> rfl
def fR (xs : List Fr) : List Value := xs.flatMap cR
theorem fR_app (xs ys : List Fr) : fR (xs ++ ys) = fR xs ++ fR ys := by simp [fR]
theorem fR_one (xs : List Fr) : One (fR xs) := One.flatMap cR_one xs
def FrOk (N : Nat) (w : World) (f : Fr) : Prop := RdC w 2 (.slice f.A f.n f.c) (fV f.sl) ∧ f.n ≤ N
theorem FrOk.gr {N : Nat} {w w' : World} {f : Fr} (h : FrOk N w f) (hg : Gr w w') : FrOk N w' f := ⟨h.1.gr hg, h.2⟩
theorem FrOk.len {N : Nat} {w : World} {f : Fr} (h : FrOk N w f) : f.sl.length = f.n := rdV_len h.1
def fr0 : Fr := ⟨0, 0, none, 0, 0, []⟩
/-- What a frame says. -/
abbrev FrD := Int × Int × List V2
def Fr.data (f : Fr) : FrD := (f.fn, f.pc, f.sl)
structure FrsOk (N : Nat) (w : World) (A : Option Addr) (n c : Nat) (xs : List Fr) : Prop where
  rd : RdC w 3 (.slice A n c) (fR xs)
  each : ∀ f, f ∈ xs → FrOk N w f
theorem FrsOk.gr {N : Nat} {w w' : World} {A : Option Addr} {n c : Nat} {xs : List Fr} (h : FrsOk N w A n c xs) (hg : Gr w w') : FrsOk N w' A n c xs := ⟨h.rd.gr hg, fun f hf => (h.each f hf).gr hg⟩
theorem FrsOk.len {N : Nat} {w : World} {A : Option Addr} {n c : Nat} {xs : List Fr} (h : FrsOk N w A n c xs) : xs.length = n := rd_len cR_len (by omega) h.rd
theorem FrsOk.at {N : Nat} {w : World} {A : Option Addr} {n c : Nat} {xs : List Fr} (h : FrsOk N w A n c xs) (k : Nat) (hk : k < n) :
    ∃ b o, A = some ⟨b, o, none⟩ ∧ w.rangeAt b (o + k * 3) (cR (xs.getD k fr0)) ∧ FrOk N w (xs.getD k fr0) ∧ xs.take (k + 1) = xs.take k ++ [xs.getD k fr0] := by
  obtain ⟨b, o, e, hc, h1, h2⟩ := rd_at cR_len (by omega) fr0 h.rd k hk
  refine ⟨b, o, e, hc, h.each _ ?_, h1⟩
  have := getD_some xs fr0 k h2
  exact List.mem_of_getElem? this
end Go.Proofs.Ytgflfpepfpekhaa
