/- Words for a program that is lent. -/
import Derived.Test.YtgflfpepfpekhaaFhKept
import Derived.Test.YtgflfpepfpekhaaFrFun
import Derived.Test.YtgflfpepfpekhaaExt
import Derived.StillTailTactics
namespace Go.Proofs.Ytgflfpepfpekhaa
open Go.RowKit Go.Mm
theorem fC_app (xs ys : List C3) : fC (xs ++ ys) = fC xs ++ fC ys := by simp [fC]
theorem fF_app (xs ys : List Fn) : fF (xs ++ ys) = fF xs ++ fF ys := by simp [fF]
theorem fC_one (xs : List C3) : One (fC xs) := One.flatMap cC_one xs
theorem fF_one (xs : List Fn) : One (fF xs) := One.flatMap cF_one xs
theorem inf_C : (Try.prog.info? 130).map (fun i => (i.zero, i.size, i.bytes)) = some (some (.agg #[.int .i64 0, .int .i64 0, .string ⟨#[]⟩]), 3, 32) := by kernel_rfl
theorem inf_F : (Try.prog.info? 87).map (fun i => (i.zero, i.size, i.bytes)) = some (some (.agg #[.string ⟨#[]⟩, .int .i64 0, .int .i64 0, .slice none 0 0, .slice none 0 0]), 5, 80) := by kernel_rfl
theorem ty_Cs : Try.prog.underlying 22 = some (.slice 130) := by kernel_rfl
theorem ty_Fs : Try.prog.underlying 23 = some (.slice 87) := by kernel_rfl
theorem row_C : (Try.prog.underlying 130).map (·.isRow) = some true := by kernel_rfl
theorem szC : (Try.prog.info? 130).map (·.size) = some 3 := by kernel_rfl
theorem row_P : (Try.prog.underlying 25).map (·.isRow) = some true := by kernel_rfl
theorem szP : (Try.prog.info? 25).map (·.size) = some 2 := by kernel_rfl
def c0 : C3 := (0, 0, ⟨#[]⟩)
def markC (i : Nat) : C3 := (-7, (i : Int), ⟨#[]⟩)
def marksC (k : Nat) : List C3 := (List.range k).map markC
theorem marksC_succ (k : Nat) : marksC (k + 1) = marksC k ++ [markC k] := by simp [marksC, List.range_succ]
theorem marksC_len (k : Nat) : (marksC k).length = k := by simp [marksC]
def markF (n i : Nat) : Fn := ⟨⟨#[]⟩, -7, (n : Int) + (i : Int), none, 0, 0, [], none, 0, 0, []⟩
def marksF (n k : Nat) : List Fn := (List.range k).map (markF n)
theorem marksF_succ (n k : Nat) : marksF n (k + 1) = marksF n k ++ [markF n k] := by simp [marksF, List.range_succ]
theorem marksF_len (n k : Nat) : (marksF n k).length = k := by simp [marksF]
def Fn.vc (f : Fn) : Value := .slice f.cA f.cn f.cc
def Fn.fc (f : Fn) : List Value := fV f.code
def Fn.vh (f : Fn) : Value := .slice f.hA f.hn f.hc
def Fn.fh (f : Fn) : List Value := fH f.hands
abbrev Codes (hs : List Fn) : Chunk := Many 2 Fn.vc Fn.fc hs
abbrev Hands (hs : List Fn) : Chunk := Many 4 Fn.vh Fn.fh hs
/-- What holds the full lists of function k. -/
def FullOf (f : Fn) (k : Nat) (h : Fn) : Prop := h.name = ⟨#[]⟩ ∧ h.params = -7 ∧ h.locals = k ∧ h.cn = f.cn + 64 ∧ h.code = f.code ++ marksI 64 ∧ h.hn = f.hn + 64 ∧ h.hands = f.hands ++ marksH 64
def lentF (f h : Fn) : Fn := ⟨f.name, f.params, f.locals, h.cA, f.cn, h.cc, f.code, h.hA, f.hn, h.hc, f.hands⟩
/-- A program that is lent: the lists' memory, marks behind them. -/
structure LentOk (w : World) (p : Pg) (KA : Option Addr) (kc : Nat) (FA : Option Addr) (fc : Nat) (hs : List Fn) : Prop where
  consts : RdC w 3 (.slice KA (p.kn + 64) kc) (fC (p.consts ++ marksC 64))
  fns : RdC w 5 (.slice FA (2 * p.fn + 64) fc) (fF (List.zipWith lentF p.fns hs ++ hs ++ marksF p.fn 64))
  len : hs.length = p.fn
  full : ∀ k, k < p.fn → FullOf (p.fns.getD k fn0) k (hs.getD k fn0)
  codes : ∀ h, h ∈ hs → RdC w 2 (.slice h.cA h.cn h.cc) (fV h.code)
  hands : ∀ h, h ∈ hs → RdC w 4 (.slice h.hA h.hn h.hc) (fH h.hands)
theorem LentOk.gr {w w' : World} {p : Pg} {KA : Option Addr} {kc : Nat} {FA : Option Addr} {fc : Nat} {hs : List Fn} (h : LentOk w p KA kc FA fc hs) (hg : Gr w w') : LentOk w' p KA kc FA fc hs :=
  ⟨h.consts.gr hg, h.fns.gr hg, h.len, h.full, fun x hx => (h.codes x hx).gr hg, fun x hx => (h.hands x hx).gr hg⟩
/-- The program that is handed in. -/
def lentP (p : Pg) (KA : Option Addr) (kc : Nat) (FA : Option Addr) (fc : Nat) (hs : List Fn) : Pg := ⟨KA, p.kn, kc, p.consts, FA, p.fn, fc, List.zipWith lentF p.fns hs⟩
end Go.Proofs.Ytgflfpepfpekhaa
