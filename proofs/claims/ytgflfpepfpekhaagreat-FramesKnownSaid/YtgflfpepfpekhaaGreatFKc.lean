/- Lemmas of the heap (a part of the heap's texts; written by slice.py). -/
import Derived.BigQuiet
import Derived.Carry
import Derived.ChangeKeysEq
import Derived.Deep.CutBlock
import Derived.Deep.DeepCutAuto
import Derived.Deep.DeepFit
import Derived.Deep.DeepMust
import Derived.Deep.Draws
import Derived.Deep.LoopGhost
import Derived.Deep.MidRow
import Derived.Deep.QuietTactic
import Derived.Deep.RegionHeld3
import Derived.Deep.RegionLaw
import Derived.Deep.Slices
import Derived.KernelRfl
import Derived.Laws.MakeOwn
import Derived.Lib.SliceRun
import Derived.Maps.Own
import Derived.Maps.OwnSet
import Derived.Maps.Views
import Derived.OpenShut
import Derived.OrdersHeld
import Derived.Outline
import Derived.OwnWalk
import Derived.SizedLaws
import Derived.StillTail
import Derived.StillTailTactics
import Derived.WalkKit
import Derived.WalkSpells
import Derived.Test.YtgflfpepfpekhaaGreatProg
import Derived.Test.YtgflfpepfpekhaaGreatFKb
set_option linter.unusedVariables false
set_option linter.unusedSimpArgs false
namespace Go.Proofs.YtgflfpepfpekhaaGreat
open Go.RowKit Go.Mm
set_option maxHeartbeats 1000000
set_option maxRecDepth 100000
theorem row_VH : (Tryz.prog.underlying 36).map (·.isRow) = some true := by kernel_rfl
end Go.Proofs.YtgflfpepfpekhaaGreat
namespace Go.Mm
open Go.RowKit
abbrev Disj (l : List Chunk) : Prop := l.Pairwise fun (c d : Chunk) => ∀ k : Nat, c.foot k → ¬ d.foot k
/-- Many chunks seen as one. -/
def Chunk.all (l : List Chunk) : Chunk :=
  ⟨fun k => ∃ c, c ∈ l ∧ c.foot k, fun w => (∀ c, c ∈ l → c.ok w) ∧ Disj l,
    fun w w' h hw => ⟨fun c hc => c.loc w w' (fun k hk => h k ⟨c, hc, hk⟩) (hw.1 c hc), hw.2⟩⟩
theorem Mem.opn {w0 w : World} {l L : List Chunk} (h : Mem w0 w (Chunk.all l :: L)) : Mem w0 w (l ++ L) := by
  have hd := List.pairwise_cons.1 h.dis
  have ho := h.ok _ m0
  refine ⟨h.below, fun c hc => ?_, fun c hc k hk => ?_, List.pairwise_append.2 ⟨ho.2, hd.2, fun c hc d hd' k hk => hd.1 d hd' k ⟨c, hc, hk⟩⟩⟩
  · rcases List.mem_append.1 hc with hc | hc
    · exact ho.1 c hc
    · exact h.ok c (.tail _ hc)
  · rcases List.mem_append.1 hc with hc | hc
    · exact h.rng _ m0 k ⟨c, hc, hk⟩
    · exact h.rng c (.tail _ hc) k hk
theorem Mem.sht {w0 w : World} {L : List Chunk} (l : List Chunk) (h : Mem w0 w (l ++ L)) : Mem w0 w (Chunk.all l :: L) := by
  have hd := List.pairwise_append.1 h.dis
  refine ⟨h.below, fun c hc => ?_, fun c hc k hk => ?_, List.pairwise_cons.2 ⟨fun d hd' k hk => ?_, hd.2.1⟩⟩
  · rcases List.mem_cons.1 hc with rfl | hc
    · exact ⟨fun c hc => h.ok c (List.mem_append_left _ hc), hd.1⟩
    · exact h.ok c (List.mem_append_right _ hc)
  · rcases List.mem_cons.1 hc with rfl | hc
    · obtain ⟨c, hc, hk⟩ := hk
      exact h.rng c (List.mem_append_left _ hc) k hk
    · exact h.rng c (List.mem_append_right _ hc) k hk
  · obtain ⟨c, hc, hk⟩ := hk
    exact hd.2.2 c hc d hd' k hk
/-- Chunk number i pulled to the front; put back, changed. -/
theorem perm_pull {α : Type} (l : List α) (i : Nat) (x : α) (h : l[i]? = some x) : l.Perm (x :: (l.take i ++ l.drop (i + 1))) := by
  obtain ⟨hi, rfl⟩ := List.getElem?_eq_some_iff.1 h
  conv => lhs; rw [← List.take_append_drop i l, List.drop_eq_getElem_cons hi]
  exact List.perm_middle
end Go.Mm
namespace Go.Proofs.YtgflfpepfpekhaaGreat
open Go.RowKit Go.Mm
set_option maxHeartbeats 1000000
set_option maxRecDepth 100000
/-- An object as data. -/
structure Ob where
  kind : Int
  items : List V2
  keys : List Int
  fn : Int
  cap : Int
  shut : Bool
def ob0 : Ob := ⟨0, [], [], 0, 0, false⟩
/-- Where a thing lies. -/
structure Th where
  g : Nat
  A : Option Addr
  n : Nat
  c : Nat
  KA : Option Addr
  kn : Nat
  kc : Nat
  mp : Option Nat
  ob : Ob
/-- The block of a map of places, if there is one: number i stands at key number i. -/
def mapOk (mp : Option Nat) (ks : List Int) (w : World) : Prop :=
  match mp with
  | none => ks = []
  | some b => ∃ D : DataW Unit, w.ownsMap Tryz.prog 2 (plainElem Tryz.prog 3) b ks.length D ∧ Maps.Tidy D ∧ ∀ key : Int, (Lit.int .i64 key).wf = true → ∀ z, D.atKey (.int .i64 key) z = match ks.idxOf? key with | some i => .lit (.int .i64 (i : Nat)) | none => z
def MapC (mp : Option Nat) (ks : List Int) : Chunk :=
  ⟨fun k => mp = some k, mapOk mp ks, fun w w' h hw => by
    cases mp with
    | none => exact hw
    | some b =>
      obtain ⟨D, ⟨es, clock, hb, F, hs, hD⟩, hT, ha⟩ := hw
      exact ⟨D, ⟨es, clock, by rw [h b rfl]; exact hb, F, hs, hD⟩, hT, ha⟩⟩
/-- A thing's type, by its kind. -/
def thTy (k : Int) : TypeId := if k = 6 then 143 else if k = 7 then 152 else if k = 8 then 146 else 149
def thEl (k : Int) : TypeId := if k = 6 then 145 else if k = 7 then 155 else if k = 8 then 148 else 151
def Th.cells (t : Th) : List Value :=
  if t.ob.kind = 6 then [.slice t.A t.n t.c]
  else if t.ob.kind = 7 then [.slice t.KA t.kn t.kc, .slice t.A t.n t.c, .map t.mp]
  else if t.ob.kind = 8 then [.int .i64 t.ob.fn, .slice t.A t.n t.c]
  else [.int .i64 t.ob.cap, .slice t.A t.n t.c, .bool t.ob.shut]
def Th.val (t : Th) : Value := .iface (thTy t.ob.kind) (.pointer (some ⟨t.g, 0, none⟩))
def Th.chunks (t : Th) : List Chunk :=
  [Blk t.g (.cells t.cells.toArray (thEl t.ob.kind)), Own 2 (.slice t.A t.n t.c) (fV t.ob.items), Own 1 (.slice t.KA t.kn t.kc) (nums .i64 t.ob.keys), MapC t.mp t.ob.keys]
def ThC (t : Th) : Chunk := Chunk.all t.chunks
/-- What holds of every thing. -/
structure Th.Ok (t : Th) : Prop where
  kind : t.ob.kind = 6 ∨ t.ob.kind = 7 ∨ t.ob.kind = 8 ∨ t.ob.kind = 9
  size : t.ob.items.length ≤ 1048576
  keys : t.ob.kind = 7 → t.ob.keys.length = t.ob.items.length
  nokeys : t.ob.kind ≠ 7 → t.ob.keys = []
  nodup : t.ob.keys.Nodup
  wf : ∀ k, k ∈ t.ob.keys → (Lit.int .i64 k).wf = true
  fn : t.ob.kind ≠ 8 → t.ob.fn = 0
  cap : t.ob.kind ≠ 9 → t.ob.cap = 0 ∧ t.ob.shut = false
/-- A heap: where it lies, and what it holds. -/
structure Hp where
  g : Nat
  budget : Int
  spent : Int
  A : Option Addr
  c : Nat
  ths : List Th
def Hp.cells (h : Hp) : List Value := [.int .i64 h.budget, .int .i64 h.spent, .slice h.A h.ths.length h.c]
def Hp.chunks (h : Hp) : List Chunk := Blk h.g (.cells h.cells.toArray 122) :: Own 1 (.slice h.A h.ths.length h.c) (h.ths.map Th.val) :: h.ths.map ThC
def HpC (h : Hp) : Chunk := Chunk.all h.chunks
structure Hp.Ok (h : Hp) : Prop where
  each : ∀ t, t ∈ h.ths → t.Ok
  size : h.ths.length ≤ 16777216
  b0 : 0 ≤ h.budget
  b1 : h.budget ≤ 9223372036854775807
  s0 : 0 ≤ h.spent
  s1 : h.spent ≤ 9223372036854775807
def Hp.objs (h : Hp) : List Ob := h.ths.map (·.ob)
def th0 : Th := ⟨0, none, 0, 0, none, 0, 0, none, ob0⟩
/-- The number of the object that a value names. -/
def nm (l : List Ob) (v : V2) : Option Nat := if 0 ≤ v.2 ∧ v.2 < l.length ∧ (l.getD v.2.toNat ob0).kind = v.1 then some v.2.toNat else none
end Go.Proofs.YtgflfpepfpekhaaGreat
namespace Go.Mm
open Go.RowKit
section
variable {P : Program} {ops : Array Oper} {Q : Exit → Act → World → Prop}
/-- The method of a value, called. -/
def ICalls (P : Program) (v : Value) (name : String) (args : Array Value) (w : World) (R : Ending → World → Prop) : Prop :=
  ∃ f ags, (callMethod v name args).run P w = .ok (.enter f ags) w ∧ Calls P f ags w R
theorem ICalls.mono {v : Value} {name : String} {args : Array Value} {w : World} {R R' : Ending → World → Prop} (h : ICalls P v name args w R) (hr : ∀ e w', R e w' → R' e w') : ICalls P v name args w R' :=
  let ⟨f, ags, h1, h2⟩ := h
  ⟨f, ags, h1, h2.mono hr⟩
theorem run_inv {o : Oper} {a : Act} {w : World} (x : Operand) (name : String) (xs : List Operand) (ts : Array TypeId) (ho : o.op = .call { callee := .invoke x name, args := xs.toArray, argTypes := ts }) (v : Value) (hx : a.eval x = v) (args : List Value) (ha : xs.map a.eval = args) :
    (execOp a.eval o).run P w = (callMethod v name args.toArray).run P w := by
  have he : (#[v] ++ args.toArray).extract 1 (#[v] ++ args.toArray).size = args.toArray := by
    apply Array.ext'
    simp
  have h0 : (#[v] ++ args.toArray)[0]? = some v := by rw [Array.getElem?_append_left (by simp)]; rfl
  unfold execOp
  simp only [ho, resolve, Sem.run_bind, Sem.run_pure, Result.andThen_ok, hx, List.map_toArray, ha, invoke, h0, he]
theorem wp_inv {o : Oper} {rest : List Oper} {a : Act} {w : World} (hw : Region.wanted o (yielded ops a.tmps) = true) (x : Operand) (name : String) (xs : List Operand) (ts : Array TypeId) (ho : o.op = .call { callee := .invoke x name, args := xs.toArray, argTypes := ts }) (v : Value) (hx : a.eval x = v) (args : List Value) (ha : xs.map a.eval = args)
    (h : ICalls P v name args.toArray w fun e w' => ∃ r, e = .returned r ∧ wpList P ops Q rest (a.put o.dst r) w') : wpList P ops Q (o :: rest) a w := by
  refine wpList_want hw fun K hK => ?_
  obtain ⟨f, ags, h1, h2⟩ := h
  unfold Oper.wp
  rw [run_inv x name xs ts ho v hx args ha, h1]
  exact h2.mono fun e w' he => by obtain ⟨r, rfl, hr⟩ := he; exact hK _ _ hr
theorem quiet_inv {o : Oper} {a : Act} {K : Act → Prop} {w : World} (x : Operand) (name : String) (xs : List Operand) (ts : Array TypeId) (ho : o.op = .call { callee := .invoke x name, args := xs.toArray, argTypes := ts }) (v : Value) (hx : a.eval x = v) (args : List Value) (ha : xs.map a.eval = args)
    (r : Value) (hc : ∀ w', ICalls P v name args.toArray w' fun e w'' => e = .returned r ∧ w'' = w') (h : K (a.put o.dst r)) : o.quiet P a (fun w' => ∃ n, w' = w.drewN n) K :=
  ⟨r, fun w' hw' => by
    obtain ⟨f, ags, h1, h2⟩ := hc w'
    unfold Oper.quietAt
    rw [run_inv x name xs ts ho v hx args ha, h1]
    exact ⟨rfl, h2.mono fun e w'' he => ⟨he.1, by rw [he.2]; exact hw'⟩⟩, h⟩
end
end Go.Mm
namespace Go.Proofs.YtgflfpepfpekhaaGreat
open Go.RowKit Go.Mm
set_option maxHeartbeats 2000000
set_option maxRecDepth 100000
/-- What is known of a heap that lies in memory. -/
theorem Hp.read {w0 w : World} {L : List Chunk} {h : Hp} (hm : Mem w0 w L) (hh : HpC h ∈ L) :
    w.cell? ⟨h.g, 0, none⟩ = some (.int .i64 h.budget) ∧ w.cell? ⟨h.g, 1, none⟩ = some (.int .i64 h.spent) ∧ w.cell? ⟨h.g, 2, none⟩ = some (.slice h.A h.ths.length h.c) ∧
      h.ths.length ≤ h.c ∧ h.c ≤ maxLen ∧ ∀ i, i < h.ths.length → ∃ b o, h.A = some ⟨b, o, none⟩ ∧ w.cell? ⟨b, o + i, none⟩ = some (h.ths.getD i th0).val ∧ ∀ c, c ∈ (h.ths.getD i th0).chunks → c.ok w := by
  have ho := hm.ok _ hh
  have hb : w.heap[h.g]? = some (.cells h.cells.toArray 122 (0, 0)) := ho.1 _ (.head _)
  have hs : OwnAt 1 (.slice h.A h.ths.length h.c) (h.ths.map Th.val) w := ho.1 _ (.tail _ (.head _))
  refine ⟨by rw [cell_of_row w _ _ _ _ _ hb]; rfl, by rw [cell_of_row w _ _ _ _ _ hb]; rfl, by rw [cell_of_row w _ _ _ _ _ hb]; rfl, hs.cap.1, hs.cap.2, fun i hi => ?_⟩
  obtain ⟨b, o, c0, e, h1, h2, _⟩ := hs.rd.at1 i hi
  have hg : h.ths.getD i th0 = h.ths[i] := by simp [hi]
  rw [List.getElem?_map, List.getElem?_eq_getElem hi] at h2
  cases h2
  rw [hg]
  refine ⟨b, o, e, h1, fun c hc => ?_⟩
  have ht : (ThC h.ths[i]).ok w := ho.1 _ (.tail _ (.tail _ (List.mem_map_of_mem (List.getElem_mem _))))
  exact ht.1 c hc
theorem kindA_ok (a : Addr) (w : World) : Calls Tryz.prog 106 #[.pointer (some a)] w fun e w' => e = .returned (.int .i64 6) ∧ w' = w := by
  go_enter Tryz.func106, Tryz.ntmps106
  go_wp2
  go_ret
  exact ⟨rfl, rfl⟩
theorem kindR_ok (a : Addr) (w : World) : Calls Tryz.prog 119 #[.pointer (some a)] w fun e w' => e = .returned (.int .i64 7) ∧ w' = w := by
  go_enter Tryz.func119, Tryz.ntmps119
  go_wp2
  go_ret
  exact ⟨rfl, rfl⟩
theorem kindB_ok (a : Addr) (w : World) : Calls Tryz.prog 111 #[.pointer (some a)] w fun e w' => e = .returned (.int .i64 8) ∧ w' = w := by
  go_enter Tryz.func111, Tryz.ntmps111
  go_wp2
  go_ret
  exact ⟨rfl, rfl⟩
theorem kindC_ok (a : Addr) (w : World) : Calls Tryz.prog 115 #[.pointer (some a)] w fun e w' => e = .returned (.int .i64 9) ∧ w' = w := by
  go_enter Tryz.func115, Tryz.ntmps115
  go_wp2
  go_ret
  exact ⟨rfl, rfl⟩
theorem mkindA (a : Addr) (w : World) : (callMethod (.iface 143 (.pointer (some a))) "portage/heap.kind" #[]).run Tryz.prog w = .ok (.enter 106 #[.pointer (some a)]) w := by kernel_rfl
theorem mkindR (a : Addr) (w : World) : (callMethod (.iface 152 (.pointer (some a))) "portage/heap.kind" #[]).run Tryz.prog w = .ok (.enter 119 #[.pointer (some a)]) w := by kernel_rfl
theorem mkindB (a : Addr) (w : World) : (callMethod (.iface 146 (.pointer (some a))) "portage/heap.kind" #[]).run Tryz.prog w = .ok (.enter 111 #[.pointer (some a)]) w := by kernel_rfl
theorem mkindC (a : Addr) (w : World) : (callMethod (.iface 149 (.pointer (some a))) "portage/heap.kind" #[]).run Tryz.prog w = .ok (.enter 115 #[.pointer (some a)]) w := by kernel_rfl
/-- A value's thing, its kind told. -/
theorem Th.val_of (t : Th) (h : t.ob.kind = 6 ∨ t.ob.kind = 7 ∨ t.ob.kind = 8 ∨ t.ob.kind = 9) :
    (t.ob.kind = 6 ∧ t.val = .iface 143 (.pointer (some ⟨t.g, 0, none⟩))) ∨ (t.ob.kind = 7 ∧ t.val = .iface 152 (.pointer (some ⟨t.g, 0, none⟩))) ∨
      (t.ob.kind = 8 ∧ t.val = .iface 146 (.pointer (some ⟨t.g, 0, none⟩))) ∨ (t.ob.kind = 9 ∧ t.val = .iface 149 (.pointer (some ⟨t.g, 0, none⟩))) := by
  unfold Th.val thTy
  rcases h with h | h | h | h <;> rw [h]
  · exact .inl ⟨rfl, rfl⟩
  · exact .inr (.inl ⟨rfl, rfl⟩)
  · exact .inr (.inr (.inl ⟨rfl, rfl⟩))
  · exact .inr (.inr (.inr ⟨rfl, rfl⟩))
theorem kind_ok (t : Th) (h : t.ob.kind = 6 ∨ t.ob.kind = 7 ∨ t.ob.kind = 8 ∨ t.ob.kind = 9) (w : World) : ICalls Tryz.prog t.val "portage/heap.kind" #[] w fun e w' => e = .returned (.int .i64 t.ob.kind) ∧ w' = w := by
  rcases t.val_of h with ⟨hk, hv⟩ | ⟨hk, hv⟩ | ⟨hk, hv⟩ | ⟨hk, hv⟩ <;> rw [hk, hv]
  · exact ⟨_, _, mkindA _ w, kindA_ok _ _⟩
  · exact ⟨_, _, mkindR _ w, kindR_ok _ _⟩
  · exact ⟨_, _, mkindB _ w, kindB_ok _ _⟩
  · exact ⟨_, _, mkindC _ w, kindC_ok _ _⟩
/-- The thing that a value names, as an interface's value. -/
def namedV (h : Hp) (v : V2) : Value := match nm h.objs v with | some i => (h.ths.getD i th0).val | none => .nilIface
theorem named_ok (w0 w : World) (L : List Chunk) (h : Hp) (hm : Mem w0 w L) (hh : HpC h ∈ L) (hok : Fact h.Ok) (K N : Int) :
    Calls Tryz.prog 84 #[.pointer (some ⟨h.g, 0, none⟩), .agg #[.int .i64 K, .int .i64 N]] w fun e w' => e = .returned (namedV h (K, N)) ∧ Gr w w' := by
  have hsz := hok.out.size
  have hlen : Fact (h.objs.length = h.ths.length) := ⟨by simp [Hp.objs]⟩
  go_enter Tryz.func84, Tryz.ntmps84
  go_upto_region 1 with (fail)
  have hm1 := hm.alloc (.cells [.int .i64 K, .int .i64 N].toArray 36)
  generalize hgb : w.heap.size = gb at hm1 ⊢
  generalize hw1 : w.alloc (.cells [.int .i64 K, .int .i64 N].toArray 36) = w1 at hm1
  try refine wp_world hw1 ?_
  have hg1 : Gr w w1 := by rw [← hw1]; exact (Gr.refl w).alloc _
  clear hw1 hgb
  have d0 := hm1.cell m0 0 rfl
  have d1 := hm1.cell m0 1 rfl
  obtain ⟨c0, c1, c2, hcap, hcm, hat⟩ := Hp.read hm1 (.tail _ hh)
  by_cases hN : N < 0
  · have hnm : Fact (nm h.objs (K, N) = none) := ⟨by unfold nm; rw [if_neg (by intro q; have := q.1; dsimp only at this; omega)]⟩
    have hN' : decide (N < 0) = true := decide_eq_true hN
    clear hat
    go_quiet (fail)
    go_wp2
    go_ret
    exact ⟨by unfold namedV; rw [hnm.out]; rfl, hg1.drewN _⟩
  · have hN' : decide (N < 0) = false := decide_eq_false hN
    by_cases hN2 : N < h.ths.length
    · obtain ⟨i, rfl⟩ := Int.eq_ofNat_of_zero_le (Int.not_lt.1 hN)
      have hil : i < h.ths.length := by omega
      obtain ⟨b, o, hA, r1, hcs⟩ := hat i hil
      have hkind := (hok.out.each _ (List.getElem_mem hil)).kind
      have hg : h.ths.getD i th0 = h.ths[i] := by simp [hil]
      rw [← hg] at hkind
      have hob : Fact ((h.objs.getD i ob0).kind = (h.ths.getD i th0).ob.kind) := ⟨by simp [Hp.objs, hil]⟩
      have hnm : Fact (nm h.objs (K, (i : Int)) = if (h.ths.getD i th0).ob.kind = K then some i else none) := ⟨by
        unfold nm
        simp only [Int.toNat_natCast, hob.out, hlen.out]
        by_cases q : (h.ths.getD i th0).ob.kind = K
        · rw [if_pos q, if_pos ⟨by omega, by omega, q⟩]
        · rw [if_neg q, if_neg (fun z => q z.2.2)]⟩
      clear hat hg hob hcs
      clear r1
      have hge : decide (h.ths.length ≤ i) = false := decide_eq_false (by omega)
      rw [hA] at c2
      go_quiet (fail)
      have hm2 := hm1.drewN nq
      have hg2 := hg1.drewN nq
      clear d0 d1 c0 c1 c2 hge
      generalize w1.drewN nq = w2 at hm2 hg2 ⊢
      have d0 := hm2.cell m0 0 rfl
      have d1 := hm2.cell m0 1 rfl
      obtain ⟨_, _, c2, _, _, hat⟩ := Hp.read hm2 (.tail _ hh)
      obtain ⟨b', o', hA', r1, _⟩ := hat i hil
      rw [hA] at hA' c2
      cases hA'
      clear hat
      have hval : Fact (namedV h (K, (i : Int)) = if (h.ths.getD i th0).ob.kind = K then (h.ths.getD i th0).val else .nilIface) := ⟨by
        unfold namedV; rw [hnm.out]
        by_cases q : (h.ths.getD i th0).ob.kind = K
        · rw [if_pos q, if_pos q]
        · rw [if_neg q, if_neg q]⟩
      generalize h.ths.getD i th0 = t at r1 hkind hval
      clear hnm
      go_upto_region 3 with (fail)
      go_quiet (fail)
      replace d0 := ((Gr.refl w2).drewN nq).cell d0
      have hg3 := hg2.drewN nq
      clear hm2 d1 c2 r1
      generalize w2.drewN nq = w3 at d0 hg3 ⊢
      have hkd := kind_ok t hkind
      go_upto_region 4 with (fail)
      refine wp_region_quiet_lit (by kernel_rfl) (by kernel_rfl) ?_
      repeat (first | go_big_quiet_skip | (go_big_quiet_want; (first | (refine quiet_inv _ _ _ _ (by rfl) t.val (by rfl) [] (by rfl) (.int .i64 t.ob.kind) hkd ?_; simp only [Act.put, List.setIfInBounds_toArray, List.set_cons_zero, List.set_cons_succ]; go_big_quiet_on) | (go_big_quiet_op; go_big_quiet_on))))
      refine wpQuiet_nil ?_
      rintro _ ⟨nq, rfl⟩

      by_cases q : t.ob.kind = K
      · have q' : decide (t.ob.kind = K) = true := decide_eq_true q
        go_wp2
        go_ret
        exact ⟨by rw [hval.out, if_pos q]; rfl, hg3.drewN _⟩
      · have q' : decide (t.ob.kind = K) = false := decide_eq_false q
        go_wp2
        go_ret
        exact ⟨by rw [hval.out, if_neg q]; rfl, hg3.drewN _⟩
    · have hge : decide (N ≥ (h.ths.length : Int)) = true := decide_eq_true (by omega)
      have hnm : Fact (nm h.objs (K, N) = none) := ⟨by unfold nm; rw [if_neg (by intro q; have := q.2.1; rw [hlen.out] at this; dsimp only at this; omega)]⟩
      clear hat
      go_quiet (fail)
      go_wp2
      go_ret
      exact ⟨by unfold namedV; rw [hnm.out]; rfl, hg1.drewN _⟩
end Go.Proofs.YtgflfpepfpekhaaGreat
namespace Go.Mm
theorem Mem.drop2 {w0 w : World} {a b : Chunk} {L : List Chunk} (h : Mem w0 w (a :: b :: L)) : Mem w0 w (a :: L) := h.sub ((List.sublist_cons_self _ _).cons_cons _)
end Go.Mm
namespace Go.Proofs.YtgflfpepfpekhaaGreat
open Go.RowKit Go.Mm
set_option maxHeartbeats 2000000
set_option maxRecDepth 100000
/-- What is left of a heap beside one thing. -/
def Hp.rest (h : Hp) (i : Nat) : List Chunk := Blk h.g (.cells h.cells.toArray 122) :: Own 1 (.slice h.A h.ths.length h.c) (h.ths.map Th.val) :: (h.ths.take i ++ h.ths.drop (i + 1)).map ThC
/-- A heap, thing number i another. -/
def Hp.upd (h : Hp) (i : Nat) (t : Th) : Hp := { h with ths := h.ths.set i t }
theorem Hp.opn {w0 w : World} {L : List Chunk} {h : Hp} (hm : Mem w0 w (HpC h :: L)) (i : Nat) (hi : i < h.ths.length) : Mem w0 w ((h.ths.getD i th0).chunks ++ (h.rest i ++ L)) := by
  have h1 : Mem w0 w (h.chunks ++ L) := Mem.opn hm
  have hp : (h.ths.map ThC).Perm (ThC (h.ths.getD i th0) :: (h.ths.take i ++ h.ths.drop (i + 1)).map ThC) := by
    have := (perm_pull h.ths i (h.ths.getD i th0) (by simp [hi])).map ThC
    simpa using this
  have h2 : Mem w0 w (ThC (h.ths.getD i th0) :: (h.rest i ++ L)) := by
    refine h1.perm ?_
    have e : (h.chunks ++ L).Perm ((Blk h.g (.cells h.cells.toArray 122) :: Own 1 (.slice h.A h.ths.length h.c) (h.ths.map Th.val) :: ThC (h.ths.getD i th0) :: (h.ths.take i ++ h.ths.drop (i + 1)).map ThC) ++ L) :=
      List.Perm.append_right L (List.Perm.cons _ (List.Perm.cons _ hp))
    exact e.trans (((List.Perm.swap _ _ _).cons _).trans (List.Perm.swap _ _ _))
  exact Mem.opn h2
/-- Is there room for so much? -/
def Hp.room (h : Hp) (n : Int) : Bool := decide (0 ≤ n) && decide (n ≤ h.budget - h.spent)
theorem heapNew_ok (w0 w : World) (L : List Chunk) (hm : Mem w0 w L) (b s : Int) :
    Calls Tryz.prog 37 #[.int .i64 b, .int .i64 s] w fun e w' => ∃ g, e = .returned (.pointer (some ⟨g, 0, none⟩)) ∧ Mem w0 w' (HpC ⟨g, max b 0, max s 0, none, 0, []⟩ :: L) := by
  have key : ∀ X Y : Int, Mem w0 (w.alloc (.cells [.int .i64 X, .int .i64 Y, .slice none 0 0].toArray 122)) (HpC ⟨w.heap.size, X, Y, none, 0, []⟩ :: L) := fun X Y =>
    Mem.sht (Hp.chunks ⟨w.heap.size, X, Y, none, 0, []⟩) ((hm.nil 1 none).alloc _)
  go_enter Tryz.func37, Tryz.ntmps37
  go_wp2
  all_goals
    go_ret
    refine ⟨w.heap.size, rfl, ?_⟩
    (first | rw [show max b 0 = 0 by omega] | rw [show max b 0 = b by omega])
    (first | rw [show max s 0 = 0 by omega] | rw [show max s 0 = s by omega])
    exact key _ _
theorem heapLen_ok (w0 w : World) (L : List Chunk) (h : Hp) (hm : Mem w0 w L) (hh : HpC h ∈ L) :
    Calls Tryz.prog 40 #[.pointer (some ⟨h.g, 0, none⟩)] w fun e w' => e = .returned (.int .i64 h.ths.length) ∧ w' = w := by
  obtain ⟨_, _, c2, _, _, _⟩ := Hp.read hm hh
  go_enter Tryz.func40, Tryz.ntmps40
  go_wp2
  go_ret
  exact ⟨rfl, rfl⟩
end Go.Proofs.YtgflfpepfpekhaaGreat
namespace Go.Proofs.YtgflfpepfpekhaaGreat
open Go.RowKit Go.Mm
set_option maxHeartbeats 2000000
set_option maxRecDepth 100000
theorem ty_Ts : Tryz.prog.underlying 120 = some (.slice 117) := by kernel_rfl
theorem inf_T : (Tryz.prog.info? 117).map (fun i => (i.zero, i.size, i.bytes)) = some (some .nilIface, 1, 16) := by kernel_rfl
end Go.Proofs.YtgflfpepfpekhaaGreat
namespace Go.Proofs.YtgflfpepfpekhaaGreat
open Go.RowKit Go.Mm
set_option maxHeartbeats 2000000
set_option maxRecDepth 100000
/-- What a thing has beside its block and its items. -/
def Th.more (t : Th) : List Chunk := [Own 1 (.slice t.KA t.kn t.kc) (nums .i64 t.ob.keys), MapC t.mp t.ob.keys]
theorem Mem.mapnil {w0 w : World} {L : List Chunk} (h : Mem w0 w L) : Mem w0 w (MapC none [] :: L) := by
  refine ⟨h.below, fun c hc => ?_, fun c hc k hk => ?_, List.pairwise_cons.2 ⟨fun _ _ k hk => (nomatch (show none = some k from hk)), h.dis⟩⟩
  · rcases List.mem_cons.1 hc with rfl | hc
    · exact (rfl : ([] : List Int) = [])
    · exact h.ok c hc
  · rcases List.mem_cons.1 hc with rfl | hc
    · exact nomatch (show none = some k from hk)
    · exact h.rng c hc k hk
end Go.Proofs.YtgflfpepfpekhaaGreat
namespace Go.Proofs.YtgflfpepfpekhaaGreat
open Go.RowKit Go.Mm
set_option maxHeartbeats 2000000
set_option maxRecDepth 100000
structure Hs where
  budget : Int
  spent : Int
  objs : List Ob
def Hp.abs (h : Hp) : Hs := ⟨h.budget, h.spent, h.objs⟩
/-- In memory there lies a heap at g, which holds just this. -/
def HpQ (w0 : World) (L : List Chunk) (g : Nat) (s : Hs) (w : World) : Prop := ∃ h : Hp, h.g = g ∧ h.abs = s ∧ h.Ok ∧ Mem w0 w (HpC h :: L)
theorem HpQ.mk {w0 w : World} {L : List Chunk} (h : Hp) (hok : h.Ok) (hm : Mem w0 w (HpC h :: L)) : HpQ w0 L h.g h.abs w := ⟨h, rfl, rfl, hok, hm⟩
def Hs.room (s : Hs) (n : Int) : Bool := decide (0 ≤ n) && decide (n ≤ s.budget - s.spent)
/-- An object more, if it may be and there is room. -/
def Hs.make (s : Hs) (may : Bool) (n : Int) (o : Ob) : Hs := match may && s.room n with | true => ⟨s.budget, s.spent + n, s.objs ++ [o]⟩ | false => s
theorem Hp.abs_len (h : Hp) : h.objs.length = h.ths.length := by simp [Hp.objs]
/-! ### A slice cloned -/
theorem RdC.none_nil {w : World} {n c : Nat} {xs : List V2} (h : RdC w 2 (.slice none n c) (fV xs)) : n = 0 ∧ xs = [] := by
  have h0 := RdC.none0 (by omega) h
  have hl := rdV_len h
  exact ⟨h0, by subst h0; exact List.eq_nil_of_length_eq_zero hl⟩
theorem clone_ok (w0 w : World) (L : List Chunk) (hm : Mem w0 w L) (A : Option Addr) (n c : Nat) (xs : List V2) (hx : Fact (RdC w 2 (.slice A n c) (fV xs))) (hn : n ≤ 16777216) :
    Calls Tryz.prog 82 #[.slice A n c] w fun e w' => ∃ A' c', e = .returned (.slice A' n c') ∧ Mem w0 w' (Own 2 (.slice A' n c') (fV xs) :: L) := by
  obtain ⟨iV, hiV, hz0, hz1, hz2⟩ := info_parts inf_V
  have q22 : ∀ (w : World) (a : Option Addr) (n c n' c' : Nat), (binOp .eql 28 (.slice a n c) (.slice none n' c')).run Tryz.prog w = .ok (.bool a.isNone) w := fun w a n c n' c' => Lib.run_eql_slice_nil w _ _ a n c n' c' ty_Vs
  go_enter Tryz.func82, Tryz.ntmps82
  cases A with
  | none =>
    obtain ⟨rfl, rfl⟩ := RdC.none_nil hx.out
    go_wp2
    go_ret
    exact ⟨none, 0, rfl, hm.nil 2 none⟩
  | some a =>
    go_wp2_with (at_builtin; refine wp_app rfl _ _ _ rfl 36 iV _ 2 16 ty_Vs hiV hz0 hz1 hz2 rfl _ 0 0 _ rfl (Mem.nil (hm.alloc _) 2 _) (some a) n c (fV xs) rfl (hx.out.gr ((Gr.refl w).alloc _)) (by unfold maxLen; omega) (by omega) ?_; intro A1 c1 w1 HM1)
    go_ret
    rw [Nat.zero_add] at HM1
    exact ⟨A1, c1, rfl, HM1.drop2⟩
theorem ty_IsH : Tryz.prog.underlying 34 = some (.slice 2) := by kernel_rfl
theorem inf_IH : (Tryz.prog.info? 2).map (fun i => (i.zero, i.size, i.bytes)) = some (some (.int .i64 0), 1, 8) := by kernel_rfl
theorem RdC.none_nilN {w : World} {n c : Nat} {xs : List Int} (h : RdC w 1 (.slice none n c) (nums .i64 xs)) : n = 0 ∧ xs = [] := by
  have h0 := RdC.none0 (by omega) h
  have hl := RdC.nlen h
  exact ⟨h0, by subst h0; exact List.eq_nil_of_length_eq_zero hl⟩
theorem cloneN_ok (w0 w : World) (L : List Chunk) (hm : Mem w0 w L) (A : Option Addr) (n c : Nat) (xs : List Int) (hx : Fact (RdC w 1 (.slice A n c) (nums .i64 xs))) (hn : n ≤ 16777216) :
    Calls Tryz.prog 122 #[.slice A n c] w fun e w' => ∃ A' c', e = .returned (.slice A' n c') ∧ Mem w0 w' (Own 1 (.slice A' n c') (nums .i64 xs) :: L) := by
  obtain ⟨iV, hiV, hz0, hz1, hz2⟩ := info_parts inf_IH
  have q22 : ∀ (w : World) (a : Option Addr) (n c n' c' : Nat), (binOp .eql 34 (.slice a n c) (.slice none n' c')).run Tryz.prog w = .ok (.bool a.isNone) w := fun w a n c n' c' => Lib.run_eql_slice_nil w _ _ a n c n' c' ty_IsH
  go_enter Tryz.func122, Tryz.ntmps122
  cases A with
  | none =>
    obtain ⟨rfl, rfl⟩ := RdC.none_nilN hx.out
    go_wp2
    go_ret
    exact ⟨none, 0, rfl, hm.nil 1 none⟩
  | some a =>
    go_wp2_with (at_builtin; refine wp_app rfl _ _ _ rfl 2 iV _ 1 8 ty_IsH hiV hz0 hz1 hz2 rfl _ 0 0 _ rfl (Mem.nil (hm.alloc _) 1 _) (some a) n c (nums .i64 xs) rfl (hx.out.gr ((Gr.refl w).alloc _)) (by unfold maxLen; omega) (by omega) ?_; intro A1 c1 w1 HM1)
    go_ret
    rw [Nat.zero_add] at HM1
    exact ⟨A1, c1, rfl, HM1.drop2⟩
end Go.Proofs.YtgflfpepfpekhaaGreat
namespace Go.Proofs.YtgflfpepfpekhaaGreat
open Go.RowKit Go.Mm
set_option maxHeartbeats 4000000
set_option maxRecDepth 100000
/-- A thing just made. -/
def mkT (g : Nat) (A : Option Addr) (n c : Nat) (k : Int) (items : List V2) (fn cap : Int) : Th := ⟨g, A, n, c, none, 0, 0, none, ⟨k, items, [], fn, cap, false⟩⟩
theorem mkT_ok (g : Nat) (A : Option Addr) (n c : Nat) {k : Int} {items : List V2} {fn cap : Int} (hk : k = 6 ∨ k = 7 ∧ items = [] ∨ k = 8 ∨ k = 9) (hl : items.length ≤ 1048576) (hf : k ≠ 8 → fn = 0) (hc : k ≠ 9 → cap = 0) : (mkT g A n c k items fn cap).Ok := by
  refine ⟨?_, hl, fun h7 => ?_, fun _ => rfl, List.nodup_nil, fun k hk => by simp [mkT] at hk, hf, fun h => ⟨hc h, rfl⟩⟩
  · show k = 6 ∨ k = 7 ∨ k = 8 ∨ k = 9
    omega
  · have h7 : k = 7 := h7
    show (0 : Nat) = items.length
    rcases hk with h | ⟨_, h⟩ | h | h
    · omega
    · rw [h]; rfl
    · omega
    · omega
theorem mkT_mem {w0 w : World} {M : List Chunk} (g : Nat) (A : Option Addr) (n c : Nat) (k : Int) (items : List V2) (fn cap : Int) (cs : List Value) (T : TypeId) (hc : (mkT g A n c k items fn cap).cells = cs) (hT : thEl k = T)
    (hm : Mem w0 w (Blk g (.cells cs.toArray T) :: Own 2 (.slice A n c) (fV items) :: M)) : Mem w0 w (ThC (mkT g A n c k items fn cap) :: M) := by
  have h1 := (Mem.mapnil hm).nil 1 none
  have h2 : Mem w0 w ((mkT g A n c k items fn cap).chunks ++ M) := by
    unfold Th.chunks
    rw [hc, show thEl (mkT g A n c k items fn cap).ob.kind = T from hT]
    refine h1.perm ?_
    exact (List.perm_append_comm (l₁ := [Own 1 (.slice none 0 0) (nums .i64 []), MapC none []]) (l₂ := [Blk g (.cells cs.toArray T), Own 2 (.slice A n c) (fV items)])).append_right M
  exact Mem.sht _ h2
end Go.Proofs.YtgflfpepfpekhaaGreat
namespace Go.Mm
open Go.RowKit
theorem step_setrow {P : Program} {ops : Array Oper} {o : Oper} {a : Act} {K : Act → World → Prop} {Q : Exit → Act → World → Prop} {E : Prop} {w0 w : World} {L : List Chunk} (hw : Region.wanted o (yielded ops a.tmps) = true) (ty : TypeId) (p x : Operand) (ho : o.op = .store ty p x) (g : Nat) (hp : a.eval p = .pointer (some ⟨g, 0, none⟩)) (t : TypeId) (cs us : List Value) (hx : a.eval x = .agg us.toArray)
    (hm : Mem w0 w (Blk g (.cells cs.toArray t) :: L)) (hi : (P.info? ty).map (·.size) = some us.length) (hl : cs.length = us.length) (h1 : One us)
    (h : ∀ w', Mem w0 w' (Blk g (.cells us.toArray t) :: L) → K (a.put o.dst undef) w') : if Region.wanted o (yielded ops a.tmps) = true then o.wp P a w K Q else E := by
  rw [if_pos hw]
  obtain ⟨inf, hi1, hi2⟩ : ∃ inf, P.info? ty = some inf ∧ inf.size = us.length := by
    cases h : P.info? ty with
    | none => rw [h] at hi; simp at hi
    | some inf => rw [h] at hi; exact ⟨inf, rfl, by simpa using hi⟩
  have hg := hm.blk m0
  have hst := run_storeCells_at P g 0 t us 0 cs.toArray w hg (by simp [hl]) h1
  simp only [Nat.zero_add, List.take_zero, List.nil_append] at hst
  have e : cs.drop us.length = [] := by rw [List.drop_eq_nil_iff]; omega
  simp only [e, List.append_nil] at hst
  unfold Oper.wp execOp
  simp only [ho, hp, hx]
  simp [Instr.storeAt, Instr.sureAddr, storeVar, sizeOf, typeInfo, hi1, hi2, Value.cells, hst]
  refine h _ (hm.upd ⟨rfl, rfl, rfl, by simp, fun k _ hk => setRow_other w g k _ (fun e => hk e)⟩ ?_ (fun k hk => .inl hk))
  exact setRow_heap w g cs.toArray us.toArray t _ hg
end Go.Mm
namespace Go.Proofs.YtgflfpepfpekhaaGreat
open Go.RowKit Go.Mm
set_option maxHeartbeats 4000000
set_option maxRecDepth 100000
set_option linter.unusedSimpArgs false
theorem rng2 {w : World} {b o : Nat} {x : V2} (r0 : w.cell? ⟨b, o, none⟩ = some (.int .i64 x.1)) (r1 : w.cell? ⟨b, o + 1, none⟩ = some (.int .i64 x.2)) : w.rangeAt b o (cV x) := fun j v hv => by
  match j with
  | 0 => cases hv; exact r0
  | 1 => cases hv; exact r1
  | _ + 2 => cases hv
end Go.Proofs.YtgflfpepfpekhaaGreat
namespace Go.Proofs.YtgflfpepfpekhaaGreat
open Go.RowKit Go.Mm
set_option maxHeartbeats 4000000
set_option maxRecDepth 100000
set_option linter.unusedSimpArgs false
/-- An object's cells. -/
def obC (k : Int) (A : Option Addr) (n c : Nat) (KA : Option Addr) (kn kc : Nat) (fn cap : Int) (sh : Bool) : List Value := [.int .i64 k, .slice A n c, .slice KA kn kc, .int .i64 fn, .int .i64 cap, .bool sh]
theorem obC_one (k : Int) (A : Option Addr) (n c : Nat) (KA : Option Addr) (kn kc : Nat) (fn cap : Int) (sh : Bool) : One (obC k A n c KA kn kc fn cap sh) := fun u hu => by simp [obC] at hu; rcases hu with rfl | rfl | rfl | rfl | rfl | rfl <;> rfl
theorem sz_O : (Tryz.prog.info? 59).map (·.size) = some 6 := by kernel_rfl
theorem row_O : (Tryz.prog.underlying 59).map (·.isRow) = some true := by kernel_rfl
theorem objA_ok (w0 w : World) (L : List Chunk) (hm : Mem w0 w L) (g : Nat) (A : Option Addr) (n c : Nat) (xs : List V2) (hx : Fact (RdC w 2 (.slice A n c) (fV xs))) (hn : n ≤ 16777216)
    (c0 : w.cell? ⟨g, 0, none⟩ = some (.slice A n c)) :
    Calls Tryz.prog 107 #[.pointer (some ⟨g, 0, none⟩)] w fun e w' => ∃ A' c', e = .returned (.agg (obC 6 A' n c' none 0 0 0 0 false).toArray) ∧ Mem w0 w' (Own 2 (.slice A' n c') (fV xs) :: L) := by
  go_enter Tryz.func107, Tryz.ntmps107
  go_upto_region 1 with (fail)
  have hm1 := hm.alloc (.cells [.int .i64 0, .slice none 0 0, .slice none 0 0, .int .i64 0, .int .i64 0, .bool false].toArray 59)
  have hg1 := (Gr.refl w).alloc (.cells [.int .i64 0, .slice none 0 0, .slice none 0 0, .int .i64 0, .int .i64 0, .bool false].toArray 59)
  generalize hgb : w.heap.size = gb at hm1 ⊢
  generalize hw1 : w.alloc (.cells [.int .i64 0, .slice none 0 0, .slice none 0 0, .int .i64 0, .int .i64 0, .bool false].toArray 59) = w1 at hm1 hg1
  try refine wp_world hw1 ?_
  clear hw1 hgb
  replace c0 := hg1.cell c0
  go_wp2_with fail
  refine (clone_ok w1 w1 [] (Mem.start w1) A n c xs ⟨hx.out.gr hg1⟩ hn).mono ?_
  rintro e w2 ⟨A2, c2, rfl, hM2⟩
  have hm2 := hm1.join hM2
  go_wp2_with (refine wp_setrow rfl 59 _ _ rfl gb rfl 59 _ (obC 6 A2 n c2 none 0 0 0 0 false) rfl hm2.swap sz_O rfl (obC_one _ _ _ _ _ _ _ _ _ _) ?_; intro w3 hm3)
  exact bodyPost_ret (Mm.res_cell rfl _ gb 59 (obC 6 A2 n c2 none 0 0 0 0 false) (0, 0) rfl hm3 m0 row_O sz_O) rfl ⟨A2, c2, rfl, hm3.tail⟩
theorem objB_ok (w0 w : World) (L : List Chunk) (hm : Mem w0 w L) (g : Nat) (fn : Int) (A : Option Addr) (n c : Nat) (xs : List V2) (hx : Fact (RdC w 2 (.slice A n c) (fV xs))) (hn : n ≤ 16777216)
    (c0 : w.cell? ⟨g, 0, none⟩ = some (.int .i64 fn)) (c1 : w.cell? ⟨g, 1, none⟩ = some (.slice A n c)) :
    Calls Tryz.prog 112 #[.pointer (some ⟨g, 0, none⟩)] w fun e w' => ∃ A' c', e = .returned (.agg (obC 8 A' n c' none 0 0 fn 0 false).toArray) ∧ Mem w0 w' (Own 2 (.slice A' n c') (fV xs) :: L) := by
  go_enter Tryz.func112, Tryz.ntmps112
  go_upto_region 1 with (fail)
  have hm1 := hm.alloc (.cells [.int .i64 0, .slice none 0 0, .slice none 0 0, .int .i64 0, .int .i64 0, .bool false].toArray 59)
  have hg1 := (Gr.refl w).alloc (.cells [.int .i64 0, .slice none 0 0, .slice none 0 0, .int .i64 0, .int .i64 0, .bool false].toArray 59)
  generalize hgb : w.heap.size = gb at hm1 ⊢
  generalize hw1 : w.alloc (.cells [.int .i64 0, .slice none 0 0, .slice none 0 0, .int .i64 0, .int .i64 0, .bool false].toArray 59) = w1 at hm1 hg1
  try refine wp_world hw1 ?_
  clear hw1 hgb
  have hm2 := hm1.drew
  have hx2 := hx.out.gr hg1.drew
  have hS := And.intro (hg1.drew.cell c0) (hg1.drew.cell c1)
  refine wp_region_until (S := fun W => W.cell? ⟨g, 0, none⟩ = some (.int .i64 fn) ∧ W.cell? ⟨g, 1, none⟩ = some (.slice A n c)) 10 (by kernel_rfl) ?_
  generalize w1.drew = w2 at hS hm2 hx2 ⊢
  refine wpAnyU_take 0 (v := ?vsa0) rfl (by kernel_rfl) (by kernel_rfl) (fun _ _ _ h => h) hS (Or.inl ⟨rfl, ?ysa0⟩) ?rsa0
  case ysa0 =>
    intro W hW
    obtain ⟨hW0, hW1⟩ := hW
    go_simp
    try with_reducible rfl
  try simp only [Act.put, List.getElem_toArray, List.getElem_cons_succ, List.getElem_cons_zero, List.setIfInBounds_toArray, List.set_cons_zero, List.set_cons_succ]
  refine wpAnyU_take 1 (v := ?vsa1) rfl (by kernel_rfl) (by kernel_rfl) (fun _ _ _ h => h) hS (Or.inl ⟨rfl, ?ysa1⟩) ?rsa1
  case ysa1 =>
    intro W hW
    obtain ⟨hW0, hW1⟩ := hW
    go_simp
    try with_reducible rfl
  try simp only [Act.put, List.getElem_toArray, List.getElem_cons_succ, List.getElem_cons_zero, List.setIfInBounds_toArray, List.set_cons_zero, List.set_cons_succ]
  refine wpAnyU_take 2 (v := ?vsa2) rfl (by kernel_rfl) (by kernel_rfl) (fun _ _ _ h => h) hS (Or.inl ⟨rfl, ?ysa2⟩) ?rsa2
  case ysa2 =>
    intro W hW
    obtain ⟨hW0, hW1⟩ := hW
    go_simp
    try with_reducible rfl
  try simp only [Act.put, List.getElem_toArray, List.getElem_cons_succ, List.getElem_cons_zero, List.setIfInBounds_toArray, List.set_cons_zero, List.set_cons_succ]
  refine wpAnyU_take 3 (v := ?vsa3) rfl (by kernel_rfl) (by kernel_rfl) (fun _ _ _ h => h) hS (Or.inl ⟨rfl, ?ysa3⟩) ?rsa3
  case ysa3 =>
    intro W hW
    obtain ⟨hW0, hW1⟩ := hW
    go_simp
    try with_reducible rfl
  try simp only [Act.put, List.getElem_toArray, List.getElem_cons_succ, List.getElem_cons_zero, List.setIfInBounds_toArray, List.set_cons_zero, List.set_cons_succ]
  refine wpAnyU_take 4 (v := ?vsa4) rfl (by kernel_rfl) (by kernel_rfl) (fun _ _ _ h => h) hS (Or.inl ⟨rfl, ?ysa4⟩) ?rsa4
  case ysa4 =>
    intro W hW
    obtain ⟨hW0, hW1⟩ := hW
    go_simp
    try with_reducible rfl
  try simp only [Act.put, List.getElem_toArray, List.getElem_cons_succ, List.getElem_cons_zero, List.setIfInBounds_toArray, List.set_cons_zero, List.set_cons_succ]
  refine wpAnyU_take 5 (v := ?vsa5) rfl (by kernel_rfl) (by kernel_rfl) (fun _ _ _ h => h) hS (Or.inl ⟨rfl, ?ysa5⟩) ?rsa5
  case ysa5 =>
    intro W hW
    obtain ⟨hW0, hW1⟩ := hW
    go_simp
    try with_reducible rfl
  try simp only [Act.put, List.getElem_toArray, List.getElem_cons_succ, List.getElem_cons_zero, List.setIfInBounds_toArray, List.set_cons_zero, List.set_cons_succ]
  refine wpAnyU_take 6 (v := ?vsa6) rfl (by kernel_rfl) (by kernel_rfl) (fun _ _ _ h => h) hS (Or.inl ⟨rfl, ?ysa6⟩) ?rsa6
  case ysa6 =>
    intro W hW
    obtain ⟨hW0, hW1⟩ := hW
    go_simp
    try with_reducible rfl
  try simp only [Act.put, List.getElem_toArray, List.getElem_cons_succ, List.getElem_cons_zero, List.setIfInBounds_toArray, List.set_cons_zero, List.set_cons_succ]
  refine wpAnyU_take 7 (v := ?vsa7) rfl (by kernel_rfl) (by kernel_rfl) (fun _ _ _ h => h) hS (Or.inl ⟨rfl, ?ysa7⟩) ?rsa7
  case ysa7 =>
    intro W hW
    obtain ⟨hW0, hW1⟩ := hW
    go_simp
    try with_reducible rfl
  try simp only [Act.put, List.getElem_toArray, List.getElem_cons_succ, List.getElem_cons_zero, List.setIfInBounds_toArray, List.set_cons_zero, List.set_cons_succ]
  refine wpAnyU_one 8 (by kernel_rfl) rfl (fun K hK => ?_)
  refine step_call rfl 82 Tryz.f82 Tryz.func82 (by kernel_rfl) (by kernel_rfl) _ _ rfl #[.slice A n c] (by simp [Act.eval]) ?_
  refine (clone_ok w2 w2 [] (Mem.start w2) A n c xs ⟨hx2⟩ hn).mono ?_
  rintro e w3 ⟨A3, c3, rfl, hM3⟩
  refine ⟨_, rfl, ?_⟩
  have hT := And.intro (Gr.cell hM3.below hS.1) (Gr.cell hM3.below hS.2)
  refine hK _ _ (fun _ => hT) ?_
  clear hK K
  try simp only [Act.put, List.getElem_toArray, List.getElem_cons_succ, List.getElem_cons_zero, List.setIfInBounds_toArray, List.set_cons_zero, List.set_cons_succ]
  have hm3 := hm2.join hM3
  refine wpAnyU_one 9 (by kernel_rfl) rfl (fun K hK => ?_)
  go_simp
  refine hK _ _ (fun _ => ⟨hT.1, hT.2⟩) ?_
  clear hK K
  try simp only [Act.put, List.getElem_toArray, List.getElem_cons_succ, List.getElem_cons_zero, List.setIfInBounds_toArray, List.set_cons_zero, List.set_cons_succ]
  refine wpAnyU_one 10 (by kernel_rfl) rfl (fun K hK => ?_)
  refine step_setrow rfl 59 _ _ rfl gb rfl 59 _ (obC 8 A3 n c3 none 0 0 fn 0 false) rfl hm3.swap sz_O rfl (obC_one _ _ _ _ _ _ _ _ _ _) ?_
  intro w9 hm9
  refine hK _ _ (fun h => absurd h (by decide)) ?_
  clear hK K
  refine wpAnyU_done (by kernel_rfl) ?_ _
  go_wp2
  exact bodyPost_ret (Mm.res_cell rfl _ gb 59 (obC 8 A3 n c3 none 0 0 fn 0 false) (0, 0) rfl hm9 m0 row_O sz_O) rfl ⟨A3, c3, rfl, hm9.tail⟩
theorem objC_ok (w0 w : World) (L : List Chunk) (hm : Mem w0 w L) (g : Nat) (cap : Int) (sh : Bool) (A : Option Addr) (n c : Nat) (xs : List V2) (hx : Fact (RdC w 2 (.slice A n c) (fV xs))) (hn : n ≤ 16777216)
    (c0 : w.cell? ⟨g, 0, none⟩ = some (.int .i64 cap)) (c1 : w.cell? ⟨g, 1, none⟩ = some (.slice A n c)) (c2 : w.cell? ⟨g, 2, none⟩ = some (.bool sh)) :
    Calls Tryz.prog 116 #[.pointer (some ⟨g, 0, none⟩)] w fun e w' => ∃ A' c', e = .returned (.agg (obC 9 A' n c' none 0 0 0 cap sh).toArray) ∧ Mem w0 w' (Own 2 (.slice A' n c') (fV xs) :: L) := by
  go_enter Tryz.func116, Tryz.ntmps116
  go_upto_region 1 with (fail)
  have hm1 := hm.alloc (.cells [.int .i64 0, .slice none 0 0, .slice none 0 0, .int .i64 0, .int .i64 0, .bool false].toArray 59)
  have hg1 := (Gr.refl w).alloc (.cells [.int .i64 0, .slice none 0 0, .slice none 0 0, .int .i64 0, .int .i64 0, .bool false].toArray 59)
  generalize hgb : w.heap.size = gb at hm1 ⊢
  generalize hw1 : w.alloc (.cells [.int .i64 0, .slice none 0 0, .slice none 0 0, .int .i64 0, .int .i64 0, .bool false].toArray 59) = w1 at hm1 hg1
  try refine wp_world hw1 ?_
  clear hw1 hgb
  have hm2 := hm1.drew
  have hx2 := hx.out.gr hg1.drew
  have hS := And.intro (hg1.drew.cell c0) (And.intro (hg1.drew.cell c1) (hg1.drew.cell c2))
  refine wp_region_until (S := fun W => W.cell? ⟨g, 0, none⟩ = some (.int .i64 cap) ∧ W.cell? ⟨g, 1, none⟩ = some (.slice A n c) ∧ W.cell? ⟨g, 2, none⟩ = some (.bool sh)) 14 (by kernel_rfl) ?_
  generalize w1.drew = w2 at hS hm2 hx2 ⊢
  refine wpAnyU_take 0 (v := ?vsa0) rfl (by kernel_rfl) (by kernel_rfl) (fun _ _ _ h => h) hS (Or.inl ⟨rfl, ?ysa0⟩) ?rsa0
  case ysa0 =>
    intro W hW
    obtain ⟨hW0, hW1, hW2⟩ := hW
    go_simp
    try with_reducible rfl
  try simp only [Act.put, List.getElem_toArray, List.getElem_cons_succ, List.getElem_cons_zero, List.setIfInBounds_toArray, List.set_cons_zero, List.set_cons_succ]
  refine wpAnyU_take 1 (v := ?vsa1) rfl (by kernel_rfl) (by kernel_rfl) (fun _ _ _ h => h) hS (Or.inl ⟨rfl, ?ysa1⟩) ?rsa1
  case ysa1 =>
    intro W hW
    obtain ⟨hW0, hW1, hW2⟩ := hW
    go_simp
    try with_reducible rfl
  try simp only [Act.put, List.getElem_toArray, List.getElem_cons_succ, List.getElem_cons_zero, List.setIfInBounds_toArray, List.set_cons_zero, List.set_cons_succ]
  refine wpAnyU_take 2 (v := ?vsa2) rfl (by kernel_rfl) (by kernel_rfl) (fun _ _ _ h => h) hS (Or.inl ⟨rfl, ?ysa2⟩) ?rsa2
  case ysa2 =>
    intro W hW
    obtain ⟨hW0, hW1, hW2⟩ := hW
    go_simp
    try with_reducible rfl
  try simp only [Act.put, List.getElem_toArray, List.getElem_cons_succ, List.getElem_cons_zero, List.setIfInBounds_toArray, List.set_cons_zero, List.set_cons_succ]
  refine wpAnyU_take 3 (v := ?vsa3) rfl (by kernel_rfl) (by kernel_rfl) (fun _ _ _ h => h) hS (Or.inl ⟨rfl, ?ysa3⟩) ?rsa3
  case ysa3 =>
    intro W hW
    obtain ⟨hW0, hW1, hW2⟩ := hW
    go_simp
    try with_reducible rfl
  try simp only [Act.put, List.getElem_toArray, List.getElem_cons_succ, List.getElem_cons_zero, List.setIfInBounds_toArray, List.set_cons_zero, List.set_cons_succ]
  refine wpAnyU_take 4 (v := ?vsa4) rfl (by kernel_rfl) (by kernel_rfl) (fun _ _ _ h => h) hS (Or.inl ⟨rfl, ?ysa4⟩) ?rsa4
  case ysa4 =>
    intro W hW
    obtain ⟨hW0, hW1, hW2⟩ := hW
    go_simp
    try with_reducible rfl
  try simp only [Act.put, List.getElem_toArray, List.getElem_cons_succ, List.getElem_cons_zero, List.setIfInBounds_toArray, List.set_cons_zero, List.set_cons_succ]
  refine wpAnyU_take 5 (v := ?vsa5) rfl (by kernel_rfl) (by kernel_rfl) (fun _ _ _ h => h) hS (Or.inl ⟨rfl, ?ysa5⟩) ?rsa5
  case ysa5 =>
    intro W hW
    obtain ⟨hW0, hW1, hW2⟩ := hW
    go_simp
    try with_reducible rfl
  try simp only [Act.put, List.getElem_toArray, List.getElem_cons_succ, List.getElem_cons_zero, List.setIfInBounds_toArray, List.set_cons_zero, List.set_cons_succ]
  refine wpAnyU_take 6 (v := ?vsa6) rfl (by kernel_rfl) (by kernel_rfl) (fun _ _ _ h => h) hS (Or.inl ⟨rfl, ?ysa6⟩) ?rsa6
  case ysa6 =>
    intro W hW
    obtain ⟨hW0, hW1, hW2⟩ := hW
    go_simp
    try with_reducible rfl
  try simp only [Act.put, List.getElem_toArray, List.getElem_cons_succ, List.getElem_cons_zero, List.setIfInBounds_toArray, List.set_cons_zero, List.set_cons_succ]
  refine wpAnyU_take 7 (v := ?vsa7) rfl (by kernel_rfl) (by kernel_rfl) (fun _ _ _ h => h) hS (Or.inl ⟨rfl, ?ysa7⟩) ?rsa7
  case ysa7 =>
    intro W hW
    obtain ⟨hW0, hW1, hW2⟩ := hW
    go_simp
    try with_reducible rfl
  try simp only [Act.put, List.getElem_toArray, List.getElem_cons_succ, List.getElem_cons_zero, List.setIfInBounds_toArray, List.set_cons_zero, List.set_cons_succ]
  refine wpAnyU_take 9 (v := ?vsa9) rfl (by kernel_rfl) (by kernel_rfl) (fun _ _ _ h => h) hS (Or.inl ⟨rfl, ?ysa9⟩) ?rsa9
  case ysa9 =>
    intro W hW
    obtain ⟨hW0, hW1, hW2⟩ := hW
    go_simp
    try with_reducible rfl
  try simp only [Act.put, List.getElem_toArray, List.getElem_cons_succ, List.getElem_cons_zero, List.setIfInBounds_toArray, List.set_cons_zero, List.set_cons_succ]
  refine wpAnyU_take 10 (v := ?vsa10) rfl (by kernel_rfl) (by kernel_rfl) (fun _ _ _ h => h) hS (Or.inl ⟨rfl, ?ysa10⟩) ?rsa10
  case ysa10 =>
    intro W hW
    obtain ⟨hW0, hW1, hW2⟩ := hW
    go_simp
    try with_reducible rfl
  try simp only [Act.put, List.getElem_toArray, List.getElem_cons_succ, List.getElem_cons_zero, List.setIfInBounds_toArray, List.set_cons_zero, List.set_cons_succ]
  refine wpAnyU_take 11 (v := ?vsa11) rfl (by kernel_rfl) (by kernel_rfl) (fun _ _ _ h => h) hS (Or.inl ⟨rfl, ?ysa11⟩) ?rsa11
  case ysa11 =>
    intro W hW
    obtain ⟨hW0, hW1, hW2⟩ := hW
    go_simp
    try with_reducible rfl
  try simp only [Act.put, List.getElem_toArray, List.getElem_cons_succ, List.getElem_cons_zero, List.setIfInBounds_toArray, List.set_cons_zero, List.set_cons_succ]
  refine wpAnyU_take 12 (v := ?vsa12) rfl (by kernel_rfl) (by kernel_rfl) (fun _ _ _ h => h) hS (Or.inl ⟨rfl, ?ysa12⟩) ?rsa12
  case ysa12 =>
    intro W hW
    obtain ⟨hW0, hW1, hW2⟩ := hW
    go_simp
    try with_reducible rfl
  try simp only [Act.put, List.getElem_toArray, List.getElem_cons_succ, List.getElem_cons_zero, List.setIfInBounds_toArray, List.set_cons_zero, List.set_cons_succ]
  refine wpAnyU_one 8 (by kernel_rfl) rfl (fun K hK => ?_)
  refine step_call rfl 82 Tryz.f82 Tryz.func82 (by kernel_rfl) (by kernel_rfl) _ _ rfl #[.slice A n c] (by simp [Act.eval]) ?_
  refine (clone_ok w2 w2 [] (Mem.start w2) A n c xs ⟨hx2⟩ hn).mono ?_
  rintro e w3 ⟨A3, c3, rfl, hM3⟩
  refine ⟨_, rfl, ?_⟩
  have hT := And.intro (Gr.cell hM3.below hS.1) (And.intro (Gr.cell hM3.below hS.2.1) (Gr.cell hM3.below hS.2.2))
  refine hK _ _ (fun _ => hT) ?_
  clear hK K
  try simp only [Act.put, List.getElem_toArray, List.getElem_cons_succ, List.getElem_cons_zero, List.setIfInBounds_toArray, List.set_cons_zero, List.set_cons_succ]
  have hm3 := hm2.join hM3
  refine wpAnyU_one 13 (by kernel_rfl) rfl (fun K hK => ?_)
  go_simp
  refine hK _ _ (fun _ => ⟨hT.1, hT.2.1, hT.2.2⟩) ?_
  clear hK K
  try simp only [Act.put, List.getElem_toArray, List.getElem_cons_succ, List.getElem_cons_zero, List.setIfInBounds_toArray, List.set_cons_zero, List.set_cons_succ]
  refine wpAnyU_one 14 (by kernel_rfl) rfl (fun K hK => ?_)
  refine step_setrow rfl 59 _ _ rfl gb rfl 59 _ (obC 9 A3 n c3 none 0 0 0 cap sh) rfl hm3.swap sz_O rfl (obC_one _ _ _ _ _ _ _ _ _ _) ?_
  intro w9 hm9
  refine hK _ _ (fun h => absurd h (by decide)) ?_
  clear hK K
  refine wpAnyU_done (by kernel_rfl) ?_ _
  go_wp2
  exact bodyPost_ret (Mm.res_cell rfl _ gb 59 (obC 9 A3 n c3 none 0 0 0 cap sh) (0, 0) rfl hm9 m0 row_O sz_O) rfl ⟨A3, c3, rfl, hm9.tail⟩
theorem objR_ok (w0 w : World) (L : List Chunk) (hm : Mem w0 w L) (g : Nat) (A : Option Addr) (n c : Nat) (xs : List V2) (hx : Fact (RdC w 2 (.slice A n c) (fV xs))) (hn : n ≤ 16777216) (KA : Option Addr) (kn kc : Nat) (ks : List Int) (hk : Fact (RdC w 1 (.slice KA kn kc) (nums .i64 ks))) (hkn : kn ≤ 16777216)
    (c0 : w.cell? ⟨g, 0, none⟩ = some (.slice KA kn kc)) (c1 : w.cell? ⟨g, 1, none⟩ = some (.slice A n c)) :
    Calls Tryz.prog 120 #[.pointer (some ⟨g, 0, none⟩)] w fun e w' => ∃ A' c' K' k', e = .returned (.agg (obC 7 A' n c' K' kn k' 0 0 false).toArray) ∧ Mem w0 w' (Own 2 (.slice A' n c') (fV xs) :: Own 1 (.slice K' kn k') (nums .i64 ks) :: L) := by
  go_enter Tryz.func120, Tryz.ntmps120
  go_upto_region 1 with (fail)
  have hm1 := hm.alloc (.cells [.int .i64 0, .slice none 0 0, .slice none 0 0, .int .i64 0, .int .i64 0, .bool false].toArray 59)
  have hg1 := (Gr.refl w).alloc (.cells [.int .i64 0, .slice none 0 0, .slice none 0 0, .int .i64 0, .int .i64 0, .bool false].toArray 59)
  generalize hgb : w.heap.size = gb at hm1 ⊢
  generalize hw1 : w.alloc (.cells [.int .i64 0, .slice none 0 0, .slice none 0 0, .int .i64 0, .int .i64 0, .bool false].toArray 59) = w1 at hm1 hg1
  try refine wp_world hw1 ?_
  clear hw1 hgb
  have hm2 := hm1.drew
  have hx2 := hx.out.gr hg1.drew
  have hk2 := hk.out.gr hg1.drew
  have hS := And.intro (hg1.drew.cell c0) (hg1.drew.cell c1)
  refine wp_region_until (S := fun W => W.cell? ⟨g, 0, none⟩ = some (.slice KA kn kc) ∧ W.cell? ⟨g, 1, none⟩ = some (.slice A n c)) 11 (by kernel_rfl) ?_
  generalize w1.drew = w2 at hS hm2 hx2 hk2 ⊢
  refine wpAnyU_take 0 (v := ?vsa0) rfl (by kernel_rfl) (by kernel_rfl) (fun _ _ _ h => h) hS (Or.inl ⟨rfl, ?ysa0⟩) ?rsa0
  case ysa0 =>
    intro W hW
    obtain ⟨hW0, hW1⟩ := hW
    go_simp
    try with_reducible rfl
  try simp only [Act.put, List.getElem_toArray, List.getElem_cons_succ, List.getElem_cons_zero, List.setIfInBounds_toArray, List.set_cons_zero, List.set_cons_succ]
  refine wpAnyU_take 1 (v := ?vsa1) rfl (by kernel_rfl) (by kernel_rfl) (fun _ _ _ h => h) hS (Or.inl ⟨rfl, ?ysa1⟩) ?rsa1
  case ysa1 =>
    intro W hW
    obtain ⟨hW0, hW1⟩ := hW
    go_simp
    try with_reducible rfl
  try simp only [Act.put, List.getElem_toArray, List.getElem_cons_succ, List.getElem_cons_zero, List.setIfInBounds_toArray, List.set_cons_zero, List.set_cons_succ]
  refine wpAnyU_take 2 (v := ?vsa2) rfl (by kernel_rfl) (by kernel_rfl) (fun _ _ _ h => h) hS (Or.inl ⟨rfl, ?ysa2⟩) ?rsa2
  case ysa2 =>
    intro W hW
    obtain ⟨hW0, hW1⟩ := hW
    go_simp
    try with_reducible rfl
  try simp only [Act.put, List.getElem_toArray, List.getElem_cons_succ, List.getElem_cons_zero, List.setIfInBounds_toArray, List.set_cons_zero, List.set_cons_succ]
  refine wpAnyU_take 3 (v := ?vsa3) rfl (by kernel_rfl) (by kernel_rfl) (fun _ _ _ h => h) hS (Or.inl ⟨rfl, ?ysa3⟩) ?rsa3
  case ysa3 =>
    intro W hW
    obtain ⟨hW0, hW1⟩ := hW
    go_simp
    try with_reducible rfl
  try simp only [Act.put, List.getElem_toArray, List.getElem_cons_succ, List.getElem_cons_zero, List.setIfInBounds_toArray, List.set_cons_zero, List.set_cons_succ]
  refine wpAnyU_take 5 (v := ?vsa5) rfl (by kernel_rfl) (by kernel_rfl) (fun _ _ _ h => h) hS (Or.inl ⟨rfl, ?ysa5⟩) ?rsa5
  case ysa5 =>
    intro W hW
    obtain ⟨hW0, hW1⟩ := hW
    go_simp
    try with_reducible rfl
  try simp only [Act.put, List.getElem_toArray, List.getElem_cons_succ, List.getElem_cons_zero, List.setIfInBounds_toArray, List.set_cons_zero, List.set_cons_succ]
  refine wpAnyU_take 6 (v := ?vsa6) rfl (by kernel_rfl) (by kernel_rfl) (fun _ _ _ h => h) hS (Or.inl ⟨rfl, ?ysa6⟩) ?rsa6
  case ysa6 =>
    intro W hW
    obtain ⟨hW0, hW1⟩ := hW
    go_simp
    try with_reducible rfl
  try simp only [Act.put, List.getElem_toArray, List.getElem_cons_succ, List.getElem_cons_zero, List.setIfInBounds_toArray, List.set_cons_zero, List.set_cons_succ]
  refine wpAnyU_take 7 (v := ?vsa7) rfl (by kernel_rfl) (by kernel_rfl) (fun _ _ _ h => h) hS (Or.inl ⟨rfl, ?ysa7⟩) ?rsa7
  case ysa7 =>
    intro W hW
    obtain ⟨hW0, hW1⟩ := hW
    go_simp
    try with_reducible rfl
  try simp only [Act.put, List.getElem_toArray, List.getElem_cons_succ, List.getElem_cons_zero, List.setIfInBounds_toArray, List.set_cons_zero, List.set_cons_succ]
  refine wpAnyU_take 8 (v := ?vsa8) rfl (by kernel_rfl) (by kernel_rfl) (fun _ _ _ h => h) hS (Or.inl ⟨rfl, ?ysa8⟩) ?rsa8
  case ysa8 =>
    intro W hW
    obtain ⟨hW0, hW1⟩ := hW
    go_simp
    try with_reducible rfl
  try simp only [Act.put, List.getElem_toArray, List.getElem_cons_succ, List.getElem_cons_zero, List.setIfInBounds_toArray, List.set_cons_zero, List.set_cons_succ]
  refine wpAnyU_one 4 (by kernel_rfl) rfl (fun K hK => ?_)
  refine step_call rfl 122 Tryz.f122 Tryz.func122 (by kernel_rfl) (by kernel_rfl) _ _ rfl #[.slice KA kn kc] (by simp [Act.eval]) ?_
  refine (cloneN_ok w2 w2 [] (Mem.start w2) KA kn kc ks ⟨hk2⟩ hkn).mono ?_
  rintro e w3 ⟨A3, c3, rfl, hM3⟩
  refine ⟨_, rfl, ?_⟩
  have hT := And.intro (Gr.cell hM3.below hS.1) (Gr.cell hM3.below hS.2)
  refine hK _ _ (fun _ => hT) ?_
  clear hK K
  try simp only [Act.put, List.getElem_toArray, List.getElem_cons_succ, List.getElem_cons_zero, List.setIfInBounds_toArray, List.set_cons_zero, List.set_cons_succ]
  have hm3 := hm2.join hM3
  have hx3 := hx2.gr hM3.below
  refine wpAnyU_one 9 (by kernel_rfl) rfl (fun K hK => ?_)
  refine step_call rfl 82 Tryz.f82 Tryz.func82 (by kernel_rfl) (by kernel_rfl) _ _ rfl #[.slice A n c] (by simp [Act.eval]) ?_
  refine (clone_ok w3 w3 [] (Mem.start w3) A n c xs ⟨hx3⟩ hn).mono ?_
  rintro e w4 ⟨A4, c4, rfl, hM4⟩
  refine ⟨_, rfl, ?_⟩
  have hU := And.intro (Gr.cell hM4.below hT.1) (Gr.cell hM4.below hT.2)
  refine hK _ _ (fun _ => hU) ?_
  clear hK K
  try simp only [Act.put, List.getElem_toArray, List.getElem_cons_succ, List.getElem_cons_zero, List.setIfInBounds_toArray, List.set_cons_zero, List.set_cons_succ]
  have hm4 := hm3.join hM4
  refine wpAnyU_one 10 (by kernel_rfl) rfl (fun K hK => ?_)
  go_simp
  refine hK _ _ (fun _ => ⟨hU.1, hU.2⟩) ?_
  clear hK K
  try simp only [Act.put, List.getElem_toArray, List.getElem_cons_succ, List.getElem_cons_zero, List.setIfInBounds_toArray, List.set_cons_zero, List.set_cons_succ]
  refine wpAnyU_one 11 (by kernel_rfl) rfl (fun K hK => ?_)
  refine step_setrow rfl 59 _ _ rfl gb rfl 59 _ (obC 7 A4 n c4 A3 kn c3 0 0 false) rfl (hm4.perm (((List.Perm.swap _ _ _).cons _).trans (List.Perm.swap _ _ _))) sz_O rfl (obC_one _ _ _ _ _ _ _ _ _ _) ?_
  intro w9 hm9
  refine hK _ _ (fun h => absurd h (by decide)) ?_
  clear hK K
  refine wpAnyU_done (by kernel_rfl) ?_ _
  go_wp2
  exact bodyPost_ret (Mm.res_cell rfl _ gb 59 (obC 7 A4 n c4 A3 kn c3 0 0 false) (0, 0) rfl hm9 m0 row_O sz_O) rfl ⟨A4, c4, A3, c3, rfl, hm9.tail⟩
end Go.Proofs.YtgflfpepfpekhaaGreat
namespace Go.Proofs.YtgflfpepfpekhaaGreat
open Go.RowKit Go.Mm
set_option maxHeartbeats 4000000
set_option maxRecDepth 100000
/-- An object handed out: in memory of its own. -/
def ObQ (w0 : World) (L : List Chunk) (o : Ob) (v : Value) (w : World) : Prop := ∃ A c K k, v = .agg (obC o.kind A o.items.length c K o.keys.length k o.fn o.cap o.shut).toArray ∧ Mem w0 w (Own 2 (.slice A o.items.length c) (fV o.items) :: Own 1 (.slice K o.keys.length k) (nums .i64 o.keys) :: L)
theorem mobA (a : Addr) (w : World) : (callMethod (.iface 143 (.pointer (some a))) "portage/heap.object" #[]).run Tryz.prog w = .ok (.enter 107 #[.pointer (some a)]) w := by kernel_rfl
theorem mobR (a : Addr) (w : World) : (callMethod (.iface 152 (.pointer (some a))) "portage/heap.object" #[]).run Tryz.prog w = .ok (.enter 120 #[.pointer (some a)]) w := by kernel_rfl
theorem mobB (a : Addr) (w : World) : (callMethod (.iface 146 (.pointer (some a))) "portage/heap.object" #[]).run Tryz.prog w = .ok (.enter 112 #[.pointer (some a)]) w := by kernel_rfl
theorem mobC (a : Addr) (w : World) : (callMethod (.iface 149 (.pointer (some a))) "portage/heap.object" #[]).run Tryz.prog w = .ok (.enter 116 #[.pointer (some a)]) w := by kernel_rfl
/-- What a thing's chunks say. -/
theorem Th.reads {t : Th} {w : World} (h : ∀ c, c ∈ t.chunks → c.ok w) : (∀ (i : Nat) (u : Value), t.cells[i]? = some u → w.cell? ⟨t.g, i, none⟩ = some u) ∧ RdC w 2 (.slice t.A t.n t.c) (fV t.ob.items) ∧ RdC w 1 (.slice t.KA t.kn t.kc) (nums .i64 t.ob.keys) := by
  have h1 : w.heap[t.g]? = some (.cells t.cells.toArray (thEl t.ob.kind) (0, 0)) := h _ (.head _)
  have h2 : OwnAt 2 (.slice t.A t.n t.c) (fV t.ob.items) w := h _ (.tail _ (.head _))
  have h3 : OwnAt 1 (.slice t.KA t.kn t.kc) (nums .i64 t.ob.keys) w := h _ (.tail _ (.tail _ (.head _)))
  exact ⟨fun i u hu => by rw [cell_of_row w _ _ _ _ _ h1]; simpa using hu, h2.rd, h3.rd⟩
theorem objI_ok (w0 w : World) (L : List Chunk) (hm : Mem w0 w L) (t : Th) (ht : t.Ok) (hc : ∀ c, c ∈ t.chunks → c.ok w) :
    ICalls Tryz.prog t.val "portage/heap.object" #[] w fun e w' => ∃ v, e = .returned v ∧ ObQ w0 L t.ob v w' := by
  obtain ⟨h0, hx, hk⟩ := Th.reads hc
  have hl := rdV_len hx
  have hkl := RdC.nlen hk
  have hsz := ht.size
  have nk := ht.nokeys
  have nf := ht.fn
  have nc := ht.cap
  have kk := ht.keys
  unfold ObQ
  rw [hl, hkl]
  rcases t.val_of ht.kind with ⟨hkd, hv⟩ | ⟨hkd, hv⟩ | ⟨hkd, hv⟩ | ⟨hkd, hv⟩ <;> rw [hv] <;> rw [hkd] at nk nf nc kk <;> rw [hkd] <;> simp only [Th.cells, hkd] at h0
  · have e1 := nk (by decide)
    have e2 := nf (by decide)
    have e3 := nc (by decide)
    have e4 : t.kn = 0 := by rw [e1] at hkl; exact hkl.symm
    rw [e2, e3.1, e3.2, e4, e1]
    refine ⟨_, _, mobA _ w, (objA_ok w0 w L hm t.g t.A t.n t.c t.ob.items ⟨hx⟩ (by omega) (h0 0 _ rfl)).mono ?_⟩
    rintro e w' ⟨A, c, rfl, hm'⟩
    exact ⟨_, rfl, A, c, none, 0, rfl, (Mem.nil hm' 1 none).swap⟩
  · have e2 := nf (by decide)
    have e3 := nc (by decide)
    have e4 := kk rfl
    rw [e2, e3.1, e3.2]
    refine ⟨_, _, mobR _ w, (objR_ok w0 w L hm t.g t.A t.n t.c t.ob.items ⟨hx⟩ (by omega) t.KA t.kn t.kc t.ob.keys ⟨hk⟩ (by omega) (h0 0 _ rfl) (h0 1 _ rfl)).mono ?_⟩
    rintro e w' ⟨A, c, K, k, rfl, hm'⟩
    exact ⟨_, rfl, A, c, K, k, rfl, hm'⟩
  · have e1 := nk (by decide)
    have e3 := nc (by decide)
    have e4 : t.kn = 0 := by rw [e1] at hkl; exact hkl.symm
    rw [e3.1, e3.2, e4, e1]
    refine ⟨_, _, mobB _ w, (objB_ok w0 w L hm t.g t.ob.fn t.A t.n t.c t.ob.items ⟨hx⟩ (by omega) (h0 0 _ rfl) (h0 1 _ rfl)).mono ?_⟩
    rintro e w' ⟨A, c, rfl, hm'⟩
    exact ⟨_, rfl, A, c, none, 0, rfl, (Mem.nil hm' 1 none).swap⟩
  · have e1 := nk (by decide)
    have e2 := nf (by decide)
    have e4 : t.kn = 0 := by rw [e1] at hkl; exact hkl.symm
    rw [e2, e4, e1]
    refine ⟨_, _, mobC _ w, (objC_ok w0 w L hm t.g t.ob.cap t.ob.shut t.A t.n t.c t.ob.items ⟨hx⟩ (by omega) (h0 0 _ rfl) (h0 1 _ rfl) (h0 2 _ rfl)).mono ?_⟩
    rintro e w' ⟨A, c, rfl, hm'⟩
    exact ⟨_, rfl, A, c, none, 0, rfl, (Mem.nil hm' 1 none).swap⟩
def Hs.is (s : Hs) (i : Int) : Bool := decide (0 ≤ i) && decide (i < s.objs.length)
def Hs.at (s : Hs) (i : Int) : Ob := match s.is i with | true => s.objs.getD i.toNat ob0 | false => ob0
end Go.Proofs.YtgflfpepfpekhaaGreat
namespace Go.Proofs.YtgflfpepfpekhaaGreat
open Go.RowKit Go.Mm Go.WideShapes Go.ChangeShapes
set_option maxHeartbeats 1000000
set_option maxRecDepth 100000
section
variable {H : Type} {enc : TypeId × Value → H} {w : World}
end
end Go.Proofs.YtgflfpepfpekhaaGreat
namespace Go.Mm
open Go.RowKit
/-- A row of cells stored over a part of a known block, the first chunk. -/
theorem wp_setat {P : Program} {ops : Array Oper} {rest : List Oper} {o : Oper} {a : Act} {Q : Exit → Act → World → Prop} {w0 w : World} {L : List Chunk} (hw : Region.wanted o (yielded ops a.tmps) = true) (ty : TypeId) (p x : Operand) (ho : o.op = .store ty p x) (g off : Nat) (hp : a.eval p = .pointer (some ⟨g, off, none⟩)) (t : TypeId) (cs us cs' : List Value) (v : Value) (hx : a.eval x = v) (hv : v.cells = us.toArray)
    (hm : Mem w0 w (Blk g (.cells cs.toArray t) :: L)) (hi : (P.info? ty).map (·.size) = some us.length) (hl : off + us.length ≤ cs.length) (h1 : One us) (he : cs.take off ++ us ++ cs.drop (off + us.length) = cs')
    (h : ∀ w', Mem w0 w' (Blk g (.cells cs'.toArray t) :: L) → wpList P ops Q rest (a.put o.dst undef) w') : wpList P ops Q (o :: rest) a w :=
  wpList_want hw fun K hK => by
    subst he
    obtain ⟨inf, hi1, hi2⟩ : ∃ inf, P.info? ty = some inf ∧ inf.size = us.length := by
      cases h : P.info? ty with
      | none => rw [h] at hi; simp at hi
      | some inf => rw [h] at hi; exact ⟨inf, rfl, by simpa using hi⟩
    have hg := hm.blk m0
    have hst := run_storeCells_at P g off t us 0 cs.toArray w hg (by simpa using hl) h1
    simp only [Nat.add_zero] at hst
    unfold Oper.wp execOp
    simp only [ho, hp, hx]
    simp [Instr.storeAt, Instr.sureAddr, storeVar, sizeOf, typeInfo, hi1, hi2, hv, hst]
    refine hK _ _ (h _ (hm.upd ⟨rfl, rfl, rfl, by simp, fun k _ hk => setRow_other w g k _ (fun e => hk e)⟩ ?_ (fun k hk => .inl hk)))
    show (w.setRow g _).heap[g]? = _
    simpa using setRow_heap w g cs.toArray (cs.take off ++ us ++ cs.drop (off + us.length)).toArray t _ hg
theorem step_setat {P : Program} {ops : Array Oper} {o : Oper} {a : Act} {Q : Exit → Act → World → Prop} {K : Act → World → Prop} {E : Prop} {w0 w : World} {L : List Chunk} (hw : Region.wanted o (yielded ops a.tmps) = true) (ty : TypeId) (p x : Operand) (ho : o.op = .store ty p x) (g off : Nat) (hp : a.eval p = .pointer (some ⟨g, off, none⟩)) (t : TypeId) (cs us cs' : List Value) (v : Value) (hx : a.eval x = v) (hv : v.cells = us.toArray)
    (hm : Mem w0 w (Blk g (.cells cs.toArray t) :: L)) (hi : (P.info? ty).map (·.size) = some us.length) (hl : off + us.length ≤ cs.length) (h1 : One us) (he : cs.take off ++ us ++ cs.drop (off + us.length) = cs')
    (h : ∀ w', Mem w0 w' (Blk g (.cells cs'.toArray t) :: L) → K (a.put o.dst undef) w') : if Region.wanted o (yielded ops a.tmps) = true then o.wp P a w K Q else E := by
  rw [if_pos hw]
  subst he
  obtain ⟨inf, hi1, hi2⟩ : ∃ inf, P.info? ty = some inf ∧ inf.size = us.length := by
    cases h : P.info? ty with
    | none => rw [h] at hi; simp at hi
    | some inf => rw [h] at hi; exact ⟨inf, rfl, by simpa using hi⟩
  have hg := hm.blk m0
  have hst := run_storeCells_at P g off t us 0 cs.toArray w hg (by simpa using hl) h1
  simp only [Nat.add_zero] at hst
  unfold Oper.wp execOp
  simp only [ho, hp, hx]
  simp [Instr.storeAt, Instr.sureAddr, storeVar, sizeOf, typeInfo, hi1, hi2, hv, hst]
  refine h _ (hm.upd ⟨rfl, rfl, rfl, by simp, fun k _ hk => setRow_other w g k _ (fun e => hk e)⟩ ?_ (fun k hk => .inl hk))
  show (w.setRow g _).heap[g]? = _
  simpa using setRow_heap w g cs.toArray (cs.take off ++ us ++ cs.drop (off + us.length)).toArray t _ hg
theorem one_one {v : Value} (h : v.oneCell' = true) : One [v] := fun u hu => by simp at hu; subst hu; exact h
end Go.Mm
namespace Go.Proofs.YtgflfpepfpekhaaGreat
open Go.RowKit Go.Mm
set_option maxHeartbeats 4000000
set_option maxRecDepth 100000
structure Sd where
  v : V2
  n : Int
  trap : Int
  ok : Bool
  ob : Ob
  list : List Int
/-- An answer's cells. -/
def sC (v1 v2 n trap : Int) (ok : Bool) (k : Int) (A : Option Addr) (m c : Nat) (KA : Option Addr) (kn kc : Nat) (fn cap : Int) (sh : Bool) (LA : Option Addr) (ln lc : Nat) : List Value :=
  [.int .i64 v1, .int .i64 v2, .int .i64 n, .int .i64 trap, .bool ok, .int .i64 k, .slice A m c, .slice KA kn kc, .int .i64 fn, .int .i64 cap, .bool sh, .slice LA ln lc]
def sdC (s : Sd) (A : Option Addr) (c : Nat) (K : Option Addr) (k : Nat) (LA : Option Addr) (lc : Nat) : List Value := sC s.v.1 s.v.2 s.n s.trap s.ok s.ob.kind A s.ob.items.length c K s.ob.keys.length k s.ob.fn s.ob.cap s.ob.shut LA s.list.length lc
end Go.Proofs.YtgflfpepfpekhaaGreat
namespace Go.Mm
end Go.Mm
namespace Go.Proofs.YtgflfpepfpekhaaGreat
open Go.RowKit Go.Mm
set_option maxHeartbeats 4000000
set_option maxRecDepth 100000
set_option linter.unusedSimpArgs false
theorem measP_lt {m k : Nat} (h : k < m) : m - (intOf (.int .i64 ((k : Int) + 1))).toNat < m - (intOf (.int .i64 (k : Int))).toNat := by
  simp [intOf]
  omega
end Go.Proofs.YtgflfpepfpekhaaGreat
namespace Go.Mm
open Go.RowKit
end Go.Mm
namespace Go.Proofs.YtgflfpepfpekhaaGreat
open Go.RowKit Go.Mm
set_option maxHeartbeats 4000000
set_option maxRecDepth 100000
set_option linter.unusedSimpArgs false
/-- An object in memory. -/
structure RO where
  A : Option Addr
  c : Nat
  KA : Option Addr
  kc : Nat
  ob : Ob
def ro0 : RO := ⟨none, 0, none, 0, ob0⟩
def cRO (x : RO) : List Value := obC x.ob.kind x.A x.ob.items.length x.c x.KA x.ob.keys.length x.kc x.ob.fn x.ob.cap x.ob.shut
theorem cRO_len (x : RO) : (cRO x).length = 6 := rfl
theorem cRO_one (x : RO) : One (cRO x) := obC_one _ _ _ _ _ _ _ _ _ _
def RO.reads (x : RO) (w : World) : Prop := RdC w 2 (.slice x.A x.ob.items.length x.c) (fV x.ob.items) ∧ RdC w 1 (.slice x.KA x.ob.keys.length x.kc) (nums .i64 x.ob.keys)
theorem RO.reads.gr {x : RO} {w w' : World} (h : x.reads w) (hg : Gr w w') : x.reads w' := ⟨h.1.gr hg, h.2.gr hg⟩
/-- A list of objects that can be read. -/
structure ObsR (w : World) (A : Option Addr) (n c : Nat) (xs : List RO) : Prop where
  rd : RdC w 6 (.slice A n c) (xs.flatMap cRO)
  each : ∀ x, x ∈ xs → x.reads w
theorem ObsR.gr {w w' : World} {A : Option Addr} {n c : Nat} {xs : List RO} (h : ObsR w A n c xs) (hg : Gr w w') : ObsR w' A n c xs := ⟨h.rd.gr hg, fun x hx => (h.each x hx).gr hg⟩
theorem ObsR.len {w : World} {A : Option Addr} {n c : Nat} {xs : List RO} (h : ObsR w A n c xs) : xs.length = n := rd_len cRO_len (by omega) h.rd
theorem ObsR.at {w : World} {A : Option Addr} {n c : Nat} {xs : List RO} (h : ObsR w A n c xs) (k : Nat) (hk : k < n) :
    ∃ b o, A = some ⟨b, o, none⟩ ∧ (∀ (j : Nat) (u : Value), (cRO (xs.getD k ro0))[j]? = some u → w.cell? ⟨b, o + k * 6 + j, none⟩ = some u) ∧ k < xs.length ∧ (xs.getD k ro0).reads w := by
  obtain ⟨b, o, e, hc, _, h2⟩ := rd_at cRO_len (by omega) ro0 h.rd k hk
  refine ⟨b, o, e, hc, h2, h.each _ ?_⟩
  rw [List.getD_eq_getElem?_getD, List.getElem?_eq_getElem h2]
  exact List.getElem_mem h2
theorem sameV_q (w : World) (A B : Option Addr) (n c d : Nat) (xs : List V2) (hx : Fact (RdC w 2 (.slice A n c) (fV xs))) (hy : Fact (RdC w 2 (.slice B n d) (fV xs))) (hn : n ≤ 16777216) :
    Calls Tryz.prog 9 #[.slice A n c, .slice B n d] w fun e w' => e = .returned (.bool true) ∧ ∃ m, w' = w.drewN m := by
  have hl := Fact.mk (rdV_len hx.out)
  go_enter Tryz.func9, Tryz.ntmps9
  go_wp2
  go_loopw [5] (fun v w' => ∃ (k : Nat), v = .int .i64 k ∧ k ≤ n ∧ ∃ m, w' = w.drewN m) (fun v _ => n - (intOf v).toNat)
  case atStart => exact ⟨0, rfl, by omega, 0, rfl⟩
  case round =>
    obtain ⟨k, rfl, hk, m, rfl⟩ := hrel
    by_cases hlt : k < n
    · obtain ⟨b, o, rfl, g1, g2, ht, _⟩ := rdV_at hx.out k hlt
      obtain ⟨bb, ob, rfl, g1b, g2b, htb, _⟩ := rdV_at hy.out k hlt
      generalize xs.getD k (0, 0) = x at g1 g2 g1b g2b ht htb
      clear ht htb
      go_upto_region 6 with (fail)
      go_quiet (fail)
      go_wp2
      go_roundw
      case rel => exact ⟨k + 1, by go_num, by omega, _, rfl⟩
      case measure => simp [intOf]; omega
    · go_wp2
      go_ret
      exact ⟨rfl, _, rfl⟩
theorem sameLongs_q (w : World) (A B : Option Addr) (n c d : Nat) (xs : List Int) (hx : Fact (RdC w 1 (.slice A n c) (nums .i64 xs))) (hy : Fact (RdC w 1 (.slice B n d) (nums .i64 xs))) (hn : n ≤ 16777216) :
    Calls Tryz.prog 61 #[.slice A n c, .slice B n d] w fun e w' => e = .returned (.bool true) ∧ ∃ m, w' = w.drewN m := by
  go_enter Tryz.func61, Tryz.ntmps61
  go_wp2
  go_loopw [5] (fun v w' => ∃ (k : Nat), v = .int .i64 k ∧ k ≤ n ∧ ∃ m, w' = w.drewN m) (fun v _ => n - (intOf v).toNat)
  case atStart => exact ⟨0, rfl, by omega, 0, rfl⟩
  case round =>
    obtain ⟨k, rfl, hk, m, rfl⟩ := hrel
    by_cases hlt : k < n
    · obtain ⟨b, o, rfl, g1, _⟩ := hx.out.num k hlt
      obtain ⟨bb, ob, rfl, g2, _⟩ := hy.out.num k hlt
      generalize xs.getD k 0 = x at g1 g2
      go_upto_region 6 with (fail)
      go_quiet (fail)
      go_wp2
      go_roundw
      case rel => exact ⟨k + 1, by go_num, by omega, _, rfl⟩
      case measure => simp [intOf]; omega
    · go_wp2
      go_ret
      exact ⟨rfl, _, rfl⟩
theorem sameObject_ok (w : World) (x y : RO) (hx : Fact (x.reads w)) (hy : Fact (y.reads w)) (he : x.ob = y.ob) (hi : x.ob.items.length ≤ 16777216) (hk : x.ob.keys.length ≤ 16777216) :
    Calls Tryz.prog 42 #[.agg (cRO x).toArray, .agg (cRO y).toArray] w fun e w' => e = .returned (.bool true) ∧ Gr w w' := by
  obtain ⟨A, c, KA, kc, ob⟩ := x
  obtain ⟨B, d, KB, kd, ob'⟩ := y
  obtain rfl : ob = ob' := he
  obtain ⟨k, items, keys, fn, cap, sh⟩ := ob
  go_enter Tryz.func42, Tryz.ntmps42
  go_upto_region 1 with (fail)
  have hm1 := ((Mem.start w).alloc (.cells (cRO ⟨A, c, KA, kc, ⟨k, items, keys, fn, cap, sh⟩⟩).toArray 59)).alloc (.cells (cRO ⟨B, d, KB, kd, ⟨k, items, keys, fn, cap, sh⟩⟩).toArray 59)
  simp only [World.size_alloc] at hm1
  generalize hgb : w.heap.size = g at hm1 ⊢
  generalize hw1 : (w.alloc (.cells (cRO ⟨A, c, KA, kc, ⟨k, items, keys, fn, cap, sh⟩⟩).toArray 59)).alloc (.cells (cRO ⟨B, d, KB, kd, ⟨k, items, keys, fn, cap, sh⟩⟩).toArray 59) = w1 at hm1
  try refine wp_world hw1 ?_
  clear hw1 hgb
  have hg1 := Fact.mk hm1.below
  have x0 := hm1.cell m1 0 rfl
  have x1 := hm1.cell m1 1 rfl
  have x2 := hm1.cell m1 2 rfl
  have x3 := hm1.cell m1 3 rfl
  have x4 := hm1.cell m1 4 rfl
  have x5 := hm1.cell m1 5 rfl
  have y0 := hm1.cell m0 0 rfl
  have y1 := hm1.cell m0 1 rfl
  have y2 := hm1.cell m0 2 rfl
  have y3 := hm1.cell m0 3 rfl
  have y4 := hm1.cell m0 4 rfl
  have y5 := hm1.cell m0 5 rfl
  go_wp2_with fail
  refine (sameV_q w1 A B items.length c d items ⟨hx.out.1.gr hg1.out⟩ ⟨hy.out.1.gr hg1.out⟩ hi).mono ?_
  rintro e w2 ⟨rfl, m, rfl⟩
  have hg2 := Fact.mk (Gr.drewN hg1.out m)
  have z2 := ((Gr.refl w1).drewN m).cell x2
  have u2 := ((Gr.refl w1).drewN m).cell y2
  clear x0 x1 x2 x3 x4 x5 y0 y1 y2 y3 y4 y5 hm1
  generalize w1.drewN m = w2 at hg2 z2 u2 ⊢
  go_wp2_with fail
  refine (sameLongs_q w2 KA KB keys.length kc kd keys ⟨hx.out.2.gr hg2.out⟩ ⟨hy.out.2.gr hg2.out⟩ hk).mono ?_
  rintro e w3 ⟨rfl, m, rfl⟩
  go_wp2_with fail
  go_ret
  exact ⟨rfl, Gr.drewN hg2.out m⟩
/-- An answer that can be read. -/
structure SdR (w : World) (s : Sd) (v : Value) : Prop where
  ex : ∃ A c K k LA lc, v = .agg (sdC s A c K k LA lc).toArray ∧ RdC w 2 (.slice A s.ob.items.length c) (fV s.ob.items) ∧ RdC w 1 (.slice K s.ob.keys.length k) (nums .i64 s.ob.keys) ∧ RdC w 1 (.slice LA s.list.length lc) (nums .i64 s.list)
theorem SdR.gr {w w' : World} {s : Sd} {v : Value} (h : SdR w s v) (hg : Gr w w') : SdR w' s v := by
  obtain ⟨A, c, K, k, LA, lc, h1, h2, h3, h4⟩ := h.ex
  exact ⟨A, c, K, k, LA, lc, h1, h2.gr hg, h3.gr hg, h4.gr hg⟩
end Go.Proofs.YtgflfpepfpekhaaGreat
namespace Go.Proofs.YtgflfpepfpekhaaGreat
open Go.RowKit Go.Mm
set_option maxHeartbeats 4000000
set_option maxRecDepth 100000
set_option linter.unusedSimpArgs false
def RO.chunks (x : RO) : List Chunk := [Own 2 (.slice x.A x.ob.items.length x.c) (fV x.ob.items), Own 1 (.slice x.KA x.ob.keys.length x.kc) (nums .i64 x.ob.keys)]
def RoC (x : RO) : Chunk := Chunk.all x.chunks
theorem RoC.reads {x : RO} {w : World} (h : (RoC x).ok w) : x.reads w := ⟨(h.1 _ (.head _) : OwnAt _ _ _ w).rd, (h.1 _ (.tail _ (.head _)) : OwnAt _ _ _ w).rd⟩
structure Rf where
  g : Nat
  budget : Int
  spent : Int
  A : Option Addr
  c : Nat
  xs : List RO
def Rf.cells (r : Rf) : List Value := [.int .i64 r.budget, .int .i64 r.spent, .slice r.A r.xs.length r.c]
def Rf.chunks (r : Rf) : List Chunk := Blk r.g (.cells r.cells.toArray 129) :: Own 6 (.slice r.A r.xs.length r.c) (r.xs.flatMap cRO) :: r.xs.map RoC
def RfC (r : Rf) : Chunk := Chunk.all r.chunks
def Rf.abs (r : Rf) : Hs := ⟨r.budget, r.spent, r.xs.map (·.ob)⟩
structure Rf.Ok (r : Rf) : Prop where
  each : ∀ x, x ∈ r.xs → x.ob.items.length ≤ 1048576 ∧ x.ob.keys.length ≤ 1048576
  size : r.xs.length ≤ 16777216
  b0 : 0 ≤ r.budget
  b1 : r.budget ≤ 9223372036854775807
  s0 : 0 ≤ r.spent
  s1 : r.spent ≤ 9223372036854775807
theorem Rf.abs_len (r : Rf) : r.abs.objs.length = r.xs.length := by simp [Rf.abs]
theorem Rf.read {w0 w : World} {L : List Chunk} {r : Rf} (hm : Mem w0 w L) (hh : RfC r ∈ L) :
    w.cell? ⟨r.g, 0, none⟩ = some (.int .i64 r.budget) ∧ w.cell? ⟨r.g, 1, none⟩ = some (.int .i64 r.spent) ∧ w.cell? ⟨r.g, 2, none⟩ = some (.slice r.A r.xs.length r.c) ∧ ObsR w r.A r.xs.length r.c r.xs := by
  have ho := hm.ok _ hh
  have hb : w.heap[r.g]? = some (.cells r.cells.toArray 129 (0, 0)) := ho.1 _ (.head _)
  have hs : OwnAt 6 (.slice r.A r.xs.length r.c) (r.xs.flatMap cRO) w := ho.1 _ (.tail _ (.head _))
  refine ⟨by rw [cell_of_row w _ _ _ _ _ hb]; rfl, by rw [cell_of_row w _ _ _ _ _ hb]; rfl, by rw [cell_of_row w _ _ _ _ _ hb]; rfl, hs.rd, fun x hx => ?_⟩
  have ht : (RoC x).ok w := ho.1 _ (.tail _ (.tail _ (List.mem_map_of_mem hx)))
  exact RoC.reads ht
theorem refNew_ok (w0 w : World) (L : List Chunk) (hm : Mem w0 w L) (b s : Int) :
    Calls Tryz.prog 74 #[.int .i64 b, .int .i64 s] w fun e w' => ∃ g, e = .returned (.pointer (some ⟨g, 0, none⟩)) ∧ Mem w0 w' (RfC ⟨g, max b 0, max s 0, none, 0, []⟩ :: L) := by
  have key : ∀ X Y : Int, Mem w0 (w.alloc (.cells [.int .i64 X, .int .i64 Y, .slice none 0 0].toArray 129)) (RfC ⟨w.heap.size, X, Y, none, 0, []⟩ :: L) := fun X Y =>
    Mem.sht (Rf.chunks ⟨w.heap.size, X, Y, none, 0, []⟩) ((hm.nil 6 none).alloc _)
  by_cases hb : b < 0 <;> by_cases hs : s < 0
  all_goals
    go_enter Tryz.func74, Tryz.ntmps74
    go_wp2
    go_ret
    refine ⟨w.heap.size, rfl, ?_⟩
    (first | rw [show max b 0 = 0 by omega] | rw [show max b 0 = b by omega])
    (first | rw [show max s 0 = 0 by omega] | rw [show max s 0 = s by omega])
    exact key _ _
theorem ty_Os : Tryz.prog.underlying 60 = some (.slice 59) := by kernel_rfl
theorem inf_O : (Tryz.prog.info? 59).map (fun i => (i.zero, i.size, i.bytes)) = some (some (.agg #[.int .i64 0, .slice none 0 0, .slice none 0 0, .int .i64 0, .int .i64 0, .bool false]), 6, 80) := by kernel_rfl
end Go.Proofs.YtgflfpepfpekhaaGreat
namespace Go.Mm
open Go.RowKit
end Go.Mm
namespace Go.Proofs.YtgflfpepfpekhaaGreat
open Go.RowKit Go.Mm
set_option maxHeartbeats 4000000
set_option maxRecDepth 100000
set_option linter.unusedSimpArgs false
theorem sz_Os : (Tryz.prog.info? 60).map (·.size) = some 1 := by kernel_rfl
def Rf.put (r : Rf) (n : Int) (A : Option Addr) (c : Nat) (x : RO) : Rf := { r with spent := r.spent + n, A := A, c := c, xs := r.xs ++ [x] }
end Go.Proofs.YtgflfpepfpekhaaGreat
namespace Go.Proofs.YtgflfpepfpekhaaGreat
open Go.RowKit Go.Mm
set_option maxHeartbeats 1000000
set_option maxRecDepth 100000
set_option linter.unusedSimpArgs false
theorem take_snoc' (xs : List Int) (k : Nat) (h : k < xs.length) : xs.take (k + 1) = xs.take k ++ [xs.getD k 0] := by
  rw [List.take_succ_eq_append_getElem h]; simp [h]
theorem copyLongs_ok (w : World) (A : Option Addr) (n c : Nat) (xs : List Int) (hx : Fact (RdC w 1 (.slice A n c) (nums .i64 xs))) (hn : n ≤ 16777216) :
    Calls Tryz.prog 52 #[.slice A n c] w fun e w' => ∃ A' c', e = .returned (.slice A' n c') ∧ New w w' (Own 1 (.slice A' n c') (nums .i64 xs)) := by
  obtain ⟨iV, hi, hz0, hz1, hz2⟩ := info_parts inf_IH
  have hl := Fact.mk hx.out.nlen
  go_enter Tryz.func52, Tryz.ntmps52
  go_wp2
  go_loopw [3, 4] (fun l v w' => ∃ (k : Nat) (A' : Option Addr) (c' : Nat), v = .int .i64 k ∧ k ≤ n ∧ l = .slice A' k c' ∧ Mem w w' [Own 1 (.slice A' k c') (nums .i64 (xs.take k))]) (fun _ v _ => n - (intOf v).toNat)
  case atStart => exact ⟨0, none, 0, rfl, by omega, rfl, (Mem.start w).nil 1 none⟩
  case round =>
    obtain ⟨k, A', c', rfl, hk, rfl, hm⟩ := hrel
    by_cases hlt : k < n
    · obtain ⟨b, o, rfl, g1, _⟩ := hx.out.num k hlt
      have g1 := Gr.cell hm.below g1
      have ht := Fact.mk (take_snoc' xs k (by have := hl.out; omega))
      generalize xs.getD k 0 = x at g1 ht
      go_wp2_with (at_builtin; refine wp_app rfl _ _ _ rfl 2 iV _ 1 8 ty_IsH hi hz0 hz1 hz2 rfl A' k c' _ rfl (L := [Blk _ _]) (hm.alloc _).swap _ 1 1 [.int .i64 x] rfl (RdC.lit _ _ _ _ _ rfl (by simp [maxLen]) (One.nums .i64 [x])) (by unfold maxLen; omega) (by omega) ?_; intro A1 c1 w1 HM1)
      go_roundw
      case rel => exact ⟨k + 1, A1, c1, by go_num, by omega, rfl, by rw [ht.out, nums_append]; exact HM1.only⟩
      case measure => simp [intOf]; omega
    · obtain rfl : k = n := by omega
      rw [List.take_of_length_le (by have := hl.out; omega)] at hm
      go_wp2
      go_ret
      exact ⟨A', c', rfl, hm.new_of⟩
end Go.Proofs.YtgflfpepfpekhaaGreat
namespace Go.Proofs.YtgflfpepfpekhaaGreat
open Go.RowKit Go.Mm
set_option maxHeartbeats 4000000
set_option maxRecDepth 100000
set_option linter.unusedSimpArgs false
theorem sz_Vs : (Tryz.prog.info? 28).map (·.size) = some 1 := by kernel_rfl
theorem sz_Is : (Tryz.prog.info? 34).map (·.size) = some 1 := by kernel_rfl
theorem roC_mem {w0 w : World} {L : List Chunk} (x : RO) (hm : Mem w0 w (Own 2 (.slice x.A x.ob.items.length x.c) (fV x.ob.items) :: Own 1 (.slice x.KA x.ob.keys.length x.kc) (nums .i64 x.ob.keys) :: L)) : Mem w0 w (RoC x :: L) := Mem.sht x.chunks hm
theorem copyObject_ok (w0 w : World) (L : List Chunk) (hm : Mem w0 w L) (x : RO) (hx : Fact (x.reads w)) (hi : x.ob.items.length ≤ 1048576) (hkl : x.ob.keys.length ≤ 1048576) :
    Calls Tryz.prog 72 #[.agg (cRO x).toArray] w fun e w' => ∃ y : RO, e = .returned (.agg (cRO y).toArray) ∧ y.ob = x.ob ∧ Mem w0 w' (RoC y :: L) := by
  obtain ⟨A, c, KA, kc, ⟨k, items, keys, fn, cap, sh⟩⟩ := x
  simp only at hi hkl
  have key : ∀ (w' : World) (y : RO), Mem w w' [RoC y] → Mem w0 w' (RoC y :: L) := fun w' y h => hm.join h
  replace key := Fact.mk key
  clear hm
  go_enter Tryz.func72, Tryz.ntmps72
  go_upto_region 1 with (fail)
  have hm1 := ((Mem.start w).alloc (.cells (cRO ⟨A, c, KA, kc, ⟨k, items, keys, fn, cap, sh⟩⟩).toArray 59)).alloc (.cells (obC 0 none 0 0 none 0 0 0 0 false).toArray 59)
  simp only [World.size_alloc] at hm1
  generalize hgb : w.heap.size = g at hm1 ⊢
  generalize hw1 : (w.alloc (.cells (cRO ⟨A, c, KA, kc, ⟨k, items, keys, fn, cap, sh⟩⟩).toArray 59)).alloc (.cells (obC 0 none 0 0 none 0 0 0 0 false).toArray 59) = w1 at hm1
  try refine wp_world hw1 ?_
  clear hw1 hgb
  go_upto_region 2 with (first | (refine wp_rng rfl 59 _ rfl g 0 rfl (cRO ⟨A, c, KA, kc, ⟨k, items, keys, fn, cap, sh⟩⟩) (rng_blk hm1 m1) row_O sz_O ?_) | (refine wp_setrow rfl 59 _ _ rfl w1.heap.size rfl 59 _ (cRO ⟨A, c, KA, kc, ⟨k, items, keys, fn, cap, sh⟩⟩) rfl (hm1.alloc _) sz_O rfl (cRO_one _) ?_; intro w2 hm2))
  generalize w1.heap.size = g3 at hm2 ⊢
  have x1 := hm2.cell m2 1 rfl
  clear hm1
  go_wp2_with fail
  refine (copyValues_ok w2 A items.length c items ⟨hx.out.1.gr hm2.below⟩ (by omega)).mono ?_
  rintro e w3 ⟨A3, c3, rfl, hn3⟩
  have hm3 := (hm2.new hn3).swap
  clear hm2 hn3 x1
  go_upto_region 3 with (refine wp_setat rfl 28 _ _ rfl g3 1 rfl 59 _ [.slice A3 items.length c3] (cRO ⟨A3, c3, KA, kc, ⟨k, items, keys, fn, cap, sh⟩⟩) (.slice A3 items.length c3) rfl rfl hm3 sz_Vs (by simp [cRO, obC]) (one_one rfl) rfl ?_; intro w4 hm4)
  clear hm3
  have x2 := hm4.cell m3 2 rfl
  go_wp2_with fail
  refine (copyLongs_ok w4 KA keys.length kc keys ⟨hx.out.2.gr hm4.below⟩ (by omega)).mono ?_
  rintro e w5 ⟨A5, c5, rfl, hn5⟩
  have hm5 := (hm4.new hn5).swap
  clear hm4 hn5 x2
  go_wp2_with (first | (refine wp_setat rfl 34 _ _ rfl g3 2 rfl 59 _ [.slice A5 keys.length c5] (cRO ⟨A3, c3, A5, c5, ⟨k, items, keys, fn, cap, sh⟩⟩) (.slice A5 keys.length c5) rfl rfl hm5 sz_Is (by simp [cRO, obC]) (one_one rfl) rfl ?_; intro w6 hm6) | (refine wp_rng rfl 59 _ rfl g3 0 rfl (cRO ⟨A3, c3, A5, c5, ⟨k, items, keys, fn, cap, sh⟩⟩) (rng_blk hm6 m0) row_O sz_O ?_) | (refine wp_setrow rfl 59 _ _ rfl (g + 1) rfl 59 _ (cRO ⟨A3, c3, A5, c5, ⟨k, items, keys, fn, cap, sh⟩⟩) rfl hm6.pull3 sz_O rfl (cRO_one _) ?_; intro w7 hm7))
  have hz := (hm7.tail.tail.swap).sub (List.Sublist.cons_cons _ (List.Sublist.cons_cons _ (List.sublist_cons_self _ _)))
  refine bodyPost_ret (Mm.res_cell rfl _ (g + 1) 59 (cRO ⟨A3, c3, A5, c5, ⟨k, items, keys, fn, cap, sh⟩⟩) (0, 0) rfl hm7 m0 row_O sz_O) rfl ⟨_, rfl, rfl, key.out w7 _ (roC_mem ⟨A3, c3, A5, c5, ⟨k, items, keys, fn, cap, sh⟩⟩ hz)⟩
end Go.Proofs.YtgflfpepfpekhaaGreat
namespace Go.Proofs.YtgflfpepfpekhaaGreat
open Go.RowKit Go.Mm
set_option maxHeartbeats 4000000
set_option maxRecDepth 100000
set_option linter.unusedSimpArgs false
theorem Hp.abs_len' (h : Hp) : h.abs.objs.length = h.ths.length := h.abs_len
end Go.Proofs.YtgflfpepfpekhaaGreat
namespace Go.Proofs.YtgflfpepfpekhaaGreat
open Go.RowKit Go.Mm
open Go.Maps (Keyed)
set_option maxHeartbeats 4000000
set_option maxRecDepth 100000
theorem kd_i64 : Keyed Tryz.prog 2 := Maps.int_keyed (show Tryz.prog.underlying 2 = some (.int .i64) by kernel_rfl)
theorem ty_k64 : Tryz.prog.underlying 2 = some (.int .i64) := by kernel_rfl
theorem ty_mp : Tryz.prog.underlying 153 = some (.map 2 3) := by kernel_rfl
theorem zr_int (w : World) : (zeroValue 3).run Tryz.prog w = .ok (.int .i64 0) w := by kernel_rfl
def fvO (o : Option Nat) (z : DataW Unit) : DataW Unit := match o with | some i => .lit (.int .i64 (i : Nat)) | none => z
/-- A map that reads as a function, of at most so many entries. -/
def mapF (b n : Nat) (f : Int → Option Nat) (w : World) : Prop := ∃ D : DataW Unit, w.ownsMap Tryz.prog 2 (plainElem Tryz.prog 3) b n D ∧ Maps.Tidy D ∧ ∀ key : Int, (Lit.int .i64 key).wf = true → ∀ z, D.atKey (.int .i64 key) z = fvO (f key) z
def MapF (b n : Nat) (f : Int → Option Nat) : Chunk :=
  ⟨fun k => k = b, mapF b n f, fun w w' h hw => by
    obtain ⟨D, ⟨es, clock, hb, F, hs, hD⟩, hT, ha⟩ := hw
    exact ⟨D, ⟨es, clock, by rw [h b rfl]; exact hb, F, hs, hD⟩, hT, ha⟩⟩
theorem mapOk_F {b : Nat} {ks : List Int} {w : World} : mapOk (some b) ks w ↔ mapF b ks.length (fun k => ks.idxOf? k) w := Iff.rfl
theorem fvO_lit {o : Option Nat} {c : Int} (h : fvO o (.lit (.int .i64 0)) = .lit (.int .i64 c)) : c = (o.getD 0 : Nat) := by
  cases o with
  | none => simp [fvO] at h; simp [← h]
  | some i => simp [fvO] at h; simp [← h]
theorem has_of {D : DataW Unit} {k : Int} {o : Option Nat} (h : ∀ z, D.atKey (.int .i64 k) z = fvO o z) : Maps.has D (.int .i64 k) = o.isSome := by
  cases o with
  | none => exact Maps.has_false_of_atKey h
  | some i => exact Maps.has_true_of_atKey h
theorem mapF_look {b n : Nat} {f : Int → Option Nat} {w : World} (h : mapF b n f w) (key : Int) (hw : (Lit.int .i64 key).wf = true) :
    (Instr.lookup 153 (.map (some b)) (.int .i64 key) true).run Tryz.prog w = .ok (.tuple #[.int .i64 ((f key).getD 0 : Nat), .bool (f key).isSome]) w := by
  obtain ⟨D, hown, _, ha⟩ := h
  obtain ⟨v, ps, hrun, hv⟩ := hown.look_ok kd_i64 ty_mp (zr_int w) (plainElem_int ty_int (by decide)) (Maps.keyOf_int_mk ty_k64 hw)
  obtain ⟨c, rfl, hc, _⟩ := plainElem_int_inv ty_int hv
  simp only [Prod.mk.injEq] at hc
  rw [ha key hw] at hc
  rw [hrun, has_of (ha key hw), fvO_lit hc.1]
theorem mapOk_look {mp : Option Nat} {ks : List Int} {w : World} (h : mapOk mp ks w) (key : Int) (hw : (Lit.int .i64 key).wf = true) :
    (Instr.lookup 153 (.map mp) (.int .i64 key) true).run Tryz.prog w = .ok (.tuple #[.int .i64 ((ks.idxOf? key).getD 0 : Nat), .bool (ks.idxOf? key).isSome]) w := by
  cases mp with
  | none =>
    obtain rfl : ks = [] := h
    exact Maps.look_nil true kd_i64 ty_mp (zr_int w) (Maps.keyOf_int_mk ty_k64 hw)
  | some b => exact mapF_look (mapOk_F.1 h) key hw
theorem mapTurned_upd {b : Nat} {w w' : World} (h : w.mapTurned w' b) : Upd (fun k => k = b) w w' := by
  obtain ⟨es, clock, es', clock', hb, rfl⟩ := h
  exact ⟨rfl, rfl, rfl, by simp [Go.ChangeMaps.setBlock], fun k _ hk => Go.ChangeMaps.heap_setBlock_other hb _ hk⟩
def updF (f : Int → Option Nat) (key : Int) (i : Nat) (k : Int) : Option Nat := if k = key then some i else f k
def delF (f : Int → Option Nat) (key : Int) (k : Int) : Option Nat := if k = key then none else f k
theorem lit_ne {a b : Int} (h : a ≠ b) : (Lit.int .i64 a) ≠ (Lit.int .i64 b) := fun e => h (by cases e; rfl)
theorem isKey (k : Int) : WideAt.IsKeyLit (.int .i64 k) := trivial
theorem mapF_put {b n : Nat} {f : Int → Option Nat} {w : World} (h : mapF b n f w) (hn : n < maxLen) (key : Int) (hw : (Lit.int .i64 key).wf = true) (i : Nat) (hi : i < 9223372036854775808) :
    ∃ w', (Instr.mapUpdate 153 (.map (some b)) (.int .i64 key) (.int .i64 i)).run Tryz.prog w = .ok () w' ∧ mapF b (if (f key).isSome then n else n + 1) (updF f key i) w' ∧ w.mapTurned w' b := by
  obtain ⟨D, hown, hT, ha⟩ := h
  obtain ⟨w', hrun, h1, h2⟩ := hown.store kd_i64 ty_mp hn (Maps.keyOf_int_mk ty_k64 hw) (plainElem_int (H := Unit) ty_int (show (Lit.int .i64 (i : Int)).wf = true by simp [Lit.wf, IntKind.min, IntKind.max, IntKind.signed, IntKind.bits]; omega))
  refine ⟨w', hrun, ⟨D.put (.int .i64 key) (.lit (.int .i64 (i : Int))), ?_, hT.put (isKey key) _, fun k hk z => ?_⟩, h2⟩
  · obtain ⟨es, clock, hb, F, hs, hD⟩ := h1
    refine ⟨es, clock, hb, F, ?_, hD⟩
    split
    · rename_i hf
      have e1 := Maps.size_put hT (k := Lit.int .i64 key) (DataW.lit (.int .i64 (i : Int)))
      rw [has_of (ha key hw), hf, if_pos rfl] at e1
      have e2 : Maps.size (DataW.put D (Lit.int .i64 key) (DataW.lit (.int .i64 (i : Int)))) = es.size := by rw [hD]; simp [Maps.size, length_sorted]
      have := hown.size_le
      omega
    · exact hs
  · unfold updF
    by_cases q : k = key
    · subst q
      rw [if_pos rfl, Maps.atKey_put_same hT.isMap (isKey k)]
      rfl
    · rw [if_neg q, Maps.atKey_put_other (lit_ne q), ha k hk]
section
variable {ops : Array Oper} {rest : List Oper} {o : Oper} {a : Act} {Q : Exit → Act → World → Prop} {w0 w : World} {L : List Chunk}
theorem wp_mapput (hg : o.guard = none) (m x v : Operand) (hop : o.op = .mapUpdate 153 m x v) (b n : Nat) (f : Int → Option Nat) (hm : a.eval m = .map (some b)) (hM : Mem w0 w (MapF b n f :: L)) (hn : n < maxLen) (key : Int) (hx : a.eval x = .int .i64 key) (hw : (Lit.int .i64 key).wf = true) (i : Nat) (hv : a.eval v = .int .i64 i) (hi : i < 9223372036854775808)
    (hK : ∀ w', Mem w0 w' (MapF b (if (f key).isSome then n else n + 1) (updF f key i) :: L) → wpList Tryz.prog ops Q rest (a.put o.dst undef) w') : wpList Tryz.prog ops Q (o :: rest) a w := by
  refine wpList_plain hg fun K' hK' => ?_
  obtain ⟨w', hrun, r1, r2⟩ := mapF_put (hM.ok _ m0) hn key hw i hi
  unfold Oper.wp
  simp [execOp, hop, hm, hx, hv, hrun, Result.andThen]
  exact hK' _ _ (hK w' (hM.upd (mapTurned_upd r2) r1 (fun k hk => .inl hk)))
end
theorem Mem.toF {w0 w : World} {L : List Chunk} {b : Nat} {ks : List Int} (h : Mem w0 w (MapC (some b) ks :: L)) : Mem w0 w (MapF b ks.length (fun k => ks.idxOf? k) :: L) := by
  refine ⟨h.below, fun c hc => ?_, fun c hc k hk => ?_, List.pairwise_cons.2 ⟨fun d hd k hk => ?_, (List.pairwise_cons.1 h.dis).2⟩⟩
  · rcases List.mem_cons.1 hc with rfl | hc
    · exact h.ok (MapC (some b) ks) m0
    · exact h.ok c (.tail _ hc)
  · rcases List.mem_cons.1 hc with rfl | hc
    · exact h.rng (MapC (some b) ks) m0 k (by show some b = some k; rw [show k = b from hk])
    · exact h.rng c (.tail _ hc) k hk
  · exact (List.pairwise_cons.1 h.dis).1 d hd k (by show some b = some k; rw [show k = b from hk])
theorem Mem.toC {w0 w : World} {L : List Chunk} {b n : Nat} {f : Int → Option Nat} {ks : List Int} (h : Mem w0 w (MapF b n f :: L)) (hn : n ≤ ks.length) (hf : ∀ k, (Lit.int .i64 k).wf = true → f k = ks.idxOf? k) : Mem w0 w (MapC (some b) ks :: L) := by
  refine ⟨h.below, fun c hc => ?_, fun c hc k hk => ?_, List.pairwise_cons.2 ⟨fun d hd k hk => ?_, (List.pairwise_cons.1 h.dis).2⟩⟩
  · rcases List.mem_cons.1 hc with rfl | hc
    · obtain ⟨D, h1, h2, h3⟩ : mapF b n f w := h.ok (MapF b n f) m0
      exact ⟨D, h1.mono hn, h2, fun key hk z => by rw [h3 key hk, hf key hk]; rfl⟩
    · exact h.ok c (.tail _ hc)
  · rcases List.mem_cons.1 hc with rfl | hc
    · exact h.rng (MapF b n f) m0 k (by show k = b; exact (Option.some.inj hk).symm)
    · exact h.rng c (.tail _ hc) k hk
  · exact (List.pairwise_cons.1 h.dis).1 d hd k (by show k = b; exact (Option.some.inj hk).symm)
theorem Mem.mapmade {w0 w : World} {L : List Chunk} (h : Mem w0 w L) : Mem w0 (w.alloc (.map #[] 0)) (MapC (some w.heap.size) [] :: L) := by
  have h1 := h.alloc (.map #[] 0)
  refine h1.upd ⟨rfl, rfl, rfl, Nat.le_refl _, fun _ _ _ => rfl⟩ ?_ (fun k hk => .inl (Option.some.inj hk).symm)
  exact ⟨.map [], World.ownsMap_made w _ _ _, Maps.tidy_empty, fun key hk z => rfl⟩
end Go.Proofs.YtgflfpepfpekhaaGreat
namespace Go.Proofs.YtgflfpepfpekhaaGreat
open Go.RowKit Go.Mm
set_option maxHeartbeats 4000000
set_option maxRecDepth 100000
set_option linter.unusedSimpArgs false
theorem sz_Is' : (Tryz.prog.info? 34).map (·.size) = some 1 := by kernel_rfl
theorem sz_Vs' : (Tryz.prog.info? 28).map (·.size) = some 1 := by kernel_rfl
theorem sz_mp : (Tryz.prog.info? 153).map (·.size) = some 1 := by kernel_rfl
/-- A record's cells. -/
def recC (A : Option Addr) (n c : Nat) (KA : Option Addr) (kn kc : Nat) (mp : Option Nat) : List Value := [.slice KA kn kc, .slice A n c, .map mp]
theorem idx_app {ks ls : List Int} (k : Int) : (ks ++ ls).idxOf? k = match ks.idxOf? k with | some i => some i | none => (ls.idxOf? k).map (· + ks.length) := by
  induction ks with
  | nil => simp
  | cons a ks ih =>
    rw [List.cons_append, List.idxOf?_cons, List.idxOf?_cons, ih]
    split
    · rfl
    · cases ks.idxOf? k with
      | some i => rfl
      | none => cases ls.idxOf? k <;> simp [Nat.add_assoc, Nat.add_comm]
theorem idx_snoc {ks : List Int} {key : Int} (h : ks.idxOf? key = none) (k : Int) : updF (fun k => ks.idxOf? k) key ks.length k = (ks ++ [key]).idxOf? k := by
  unfold updF
  rw [idx_app]
  by_cases q : k = key
  · subst q
    rw [if_pos rfl, h]
    simp [List.idxOf?_cons]
  · rw [if_neg q]
    have e : ([key] : List Int).idxOf? k = none := by
      rw [List.idxOf?_cons, if_neg (by simp; exact fun h => q h.symm)]
      rfl
    rw [e]
    show ks.idxOf? k = _
    cases ks.idxOf? k <;> rfl
theorem rputNo_ok (w0 w : World) (L : List Chunk) (g : Nat) (A : Option Addr) (n c : Nat) (KA : Option Addr) (kn kc : Nat) (mp : Option Nat) (ks : List Int) (hm : Mem w0 w (MapC mp ks :: Blk g (.cells (recC A n c KA kn kc mp).toArray 155) :: L)) (key : Int) (hw : (Lit.int .i64 key).wf = true) (hf : (ks.idxOf? key).isSome = true) (X Y : Int) :
    Calls Tryz.prog 83 #[.pointer (some ⟨g, 0, none⟩), .int .i64 key, .agg #[.int .i64 X, .int .i64 Y]] w fun e w' => e = .returned (.bool false) ∧ Mem w0 w' (MapC mp ks :: Blk g (.cells (recC A n c KA kn kc mp).toArray 155) :: L) := by
  go_enter Tryz.func83, Tryz.ntmps83
  go_upto_region 1 with (fail)
  have hm1 := hm.alloc (.cells [.int .i64 X, .int .i64 Y].toArray 36)
  generalize hgb : w.heap.size = gb at hm1 ⊢
  generalize hw1 : w.alloc (.cells [.int .i64 X, .int .i64 Y].toArray 36) = w1 at hm1
  try refine wp_world hw1 ?_
  clear hw1 hgb
  have c2 := hm1.cell m2 2 rfl
  have hlook := mapOk_look (hm1.ok _ m1) key hw
  rw [hf] at hlook
  go_wp2
  go_ret
  exact ⟨rfl, hm1.tail⟩
theorem rputYes_ok (w0 w : World) (L : List Chunk) (g : Nat) (A : Option Addr) (c : Nat) (KA : Option Addr) (kc : Nat) (mp : Option Nat) (ks : List Int) (items : List V2) (hm : Mem w0 w (Blk g (.cells (recC A items.length c KA ks.length kc mp).toArray 155) :: Own 2 (.slice A items.length c) (fV items) :: Own 1 (.slice KA ks.length kc) (nums .i64 ks) :: MapC mp ks :: L)) (key : Int) (hw : (Lit.int .i64 key).wf = true) (hf : Fact (ks.idxOf? key = none)) (X Y : Int) (hkn : ks.length ≤ 1048576) (hin : items.length ≤ 1048576) :
    Calls Tryz.prog 83 #[.pointer (some ⟨g, 0, none⟩), .int .i64 key, .agg #[.int .i64 X, .int .i64 Y]] w fun e w' => e = .returned (.bool true) ∧ ∃ A' c' KA' kc' mp', Mem w0 w' (Blk g (.cells (recC A' (items.length + 1) c' KA' (ks.length + 1) kc' mp').toArray 155) :: Own 2 (.slice A' (items.length + 1) c') (fV (items ++ [(X, Y)])) :: Own 1 (.slice KA' (ks.length + 1) kc') (nums .i64 (ks ++ [key])) :: MapC mp' (ks ++ [key]) :: L) := by
  obtain ⟨iV, hiV, hz0, hz1, hz2⟩ := info_parts inf_V
  obtain ⟨iI, hiI, yz0, yz1, yz2⟩ := info_parts inf_IH
  have hw := Fact.mk hw
  have q22 : ∀ (w : World) (r : Option Nat), (binOp .eql 153 (.map r) (.map none)).run Tryz.prog w = .ok (.bool r.isNone) w := fun w r => run_eql_map_nil w _ _ _ r ty_mp
  go_enter Tryz.func83, Tryz.ntmps83
  go_upto_region 1 with (fail)
  have hm1 := hm.alloc (.cells [.int .i64 X, .int .i64 Y].toArray 36)
  generalize hgb : w.heap.size = gb at hm1 ⊢
  generalize hw1 : w.alloc (.cells [.int .i64 X, .int .i64 Y].toArray 36) = w1 at hm1
  try refine wp_world hw1 ?_
  clear hw1 hgb hm
  have c2 := hm1.cell m1 2 rfl
  have hlook := mapOk_look (hm1.ok _ m4) key hw.out
  rw [hf.out] at hlook
  simp only [Option.isSome_none, Option.getD_none] at hlook
  cases mp with
  | none =>
    obtain rfl : ks = [] := hm1.ok _ m4
    have hmk : (Instr.makeMap 153 none).run Tryz.prog w1 = .ok (.map (some w1.heap.size)) (w1.alloc (.map #[] 0)) := by first | exact run_makeMap _ _ _ _ ty_mp | exact run_makeMap _ _ | kernel_rfl
    have hmm := (Mem.mapmade hm1).pull2
    go_upto_region 6 with (first | (refine wp_setat rfl 153 _ _ rfl g 2 rfl 155 _ [.map (some w1.heap.size)] (recC A items.length c KA 0 kc (some w1.heap.size)) (.map (some w1.heap.size)) rfl rfl hmm sz_mp (by simp [recC]) (one_one rfl) rfl ?_; intro w2 hm2))
    generalize w1.heap.size = b at hm2 ⊢
    clear hlook c2
    clear hmm hmk hm1
    have hm1 := (hm2.sub (List.Sublist.cons_cons _ (List.Sublist.cons_cons _ (List.Sublist.cons_cons _ (List.Sublist.cons_cons _ (List.Sublist.cons_cons _ (List.sublist_cons_self _ _))))))).pull2.perm ((((List.Perm.swap _ _ _).trans ((List.Perm.swap _ _ _).cons _)).cons _).cons _)
    clear hm2
    have hm2 := hm1.drew
    clear hm1
    have c0 := hm2.cell m1 0 rfl
    have c2 := hm2.cell m1 2 rfl
    refine wp_region_still_tail 10 (by kernel_rfl) (by kernel_rfl) ?_
    simp only [List.take_succ_cons, List.take_zero, List.drop_succ_cons, List.drop_zero]
    repeat still_step
    refine wpStill_nil ?_
    have hF := Mem.toF hm2.pull4
    have hidx : (if (([] : List Int).idxOf? key).isSome = true then 0 else 0 + 1) ≤ (([] : List Int) ++ [key]).length := by rw [hf.out]; simp
    have hidy : ∀ k, (Lit.int .i64 k).wf = true → updF (fun k => ([] : List Int).idxOf? k) key 0 k = (([] : List Int) ++ [key]).idxOf? k := fun k _ => idx_snoc hf.out k
    replace hidx := Fact.mk hidx
    replace hidy := Fact.mk hidy
    go_upto_region 8 with (first | (refine wp_mapput rfl _ _ _ rfl b 0 (fun k => ([] : List Int).idxOf? k) rfl hF (by unfold maxLen; omega) key rfl hw.out 0 rfl (by omega) ?_; intro w3 hm3; have hm4 := (Mem.toC hm3 hidx.out hidy.out).pull4; have d0 := hm4.cell m3 0 rfl) | (at_builtin; refine wp_app rfl _ _ _ rfl 2 iI _ 1 8 ty_IsH hiI yz0 yz1 yz2 rfl KA 0 kc _ rfl (hm4.alloc _).swap _ 1 1 [.int .i64 key] rfl (RdC.lit _ _ _ _ _ rfl (by simp [maxLen]) (One.nums .i64 [key])) (by unfold maxLen; omega) (by omega) ?_; intro KA5 kc5 w5 HM5; have hm5 := HM5.drop2.pull3) | (refine wp_setat rfl 34 _ _ rfl g 0 rfl 155 _ [.slice KA5 (0 + 1) kc5] (recC A items.length c KA5 (0 + 1) kc5 (some b)) (.slice KA5 (0 + 1) kc5) rfl rfl hm5 sz_Is' (by simp [recC]) (one_one rfl) rfl ?_; intro w6 hm6))
    have hm7 := hm6.pull4.swap.drew
    clear hm6
    have hS := And.intro (hm7.cell m0 1 rfl) (And.intro (hm7.cell m4 0 rfl) (hm7.cell m4 1 rfl))
    refine wp_region_until (S := fun W => W.cell? ⟨g, 1, none⟩ = some (.slice A items.length c) ∧ W.cell? ⟨gb, 0, none⟩ = some (.int .i64 X) ∧ W.cell? ⟨gb, 1, none⟩ = some (.int .i64 Y)) 8 (by kernel_rfl) ?_
    generalize w6.drew = w7 at hm7 hS ⊢
    refine wpAnyU_take 0 (v := ?vsa0) rfl (by kernel_rfl) (by kernel_rfl) (fun _ _ _ h => h) hS (Or.inl ⟨rfl, ?ysa0⟩) ?rsa0
    case ysa0 =>
      intro W hW
      obtain ⟨hW0, hW1, hW2⟩ := hW
      go_simp
      try with_reducible rfl
    try simp only [Act.put, List.getElem_toArray, List.getElem_cons_succ, List.getElem_cons_zero, List.setIfInBounds_toArray, List.set_cons_zero, List.set_cons_succ]
    refine wpAnyU_take 1 (v := ?vsa1) rfl (by kernel_rfl) (by kernel_rfl) (fun _ _ _ h => h) hS (Or.inl ⟨rfl, ?ysa1⟩) ?rsa1
    case ysa1 =>
      intro W hW
      obtain ⟨hW0, hW1, hW2⟩ := hW
      go_simp
      try with_reducible rfl
    try simp only [Act.put, List.getElem_toArray, List.getElem_cons_succ, List.getElem_cons_zero, List.setIfInBounds_toArray, List.set_cons_zero, List.set_cons_succ]
    refine wpAnyU_take 2 (v := ?vsa2) rfl (by kernel_rfl) (by kernel_rfl) (fun _ _ _ h => h) hS (Or.inl ⟨rfl, ?ysa2⟩) ?rsa2
    case ysa2 =>
      intro W hW
      obtain ⟨hW0, hW1, hW2⟩ := hW
      go_simp
      try with_reducible rfl
    try simp only [Act.put, List.getElem_toArray, List.getElem_cons_succ, List.getElem_cons_zero, List.setIfInBounds_toArray, List.set_cons_zero, List.set_cons_succ]
    refine wpAnyU_take 3 (v := ?vsa3) rfl (by kernel_rfl) (by kernel_rfl) (fun _ _ _ h => h) hS (Or.inl ⟨rfl, ?ysa3⟩) ?rsa3
    case ysa3 =>
      intro W hW
      obtain ⟨hW0, hW1, hW2⟩ := hW
      go_simp
      try with_reducible rfl
    try simp only [Act.put, List.getElem_toArray, List.getElem_cons_succ, List.getElem_cons_zero, List.setIfInBounds_toArray, List.set_cons_zero, List.set_cons_succ]
    refine wpAnyU_take 4 (v := ?vsa4) rfl (by kernel_rfl) (by kernel_rfl) (fun _ _ _ h => h) hS (Or.inl ⟨rfl, ?ysa4⟩) ?rsa4
    case ysa4 =>
      intro W hW
      obtain ⟨hW0, hW1, hW2⟩ := hW
      go_simp
      try with_reducible rfl
    try simp only [Act.put, List.getElem_toArray, List.getElem_cons_succ, List.getElem_cons_zero, List.setIfInBounds_toArray, List.set_cons_zero, List.set_cons_succ]
    refine wpAnyU_take 5 (v := ?vsa5) rfl (by kernel_rfl) (by kernel_rfl) (fun _ _ _ h => h) hS (Or.inl ⟨rfl, ?ysa5⟩) ?rsa5
    case ysa5 =>
      intro W hW
      obtain ⟨hW0, hW1, hW2⟩ := hW
      go_simp
      try with_reducible rfl
    try simp only [Act.put, List.getElem_toArray, List.getElem_cons_succ, List.getElem_cons_zero, List.setIfInBounds_toArray, List.set_cons_zero, List.set_cons_succ]
    refine wpAnyU_one 6 (by kernel_rfl) rfl (fun K hK => ?_)
    go_simp
    have hm8 := hm7.alloc (.cells [.int .i64 X, .int .i64 Y].toArray 36)
    refine hK _ _ (fun _ => ⟨hm8.cell m1 1 rfl, hm8.cell m5 0 rfl, hm8.cell m5 1 rfl⟩) ?_
    clear hK K
    try simp only [Act.put, List.getElem_toArray, List.getElem_cons_succ, List.getElem_cons_zero, List.setIfInBounds_toArray, List.set_cons_zero, List.set_cons_succ]
    refine wpAnyU_one 7 (by kernel_rfl) rfl (fun K hK => ?_)
    refine step_app rfl _ _ _ rfl 36 iV _ 2 16 ty_Vs hiV hz0 hz1 hz2 rfl A items.length c _ rfl hm8.pull2 _ 1 1 [.int .i64 X, .int .i64 Y] rfl (RdC.lit _ _ _ _ _ rfl (by simp [maxLen]) (cV_one (X, Y))) (by unfold maxLen; omega) (by omega) ?_
    intro A9 c9 w9 HM9
    have hm9 := HM9.back2.tail
    clear HM9 hm8
    refine hK _ _ (fun _ => ⟨hm9.cell m0 1 rfl, hm9.cell m4 0 rfl, hm9.cell m4 1 rfl⟩) ?_
    clear hK K
    try simp only [Act.put, List.getElem_toArray, List.getElem_cons_succ, List.getElem_cons_zero, List.setIfInBounds_toArray, List.set_cons_zero, List.set_cons_succ]
    refine wpAnyU_one 8 (by kernel_rfl) rfl (fun K hK => ?_)
    go_simp
    refine hK _ _ (fun h => absurd h (by decide)) ?_
    clear hK K
    try simp only [Act.put, List.getElem_toArray, List.getElem_cons_succ, List.getElem_cons_zero, List.setIfInBounds_toArray, List.set_cons_zero, List.set_cons_succ]
    refine wpAnyU_one 9 (by kernel_rfl) rfl (fun K hK => ?_)
    go_simp
    refine hK _ _ (fun h => absurd h (by decide)) ?_
    clear hK K
    try simp only [Act.put, List.getElem_toArray, List.getElem_cons_succ, List.getElem_cons_zero, List.setIfInBounds_toArray, List.set_cons_zero, List.set_cons_succ]
    refine wpAnyU_one 10 (by kernel_rfl) rfl (fun K hK => ?_)
    refine step_setat rfl 28 _ _ rfl g 1 rfl 155 _ [.slice A9 (items.length + 1) c9] (recC A9 (items.length + 1) c9 KA5 (0 + 1) kc5 (some b)) (.slice A9 (items.length + 1) c9) rfl rfl hm9 sz_Vs' (by simp [recC]) (one_one rfl) rfl ?_
    intro w10 hm10
    refine hK _ _ (fun h => absurd h (by decide)) ?_
    clear hK K hS hm7 hm9
    try simp only [Act.put, List.getElem_toArray, List.getElem_cons_succ, List.getElem_cons_zero, List.setIfInBounds_toArray, List.set_cons_zero, List.set_cons_succ]
    refine wpAnyU_done (by kernel_rfl) ?_ _
    go_wp2
    go_ret
    refine ⟨rfl, A9, c9, KA5, kc5, some b, ?_⟩
    have hz := hm10.sub (List.Sublist.cons_cons _ (List.Sublist.cons_cons _ (List.Sublist.cons_cons _ (List.Sublist.cons_cons _ (List.sublist_cons_self _ _)))))
    have e1 : fV (items ++ [(X, Y)]) = fV items ++ [.int .i64 X, .int .i64 Y] := by rw [fV_app]; rfl
    rw [e1, nums_append]
    exact hz
  | some b =>
    go_upto_region 6 with (fail)
    clear hlook c2
    have hm2 := hm1.drew
    clear hm1
    have c0 := hm2.cell m1 0 rfl
    have c2 := hm2.cell m1 2 rfl
    refine wp_region_still_tail 10 (by kernel_rfl) (by kernel_rfl) ?_
    simp only [List.take_succ_cons, List.take_zero, List.drop_succ_cons, List.drop_zero]
    repeat still_step
    refine wpStill_nil ?_
    have hF := Mem.toF hm2.pull4
    have hidx : (if (ks.idxOf? key).isSome = true then ks.length else ks.length + 1) ≤ (ks ++ [key]).length := by rw [hf.out]; simp
    have hidy : ∀ k, (Lit.int .i64 k).wf = true → updF (fun k => ks.idxOf? k) key ks.length k = (ks ++ [key]).idxOf? k := fun k _ => idx_snoc hf.out k
    replace hidx := Fact.mk hidx
    replace hidy := Fact.mk hidy
    go_upto_region 8 with (first | (refine wp_mapput rfl _ _ _ rfl b ks.length (fun k => ks.idxOf? k) rfl hF (by unfold maxLen; omega) key rfl hw.out ks.length rfl (by omega) ?_; intro w3 hm3; have hm4 := (Mem.toC hm3 hidx.out hidy.out).pull4; have d0 := hm4.cell m3 0 rfl) | (at_builtin; refine wp_app rfl _ _ _ rfl 2 iI _ 1 8 ty_IsH hiI yz0 yz1 yz2 rfl KA ks.length kc _ rfl (hm4.alloc _).swap _ 1 1 [.int .i64 key] rfl (RdC.lit _ _ _ _ _ rfl (by simp [maxLen]) (One.nums .i64 [key])) (by unfold maxLen; omega) (by omega) ?_; intro KA5 kc5 w5 HM5; have hm5 := HM5.drop2.pull3) | (refine wp_setat rfl 34 _ _ rfl g 0 rfl 155 _ [.slice KA5 (ks.length + 1) kc5] (recC A items.length c KA5 (ks.length + 1) kc5 (some b)) (.slice KA5 (ks.length + 1) kc5) rfl rfl hm5 sz_Is' (by simp [recC]) (one_one rfl) rfl ?_; intro w6 hm6))
    have hm7 := hm6.pull4.swap.drew
    clear hm6
    have hS := And.intro (hm7.cell m0 1 rfl) (And.intro (hm7.cell m4 0 rfl) (hm7.cell m4 1 rfl))
    refine wp_region_until (S := fun W => W.cell? ⟨g, 1, none⟩ = some (.slice A items.length c) ∧ W.cell? ⟨gb, 0, none⟩ = some (.int .i64 X) ∧ W.cell? ⟨gb, 1, none⟩ = some (.int .i64 Y)) 8 (by kernel_rfl) ?_
    generalize w6.drew = w7 at hm7 hS ⊢
    refine wpAnyU_take 0 (v := ?vsb0) rfl (by kernel_rfl) (by kernel_rfl) (fun _ _ _ h => h) hS (Or.inl ⟨rfl, ?ysb0⟩) ?rsb0
    case ysb0 =>
      intro W hW
      obtain ⟨hW0, hW1, hW2⟩ := hW
      go_simp
      try with_reducible rfl
    try simp only [Act.put, List.getElem_toArray, List.getElem_cons_succ, List.getElem_cons_zero, List.setIfInBounds_toArray, List.set_cons_zero, List.set_cons_succ]
    refine wpAnyU_take 1 (v := ?vsb1) rfl (by kernel_rfl) (by kernel_rfl) (fun _ _ _ h => h) hS (Or.inl ⟨rfl, ?ysb1⟩) ?rsb1
    case ysb1 =>
      intro W hW
      obtain ⟨hW0, hW1, hW2⟩ := hW
      go_simp
      try with_reducible rfl
    try simp only [Act.put, List.getElem_toArray, List.getElem_cons_succ, List.getElem_cons_zero, List.setIfInBounds_toArray, List.set_cons_zero, List.set_cons_succ]
    refine wpAnyU_take 2 (v := ?vsb2) rfl (by kernel_rfl) (by kernel_rfl) (fun _ _ _ h => h) hS (Or.inl ⟨rfl, ?ysb2⟩) ?rsb2
    case ysb2 =>
      intro W hW
      obtain ⟨hW0, hW1, hW2⟩ := hW
      go_simp
      try with_reducible rfl
    try simp only [Act.put, List.getElem_toArray, List.getElem_cons_succ, List.getElem_cons_zero, List.setIfInBounds_toArray, List.set_cons_zero, List.set_cons_succ]
    refine wpAnyU_take 3 (v := ?vsb3) rfl (by kernel_rfl) (by kernel_rfl) (fun _ _ _ h => h) hS (Or.inl ⟨rfl, ?ysb3⟩) ?rsb3
    case ysb3 =>
      intro W hW
      obtain ⟨hW0, hW1, hW2⟩ := hW
      go_simp
      try with_reducible rfl
    try simp only [Act.put, List.getElem_toArray, List.getElem_cons_succ, List.getElem_cons_zero, List.setIfInBounds_toArray, List.set_cons_zero, List.set_cons_succ]
    refine wpAnyU_take 4 (v := ?vsb4) rfl (by kernel_rfl) (by kernel_rfl) (fun _ _ _ h => h) hS (Or.inl ⟨rfl, ?ysb4⟩) ?rsb4
    case ysb4 =>
      intro W hW
      obtain ⟨hW0, hW1, hW2⟩ := hW
      go_simp
      try with_reducible rfl
    try simp only [Act.put, List.getElem_toArray, List.getElem_cons_succ, List.getElem_cons_zero, List.setIfInBounds_toArray, List.set_cons_zero, List.set_cons_succ]
    refine wpAnyU_take 5 (v := ?vsb5) rfl (by kernel_rfl) (by kernel_rfl) (fun _ _ _ h => h) hS (Or.inl ⟨rfl, ?ysb5⟩) ?rsb5
    case ysb5 =>
      intro W hW
      obtain ⟨hW0, hW1, hW2⟩ := hW
      go_simp
      try with_reducible rfl
    try simp only [Act.put, List.getElem_toArray, List.getElem_cons_succ, List.getElem_cons_zero, List.setIfInBounds_toArray, List.set_cons_zero, List.set_cons_succ]
    refine wpAnyU_one 6 (by kernel_rfl) rfl (fun K hK => ?_)
    go_simp
    have hm8 := hm7.alloc (.cells [.int .i64 X, .int .i64 Y].toArray 36)
    refine hK _ _ (fun _ => ⟨hm8.cell m1 1 rfl, hm8.cell m5 0 rfl, hm8.cell m5 1 rfl⟩) ?_
    clear hK K
    try simp only [Act.put, List.getElem_toArray, List.getElem_cons_succ, List.getElem_cons_zero, List.setIfInBounds_toArray, List.set_cons_zero, List.set_cons_succ]
    refine wpAnyU_one 7 (by kernel_rfl) rfl (fun K hK => ?_)
    refine step_app rfl _ _ _ rfl 36 iV _ 2 16 ty_Vs hiV hz0 hz1 hz2 rfl A items.length c _ rfl hm8.pull2 _ 1 1 [.int .i64 X, .int .i64 Y] rfl (RdC.lit _ _ _ _ _ rfl (by simp [maxLen]) (cV_one (X, Y))) (by unfold maxLen; omega) (by omega) ?_
    intro A9 c9 w9 HM9
    have hm9 := HM9.back2.tail
    clear HM9 hm8
    refine hK _ _ (fun _ => ⟨hm9.cell m0 1 rfl, hm9.cell m4 0 rfl, hm9.cell m4 1 rfl⟩) ?_
    clear hK K
    try simp only [Act.put, List.getElem_toArray, List.getElem_cons_succ, List.getElem_cons_zero, List.setIfInBounds_toArray, List.set_cons_zero, List.set_cons_succ]
    refine wpAnyU_one 8 (by kernel_rfl) rfl (fun K hK => ?_)
    go_simp
    refine hK _ _ (fun h => absurd h (by decide)) ?_
    clear hK K
    try simp only [Act.put, List.getElem_toArray, List.getElem_cons_succ, List.getElem_cons_zero, List.setIfInBounds_toArray, List.set_cons_zero, List.set_cons_succ]
    refine wpAnyU_one 9 (by kernel_rfl) rfl (fun K hK => ?_)
    go_simp
    refine hK _ _ (fun h => absurd h (by decide)) ?_
    clear hK K
    try simp only [Act.put, List.getElem_toArray, List.getElem_cons_succ, List.getElem_cons_zero, List.setIfInBounds_toArray, List.set_cons_zero, List.set_cons_succ]
    refine wpAnyU_one 10 (by kernel_rfl) rfl (fun K hK => ?_)
    refine step_setat rfl 28 _ _ rfl g 1 rfl 155 _ [.slice A9 (items.length + 1) c9] (recC A9 (items.length + 1) c9 KA5 (ks.length + 1) kc5 (some b)) (.slice A9 (items.length + 1) c9) rfl rfl hm9 sz_Vs' (by simp [recC]) (one_one rfl) rfl ?_
    intro w10 hm10
    refine hK _ _ (fun h => absurd h (by decide)) ?_
    clear hK K hS hm7 hm9
    try simp only [Act.put, List.getElem_toArray, List.getElem_cons_succ, List.getElem_cons_zero, List.setIfInBounds_toArray, List.set_cons_zero, List.set_cons_succ]
    refine wpAnyU_done (by kernel_rfl) ?_ _
    go_wp2
    go_ret
    refine ⟨rfl, A9, c9, KA5, kc5, some b, ?_⟩
    have hz := hm10.sub (List.Sublist.cons_cons _ (List.Sublist.cons_cons _ (List.Sublist.cons_cons _ (List.Sublist.cons_cons _ (List.sublist_cons_self _ _)))))
    have e1 : fV (items ++ [(X, Y)]) = fV items ++ [.int .i64 X, .int .i64 Y] := by rw [fV_app]; rfl
    rw [e1, nums_append]
    exact hz
end Go.Proofs.YtgflfpepfpekhaaGreat
namespace Go.Proofs.YtgflfpepfpekhaaGreat
open Go.RowKit Go.Mm
set_option maxHeartbeats 4000000
set_option maxRecDepth 100000
set_option linter.unusedSimpArgs false
end Go.Proofs.YtgflfpepfpekhaaGreat
namespace Go.Proofs.YtgflfpepfpekhaaGreat
open Go.RowKit Go.Mm
set_option maxHeartbeats 4000000
set_option maxRecDepth 100000
set_option linter.unusedSimpArgs false
theorem ob_at {h : Hp} {i : Nat} (hi : i < h.ths.length) : h.objs.getD i ob0 = (h.ths.getD i th0).ob := by simp [Hp.objs, hi]
theorem th_ok {h : Hp} (hok : h.Ok) {i : Nat} (hi : i < h.ths.length) : (h.ths.getD i th0).Ok := by
  have := hok.each _ (List.getElem_mem hi)
  simpa [hi] using this
def Hs.put (s : Hs) (i : Nat) (o : Ob) : Hs := ⟨s.budget, s.spent, s.objs.set i o⟩
end Go.Proofs.YtgflfpepfpekhaaGreat
namespace Go.Proofs.YtgflfpepfpekhaaGreat
open Go.RowKit Go.Mm
set_option maxHeartbeats 4000000
set_option maxRecDepth 100000
set_option linter.unusedSimpArgs false
end Go.Proofs.YtgflfpepfpekhaaGreat
namespace Go.Proofs.YtgflfpepfpekhaaGreat
open Go.RowKit Go.Mm
set_option maxHeartbeats 4000000
set_option maxRecDepth 100000
set_option linter.unusedSimpArgs false
end Go.Proofs.YtgflfpepfpekhaaGreat
namespace Go.Proofs.YtgflfpepfpekhaaGreat
open Go.RowKit Go.Mm
set_option maxHeartbeats 4000000
set_option maxRecDepth 100000
set_option linter.unusedSimpArgs false
def Rf.others (r : Rf) (i : Nat) : List Chunk := (r.xs.take i ++ r.xs.drop (i + 1)).map RoC
def Rf.upd (r : Rf) (i : Nat) (y : RO) : Rf := { r with xs := r.xs.set i y }
theorem Rf.opn {w0 w : World} {L : List Chunk} {r : Rf} (hm : Mem w0 w (RfC r :: L)) (i : Nat) (hi : i < r.xs.length) :
    Mem w0 w (Blk r.g (.cells r.cells.toArray 129) :: Own 6 (.slice r.A r.xs.length r.c) (r.xs.flatMap cRO) :: RoC (r.xs.getD i ro0) :: (r.others i ++ L)) := by
  have h1 : Mem w0 w (r.chunks ++ L) := Mem.opn hm
  have hp : (r.xs.map RoC).Perm (RoC (r.xs.getD i ro0) :: r.others i) := by
    have := (perm_pull r.xs i (r.xs.getD i ro0) (by simp [hi])).map RoC
    simpa [Rf.others] using this
  exact h1.perm (List.Perm.append_right L (List.Perm.cons _ (List.Perm.cons _ hp)))
end Go.Proofs.YtgflfpepfpekhaaGreat
namespace Go.Proofs.YtgflfpepfpekhaaGreat
open Go.RowKit Go.Mm
set_option maxHeartbeats 4000000
set_option maxRecDepth 100000
set_option linter.unusedSimpArgs false
/-- Does a value name an object? -/
def nmB (l : List Ob) (v : V2) : Bool := decide (6 ≤ v.1) && decide (v.1 ≤ 9) && (nm l v).isSome
theorem refNames_ok (w : World) (A : Option Addr) (n c : Nat) (xs : List RO) (hx : Fact (ObsR w A n c xs)) (hn : n ≤ 16777216) (K N : Int) :
    Calls Tryz.prog 87 #[.slice A n c, .agg #[.int .i64 K, .int .i64 N]] w fun e w' => e = .returned (.bool (nmB (xs.map (·.ob)) (K, N))) ∧ Gr w w' := by
  have hl := Fact.mk hx.out.len
  go_enter Tryz.func87, Tryz.ntmps87
  go_upto_region 1 with (fail)
  have hm1 := (Mem.start w).alloc (.cells [.int .i64 K, .int .i64 N].toArray 36)
  generalize hgb : w.heap.size = gb at hm1 ⊢
  generalize hw1 : w.alloc (.cells [.int .i64 K, .int .i64 N].toArray 36) = w1 at hm1
  try refine wp_world hw1 ?_
  have hg1 : Gr w w1 := hm1.below
  clear hw1 hgb
  have d0 := hm1.cell m0 0 rfl
  have d1 := hm1.cell m0 1 rfl
  by_cases q0 : K < 6
  · have q0' : decide (K < 6) = true := decide_eq_true q0
    have hb : Fact (nmB (xs.map (·.ob)) (K, N) = false) := ⟨by unfold nmB; rw [decide_eq_false (show ¬ 6 ≤ (K, N).1 by show ¬ 6 ≤ K; omega)]; rfl⟩
    go_wp2
    go_ret
    exact ⟨by rw [hb.out]; rfl, hg1⟩
  have q0' : decide (K < 6) = false := decide_eq_false q0
  by_cases q1 : 9 < K
  · have q1' : decide (K > 9) = true := decide_eq_true q1
    have hb : Fact (nmB (xs.map (·.ob)) (K, N) = false) := ⟨by unfold nmB; rw [decide_eq_false (show ¬ (K, N).1 ≤ 9 by show ¬ K ≤ 9; omega)]; simp⟩
    go_wp2
    go_ret
    exact ⟨by rw [hb.out]; rfl, hg1⟩
  have q1' : decide (K > 9) = false := decide_eq_false (by omega)
  have hb0 : Fact (nmB (xs.map (·.ob)) (K, N) = (nm (xs.map (·.ob)) (K, N)).isSome) := ⟨by unfold nmB; rw [decide_eq_true (show 6 ≤ (K, N).1 by show 6 ≤ K; omega), decide_eq_true (show (K, N).1 ≤ 9 by show K ≤ 9; omega)]; rfl⟩
  by_cases q2 : N < 0
  · have q2' : decide (N < 0) = true := decide_eq_true q2
    have hb : Fact (nm (xs.map (·.ob)) (K, N) = none) := ⟨by unfold nm; rw [if_neg (by intro q; have := q.1; dsimp only at this; omega)]⟩
    go_wp2
    go_ret
    exact ⟨by rw [hb0.out, hb.out]; rfl, hg1⟩
  have q2' : decide (N < 0) = false := decide_eq_false q2
  by_cases q3 : N < n
  · have q3' : decide (N ≥ (n : Int)) = false := decide_eq_false (by omega)
    obtain ⟨i, rfl⟩ := Int.eq_ofNat_of_zero_le (Int.not_lt.1 q2)
    have hi : i < n := by omega
    obtain ⟨b, o, rfl, hc, hil, hrd⟩ := (hx.out.gr hg1).at i hi
    have hb : Fact ((nm (xs.map (·.ob)) (K, (i : Int))).isSome = ((xs.getD i ro0).ob.kind == K)) := ⟨by
      unfold nm
      have e : ((xs.map (·.ob)).getD i ob0) = (xs.getD i ro0).ob := by simp [hil]
      simp only [Int.toNat_natCast, List.length_map, e]
      by_cases q : (xs.getD i ro0).ob.kind = K
      · rw [if_pos ⟨by omega, by omega, q⟩, q]; simp
      · rw [if_neg (fun z => q z.2.2)]; exact (beq_eq_false_iff_ne.2 q).symm⟩
    have c0 : w1.cell? ⟨b, o + i * 6, none⟩ = some (.int .i64 (xs.getD i ro0).ob.kind) := hc 0 _ rfl
    clear hc hrd
    generalize (xs.getD i ro0).ob.kind = kd at c0 hb
    go_upto_region 3 with (fail)
    go_quiet (fail)
    go_wp2
    go_ret
    exact ⟨by rw [hb0.out, hb.out]; rfl, hg1.drewN _⟩
  · have q3' : decide (N ≥ (n : Int)) = true := decide_eq_true (by omega)
    have hb : Fact (nm (xs.map (·.ob)) (K, N) = none) := ⟨by unfold nm; rw [if_neg (by intro q; have := q.2.1; rw [List.length_map, hl.out] at this; dsimp only at this; omega)]⟩
    go_wp2
    go_ret
    exact ⟨by rw [hb0.out, hb.out]; rfl, hg1⟩
end Go.Proofs.YtgflfpepfpekhaaGreat
namespace Go.Mm
open Go.RowKit
end Go.Mm
namespace Go.Proofs.YtgflfpepfpekhaaGreat
open Go.RowKit Go.Mm
set_option maxHeartbeats 4000000
set_option maxRecDepth 100000
set_option linter.unusedSimpArgs false
/-- The object with other items. -/
def RO.its (x : RO) (A : Option Addr) (c : Nat) (items : List V2) : RO := { x with A := A, c := c, ob := { x.ob with items := items } }
end Go.Proofs.YtgflfpepfpekhaaGreat
namespace Go.Proofs.YtgflfpepfpekhaaGreat
open Go.RowKit Go.Mm
set_option maxHeartbeats 4000000
set_option maxRecDepth 100000
set_option linter.unusedSimpArgs false
/-! ### places of keys, one key struck out -/
theorem idx_some {ks : List Int} (hn : ks.Nodup) {k : Int} {j : Nat} : ks.idxOf? k = some j ↔ ks[j]? = some k := by
  rw [List.idxOf?, List.findIdx?_eq_some_iff_getElem]
  constructor
  · rintro ⟨h, h1, _⟩
    rw [List.getElem?_eq_getElem h]
    simpa using h1
  · intro h
    obtain ⟨hj, e⟩ := List.getElem?_eq_some_iff.1 h
    refine ⟨hj, by simpa using e, fun i hi => ?_⟩
    simp only [beq_iff_eq]
    intro e2
    have := (List.getElem_inj hn).1 (e2.trans e.symm)
    omega
theorem idx_none {ks : List Int} {k : Int} : ks.idxOf? k = none ↔ k ∉ ks := by
  rw [List.idxOf?, List.findIdx?_eq_none_iff]
  constructor
  · intro h hk
    have := h k hk
    simp at this
  · intro h x hx
    simp only [beq_eq_false_iff_ne, ne_eq]
    rintro rfl
    exact h hx
/-- A map of places is right up to place k, and holds just these keys. -/
structure UpTo (ks : List Int) (k : Nat) (f : Int → Option Nat) : Prop where
  done : ∀ i, i < k → ∀ q, ks[i]? = some q → f q = some i
  held : ∀ q, q ∈ ks → (f q).isSome = true
  none : ∀ q, q ∉ ks → f q = none
theorem UpTo.start {ks : List Int} (hn : ks.Nodup) {key : Int} {j : Nat} (hj : ks.idxOf? key = some j) : UpTo (ks.take j ++ ks.drop (j + 1)) j (delF (fun k => ks.idxOf? k) key) := by
  have hk := (idx_some hn).1 hj
  obtain ⟨hjl, hke⟩ := List.getElem?_eq_some_iff.1 hk
  have hmem : ∀ q, q ∈ ks.take j ++ ks.drop (j + 1) ↔ q ∈ ks ∧ q ≠ key := by
    intro q
    have e : ks = ks.take j ++ key :: ks.drop (j + 1) := by
      conv => lhs; rw [← List.take_append_drop j ks, List.drop_eq_getElem_cons hjl, hke]
    have hn2 := hn
    rw [e, List.nodup_append] at hn2
    obtain ⟨n1, n2, n3⟩ := hn2
    have n4 := List.nodup_cons.1 n2
    constructor
    · intro h
      refine ⟨by rw [e]; rcases List.mem_append.1 h with h | h; exact List.mem_append_left _ h; exact List.mem_append_right _ (.tail _ h), ?_⟩
      rintro rfl
      rcases List.mem_append.1 h with h | h
      · exact n3 _ h _ (.head _) rfl
      · exact n4.1 h
    · rintro ⟨h, h2⟩
      rw [e] at h
      rcases List.mem_append.1 h with h | h
      · exact List.mem_append_left _ h
      · rcases List.mem_cons.1 h with h | h
        · exact absurd h h2
        · exact List.mem_append_right _ h
  refine ⟨fun i hi q hq => ?_, fun q hq => ?_, fun q hq => ?_⟩
  · rw [List.getElem?_append_left (by rw [List.length_take]; omega), List.getElem?_take_of_lt hi] at hq
    have h1 : q ≠ key := by
      rintro rfl
      have := (List.getElem?_inj (by omega) hn).1 (hq.trans hk.symm)
      omega
    unfold delF
    rw [if_neg h1]
    exact (idx_some hn).2 hq
  · obtain ⟨h1, h2⟩ := (hmem q).1 hq
    unfold delF
    rw [if_neg h2]
    show (ks.idxOf? q).isSome = true
    cases h : ks.idxOf? q with
    | none => exact absurd h1 (idx_none.1 h)
    | some _ => rfl
  · unfold delF
    by_cases h2 : q = key
    · rw [if_pos h2]
    · rw [if_neg h2]
      exact idx_none.2 fun h1 => hq ((hmem q).2 ⟨h1, h2⟩)
theorem UpTo.step {ks : List Int} (hn : ks.Nodup) {k : Nat} {f : Int → Option Nat} (h : UpTo ks k f) {q : Int} (hq : ks[k]? = some q) : UpTo ks (k + 1) (updF f q k) := by
  have hm := List.mem_of_getElem? hq
  refine ⟨fun i hi x hx => ?_, fun x hx => ?_, fun x hx => ?_⟩
  · unfold updF
    by_cases e : x = q
    · subst e
      rw [if_pos rfl]
      obtain ⟨hk, _⟩ := List.getElem?_eq_some_iff.1 hq
      rw [(List.getElem?_inj hk hn).1 (hq.trans hx.symm)]
    · rw [if_neg e]
      refine h.done i ?_ x hx
      rcases Nat.lt_succ_iff_lt_or_eq.1 hi with h1 | h1
      · exact h1
      · subst h1; rw [hq] at hx; exact absurd (Option.some.inj hx).symm e
  · unfold updF
    split
    · rfl
    · exact h.held x hx
  · unfold updF
    rw [if_neg (fun e => hx (by rw [e]; exact hm))]
    exact h.none x hx
theorem UpTo.all {ks : List Int} (hn : ks.Nodup) {f : Int → Option Nat} (h : UpTo ks ks.length f) (q : Int) : f q = ks.idxOf? q := by
  by_cases hq : q ∈ ks
  · obtain ⟨i, hi⟩ := List.mem_iff_getElem?.1 hq
    obtain ⟨hil, _⟩ := List.getElem?_eq_some_iff.1 hi
    rw [h.done i hil q hi, (idx_some hn).2 hi]
  · rw [h.none q hq, idx_none.2 hq]
end Go.Proofs.YtgflfpepfpekhaaGreat
namespace Go.Proofs.YtgflfpepfpekhaaGreat
open Go.RowKit Go.Mm
set_option maxHeartbeats 4000000
set_option maxRecDepth 100000
set_option linter.unusedSimpArgs false
def findI (ks : List Int) (key : Int) : Int := match ks.idxOf? key with | some j => (j : Nat) | none => -1
theorem find_miss {ks : List Int} {key : Int} {k : Nat} (hk : k < ks.length) (h : (ks.take k).idxOf? key = none) (hne : ks.getD k 0 ≠ key) : (ks.take (k + 1)).idxOf? key = none := by
  rw [take_snoc' ks k hk, idx_app, h]
  simp only
  rw [List.idxOf?_cons, if_neg (by simpa using hne)]
  rfl
theorem find_hit {ks : List Int} {key : Int} {k : Nat} (hk : k < ks.length) (h : (ks.take k).idxOf? key = none) (he : ks.getD k 0 = key) : ks.idxOf? key = some k := by
  have e : ks = ks.take k ++ key :: ks.drop (k + 1) := by
    conv => lhs; rw [← List.take_append_drop k ks, List.drop_eq_getElem_cons hk]
    rw [← he]
    simp [hk]
  rw [e, idx_app, h]
  simp only
  rw [List.idxOf?_cons, if_pos (by simp)]
  simp
  omega
theorem find_ok (w : World) (A : Option Addr) (n c : Nat) (xs : List Int) (hx : Fact (RdC w 1 (.slice A n c) (nums .i64 xs))) (hn : n ≤ 16777216) (key : Int) :
    Calls Tryz.prog 88 #[.slice A n c, .int .i64 key] w fun e w' => e = .returned (.int .i64 (findI xs key)) ∧ w' = w := by
  have hl := Fact.mk hx.out.nlen
  go_enter Tryz.func88, Tryz.ntmps88
  go_wp2
  go_loopw [5] (fun s5 w' => ∃ k : Nat, s5 = .int .i64 k ∧ k ≤ n ∧ Fact ((xs.take k).idxOf? key = none) ∧ w' = w) (fun s5 _ => n - (intOf s5).toNat)
  case atStart => exact ⟨0, rfl, by omega, ⟨rfl⟩, rfl⟩
  case round =>
    obtain ⟨k, rfl, hk, hno, rfl⟩ := hrel
    by_cases hlt : k < n
    · obtain ⟨b, o, rfl, g1, _⟩ := hx.out.num k hlt
      obtain ⟨x, hx0⟩ : ∃ x, xs.getD k 0 = x := ⟨_, rfl⟩
      rw [hx0] at g1
      by_cases q : x = key
      · subst q
        have hfin : Fact (findI xs x = k) := ⟨by unfold findI; rw [find_hit (by have := hl.out; omega) hno.out hx0]⟩
        go_wp2
        go_ret
        exact ⟨by rw [hfin.out]; rfl, rfl⟩
      · have q' : (x == key) = false := beq_eq_false_iff_ne.2 q
        have hno' : Fact ((xs.take (k + 1)).idxOf? key = none) := ⟨find_miss (by have := hl.out; omega) hno.out (by rw [hx0]; exact q)⟩
        go_wp2
        go_roundw
        case rel => exact ⟨k + 1, by go_num, by omega, hno', by first | trivial | rfl⟩
        case measure => exact measP_lt hlt
    · obtain rfl : k = n := by omega
      have hfin : Fact (findI xs key = -1) := ⟨by unfold findI; have := hno.out; rw [List.take_of_length_le (by rw [hl.out]; omega)] at this; rw [this]⟩
      go_wp2
      go_ret
      exact ⟨by rw [hfin.out]; rfl, rfl⟩
end Go.Proofs.YtgflfpepfpekhaaGreat
namespace Go.Mm
open Go.RowKit
section
variable {P : Program} {ops : Array Oper} {Q : Exit → Act → World → Prop}
/-- A function's value, called. -/
def VCalls (P : Program) (v : Value) (args : List Value) (w : World) (R : Ending → World → Prop) : Prop :=
  ∃ f first cap bs, v = .func (.func f) first cap ∧ (callFunc f (first ++ args.toArray ++ cap)).run P w = .ok (.enter f bs) w ∧ Calls P f bs w R
theorem VCalls.mono {v : Value} {args : List Value} {w : World} {R R' : Ending → World → Prop} (h : VCalls P v args w R) (hr : ∀ e w', R e w' → R' e w') : VCalls P v args w R' :=
  let ⟨f, first, cap, bs, h1, h2, h3⟩ := h
  ⟨f, first, cap, bs, h1, h2, h3.mono hr⟩
theorem run_fnv {o : Oper} {a : Act} {w : World} (x : Operand) (xs : List Operand) (ts : Array TypeId) (ho : o.op = .call { callee := .value x, args := xs.toArray, argTypes := ts }) (f : FuncId) (first cap : Array Value) (hx : a.eval x = .func (.func f) first cap) (args : List Value) (ha : xs.map a.eval = args) :
    (execOp a.eval o).run P w = (callFunc f (first ++ args.toArray ++ cap)).run P w := by
  unfold execOp
  simp only [ho, resolve, Deferred.ofValue, Sem.run_bind, Sem.run_pure, Result.andThen_ok, hx, List.map_toArray, ha, invoke]
theorem wp_fnv {o : Oper} {rest : List Oper} {a : Act} {w : World} (hw : Region.wanted o (yielded ops a.tmps) = true) (x : Operand) (xs : List Operand) (ts : Array TypeId) (ho : o.op = .call { callee := .value x, args := xs.toArray, argTypes := ts }) (v : Value) (hx : a.eval x = v) (args : List Value) (ha : xs.map a.eval = args)
    (h : VCalls P v args w fun e w' => ∃ r, e = .returned r ∧ wpList P ops Q rest (a.put o.dst r) w') : wpList P ops Q (o :: rest) a w := by
  refine wpList_want hw fun K hK => ?_
  obtain ⟨f, first, cap, bs, h1, h2, h3⟩ := h
  unfold Oper.wp
  rw [run_fnv x xs ts ho f first cap (hx.trans h1) args ha, h2]
  exact h3.mono fun e w' he => by obtain ⟨r, rfl, hr⟩ := he; exact hK _ _ hr
end
end Go.Mm
namespace Go.Proofs.YtgflfpepfpekhaaGreat
open Go.RowKit Go.Mm
set_option maxHeartbeats 4000000
set_option maxRecDepth 100000
set_option linter.unusedSimpArgs false
theorem and_top (N : Int) : bits BinOp.and IntKind.i64 N 9223372036854775807 = ((BitVec.ofInt 64 N &&& 9223372036854775807#64).toNat : Int) := by
  have h : (BitVec.ofInt 64 N &&& 9223372036854775807#64).toNat ≤ 9223372036854775807 := by
    rw [BitVec.toNat_and]
    exact Nat.and_le_right
  show IntKind.i64.wrap ((BitVec.ofInt 64 N &&& 9223372036854775807#64).toNat : Int) = _
  exact IntWalk.i64_in _ (by constructor <;> omega)
theorem and_topu (N : Int) : bits BinOp.and IntKind.u64 (IntKind.u64.wrap N) 9223372036854775807 = ((BitVec.ofInt 64 N &&& 9223372036854775807#64).toNat : Int) := by
  have e : BitVec.ofInt 64 (IntKind.u64.wrap N) = BitVec.ofInt 64 N := by
    apply BitVec.eq_of_toInt_eq
    simp only [BitVec.toInt_ofInt, IntKind.wrap, IntKind.bits, IntKind.signed, Bool.false_and, Bool.false_eq_true, if_false]
    rw [show ((2 : Int) ^ 64) = ((2 ^ 64 : Nat) : Int) from rfl]
    exact Int.emod_bmod ..
  have h : (BitVec.ofInt 64 N &&& 9223372036854775807#64).toNat ≤ 9223372036854775807 := by
    rw [BitVec.toNat_and]
    exact Nat.and_le_right
  show IntKind.u64.wrap ((BitVec.ofInt 64 (IntKind.u64.wrap N) &&& 9223372036854775807#64).toNat : Int) = _
  rw [e]
  generalize (BitVec.ofInt 64 N &&& 9223372036854775807#64).toNat = x at h
  simp only [IntKind.wrap, IntKind.bits, IntKind.signed, Bool.false_and, Bool.false_eq_true, if_false]
  omega
/-- A number that a real may have. -/
def realB (n : Int) : Bool := n == 9221120237041090560 || decide (bits BinOp.and IntKind.i64 n 9223372036854775807 ≤ 9218868437227405312)
theorem realB_ref (n : Int) (h0 : -9223372036854775808 ≤ n) (h1 : n ≤ 9223372036854775807) : (decide (bits BinOp.and IntKind.u64 (IntKind.u64.wrap n) 9223372036854775807 ≤ 9218868437227405312) || (IntKind.u64.wrap n == 9221120237041090560)) = realB n := by
  unfold realB
  rw [and_top, and_topu, Bool.or_comm]
  congr 1
  have e : IntKind.u64.wrap n = n % 18446744073709551616 := by simp [IntKind.wrap, IntKind.bits, IntKind.signed]
  rw [e]
  by_cases q : n = 9221120237041090560
  · subst q; rfl
  · rw [beq_eq_false_iff_ne.2 q, beq_eq_false_iff_ne.2 (by omega)]
theorem half_zero (n : Int) : (n / 2 == 0) = (n == 0 || n == 1) := by
  by_cases q : n = 0
  · subst q; rfl
  by_cases q1 : n = 1
  · subst q1; rfl
  rw [beq_eq_false_iff_ne.2 q, beq_eq_false_iff_ne.2 q1, beq_eq_false_iff_ne.2 (by omega)]
  rfl
/-- Values that name no object: are they right? none: it may name one. -/
def flatB (v : V2) : Option Bool :=
  if v.1 = 0 then some (v.2 == 0) else if v.1 = 1 then some (v.2 == 0 || v.2 == 1) else if v.1 = 2 then some true else if v.1 = 3 then some (realB v.2) else if v.1 = 4 ∨ v.1 = 5 then some (decide (0 ≤ v.2)) else none
/-- A value that an object of the program's heap may hold. -/
def rightP (l : List Ob) (v : V2) : Bool := (flatB v).getD (nm l v).isSome
/-- As the document says it. -/
def rightV (l : List Ob) (v : V2) : Bool := (flatB v).getD (nmB l v)
theorem rightP_eq {l : List Ob} (hk : ∀ o, o ∈ l → o.kind = 6 ∨ o.kind = 7 ∨ o.kind = 8 ∨ o.kind = 9) (v : V2) : rightP l v = rightV l v := by
  unfold rightP rightV
  congr 1
  unfold nmB
  cases hn : nm l v with
  | none => simp
  | some i =>
    unfold nm at hn
    split at hn
    · rename_i q
      obtain ⟨q0, q1, q2⟩ := q
      have := hk (l.getD v.2.toNat ob0) (by rw [List.getD_eq_getElem?_getD, List.getElem?_eq_getElem (by omega)]; exact List.getElem_mem _)
      rw [q2] at this
      rw [decide_eq_true (by omega), decide_eq_true (by omega)]
      rfl
    · cases hn
theorem right_ok (w0 w : World) (L : List Chunk) (h : Hp) (hm : Mem w0 w L) (hh : HpC h ∈ L) (hok : Fact h.Ok) (K N : Int) :
    Calls Tryz.prog 71 #[.pointer (some ⟨h.g, 0, none⟩), .agg #[.int .i64 K, .int .i64 N]] w fun e w' => e = .returned (.bool (rightP h.objs (K, N))) ∧ Gr w w' := by
  generalize hl : h.objs = l
  by_cases q0 : K = 0
  · subst q0
    rw [show rightP l (0, N) = (N == 0) from rfl]
    go_enter Tryz.func71, Tryz.ntmps71
    go_upto_region 1 with (fail)
    have hm1 := hm.alloc (.cells [.int .i64 0, .int .i64 N].toArray 36)
    generalize hgb : w.heap.size = gb at hm1 ⊢
    generalize hw1 : w.alloc (.cells [.int .i64 0, .int .i64 N].toArray 36) = w1 at hm1
    try refine wp_world hw1 ?_
    have hg1 : Gr w w1 := by rw [← hw1]; exact (Gr.refl w).alloc _
    clear hw1 hgb
    have d0 := hm1.cell m0 0 rfl
    have d1 := hm1.cell m0 1 rfl
    go_wp2
    all_goals
      go_ret
      exact ⟨by first | rfl | (congr 2; simp [*]) | simp [*], hg1⟩
  by_cases q1 : K = 1
  · subst q1
    rw [show rightP l (1, N) = (N == 0 || N == 1) from rfl]
    rw [← half_zero]
    go_enter Tryz.func71, Tryz.ntmps71
    go_upto_region 1 with (fail)
    have hm1 := hm.alloc (.cells [.int .i64 1, .int .i64 N].toArray 36)
    generalize hgb : w.heap.size = gb at hm1 ⊢
    generalize hw1 : w.alloc (.cells [.int .i64 1, .int .i64 N].toArray 36) = w1 at hm1
    try refine wp_world hw1 ?_
    have hg1 : Gr w w1 := by rw [← hw1]; exact (Gr.refl w).alloc _
    clear hw1 hgb
    have d0 := hm1.cell m0 0 rfl
    have d1 := hm1.cell m0 1 rfl
    go_wp2
    all_goals
      go_ret
      exact ⟨by first | rfl | (congr 2; simp [*]) | simp [*], hg1⟩
  by_cases q2 : K = 2
  · subst q2
    rw [show rightP l (2, N) = (true) from rfl]
    go_enter Tryz.func71, Tryz.ntmps71
    go_upto_region 1 with (fail)
    have hm1 := hm.alloc (.cells [.int .i64 2, .int .i64 N].toArray 36)
    generalize hgb : w.heap.size = gb at hm1 ⊢
    generalize hw1 : w.alloc (.cells [.int .i64 2, .int .i64 N].toArray 36) = w1 at hm1
    try refine wp_world hw1 ?_
    have hg1 : Gr w w1 := by rw [← hw1]; exact (Gr.refl w).alloc _
    clear hw1 hgb
    have d0 := hm1.cell m0 0 rfl
    have d1 := hm1.cell m0 1 rfl
    go_wp2
    all_goals
      go_ret
      exact ⟨by first | rfl | (congr 2; simp [*]) | simp [*], hg1⟩
  by_cases q3 : K = 3
  · subst q3
    rw [show rightP l (3, N) = (realB N) from rfl]
    unfold realB
    go_enter Tryz.func71, Tryz.ntmps71
    go_upto_region 1 with (fail)
    have hm1 := hm.alloc (.cells [.int .i64 3, .int .i64 N].toArray 36)
    generalize hgb : w.heap.size = gb at hm1 ⊢
    generalize hw1 : w.alloc (.cells [.int .i64 3, .int .i64 N].toArray 36) = w1 at hm1
    try refine wp_world hw1 ?_
    have hg1 : Gr w w1 := by rw [← hw1]; exact (Gr.refl w).alloc _
    clear hw1 hgb
    have d0 := hm1.cell m0 0 rfl
    have d1 := hm1.cell m0 1 rfl
    go_wp2
    all_goals
      go_ret
      exact ⟨by first | rfl | (congr 2; simp [*]) | simp [*], hg1⟩
  by_cases q4 : K = 4
  · subst q4
    rw [show rightP l (4, N) = (decide (0 ≤ N)) from rfl]
    go_enter Tryz.func71, Tryz.ntmps71
    go_upto_region 1 with (fail)
    have hm1 := hm.alloc (.cells [.int .i64 4, .int .i64 N].toArray 36)
    generalize hgb : w.heap.size = gb at hm1 ⊢
    generalize hw1 : w.alloc (.cells [.int .i64 4, .int .i64 N].toArray 36) = w1 at hm1
    try refine wp_world hw1 ?_
    have hg1 : Gr w w1 := by rw [← hw1]; exact (Gr.refl w).alloc _
    clear hw1 hgb
    have d0 := hm1.cell m0 0 rfl
    have d1 := hm1.cell m0 1 rfl
    go_wp2
    all_goals
      go_ret
      exact ⟨by first | rfl | (congr 2; simp [*]) | simp [*], hg1⟩
  by_cases q5 : K = 5
  · subst q5
    rw [show rightP l (5, N) = (decide (0 ≤ N)) from rfl]
    go_enter Tryz.func71, Tryz.ntmps71
    go_upto_region 1 with (fail)
    have hm1 := hm.alloc (.cells [.int .i64 5, .int .i64 N].toArray 36)
    generalize hgb : w.heap.size = gb at hm1 ⊢
    generalize hw1 : w.alloc (.cells [.int .i64 5, .int .i64 N].toArray 36) = w1 at hm1
    try refine wp_world hw1 ?_
    have hg1 : Gr w w1 := by rw [← hw1]; exact (Gr.refl w).alloc _
    clear hw1 hgb
    have d0 := hm1.cell m0 0 rfl
    have d1 := hm1.cell m0 1 rfl
    go_wp2
    all_goals
      go_ret
      exact ⟨by first | rfl | (congr 2; simp [*]) | simp [*], hg1⟩
  have hr : rightP l (K, N) = (nm l (K, N)).isSome := by
    unfold rightP flatB
    rw [if_neg q0, if_neg q1, if_neg q2, if_neg q3, if_neg (by simp [q4, q5])]
    rfl
  rw [hr]
  clear hr
  replace q0 : (K == 0) = false := beq_eq_false_iff_ne.2 q0
  replace q1 : (K == 1) = false := beq_eq_false_iff_ne.2 q1
  replace q2 : (K == 2) = false := beq_eq_false_iff_ne.2 q2
  replace q3 : (K == 3) = false := beq_eq_false_iff_ne.2 q3
  replace q4 : (K == 4) = false := beq_eq_false_iff_ne.2 q4
  replace q5 : (K == 5) = false := beq_eq_false_iff_ne.2 q5
  go_enter Tryz.func71, Tryz.ntmps71
  go_upto_region 1 with (fail)
  have hm1 := hm.alloc (.cells [.int .i64 K, .int .i64 N].toArray 36)
  generalize hgb : w.heap.size = gb at hm1 ⊢
  generalize hw1 : w.alloc (.cells [.int .i64 K, .int .i64 N].toArray 36) = w1 at hm1
  try refine wp_world hw1 ?_
  have hg1 : Gr w w1 := by rw [← hw1]; exact (Gr.refl w).alloc _
  clear hw1 hgb
  have d0 := hm1.cell m0 0 rfl
  have d1 := hm1.cell m0 1 rfl
  cases hn : nm l (K, N) with
  | none =>
    have hnv : namedV h (K, N) = .nilIface := by unfold namedV; rw [hl, hn]
    go_wp2_with (refine wp_rng rfl 36 _ rfl gb 0 rfl (cV (K, N)) (rng_blk hm1 m0) row_VH sz_V ?_)
    refine (named_ok w0 w1 _ h hm1 (.tail _ hh) hok K N).mono ?_
    rintro e w2 ⟨rfl, hg2⟩
    rw [hnv]
    go_wp2
    go_ret
    exact ⟨by rw [hn]; rfl, hg1.trans hg2⟩
  | some i =>
    have hnv : namedV h (K, N) = .iface (thTy (h.ths.getD i th0).ob.kind) (.pointer (some ⟨(h.ths.getD i th0).g, 0, none⟩)) := by unfold namedV; rw [hl, hn]; rfl
    generalize thTy (h.ths.getD i th0).ob.kind = T at hnv
    generalize (h.ths.getD i th0).g = g at hnv
    go_wp2_with (refine wp_rng rfl 36 _ rfl gb 0 rfl (cV (K, N)) (rng_blk hm1 m0) row_VH sz_V ?_)
    refine (named_ok w0 w1 _ h hm1 (.tail _ hh) hok K N).mono ?_
    rintro e w2 ⟨rfl, hg2⟩
    rw [hnv]
    go_wp2
    go_ret
    exact ⟨by rw [hn]; rfl, hg1.trans hg2⟩
theorem refRight_ok (w0 w : World) (L : List Chunk) (hm : Mem w0 w L) (A : Option Addr) (n c : Nat) (xs : List RO) (hx : Fact (ObsR w A n c xs)) (hn : n ≤ 16777216) (K N : Int) (hw0 : -9223372036854775808 ≤ N) (hw1 : N ≤ 9223372036854775807) :
    Calls Tryz.prog 85 #[.slice A n c, .agg #[.int .i64 K, .int .i64 N]] w fun e w' => e = .returned (.bool (rightV (xs.map (·.ob)) (K, N))) ∧ Gr w w' := by
  generalize hl : xs.map (·.ob) = l
  by_cases q0 : K = 0
  · subst q0
    rw [show rightV l (0, N) = (N == 0) from rfl]
    go_enter Tryz.func85, Tryz.ntmps85
    go_upto_region 1 with (fail)
    have hm1 := hm.alloc (.cells [.int .i64 0, .int .i64 N].toArray 36)
    generalize hgb : w.heap.size = gb at hm1 ⊢
    generalize hwA : w.alloc (.cells [.int .i64 0, .int .i64 N].toArray 36) = w1 at hm1
    try refine wp_world hwA ?_
    have hg1 : Gr w w1 := by rw [← hwA]; exact (Gr.refl w).alloc _
    clear hwA hgb
    have d0 := hm1.cell m0 0 rfl
    have d1 := hm1.cell m0 1 rfl
    go_wp2
    all_goals
      go_ret
      exact ⟨by first | rfl | (congr 2; simp [*]) | simp [*], hg1⟩
  by_cases q1 : K = 1
  · subst q1
    rw [show rightV l (1, N) = (N == 0 || N == 1) from rfl]
    go_enter Tryz.func85, Tryz.ntmps85
    go_upto_region 1 with (fail)
    have hm1 := hm.alloc (.cells [.int .i64 1, .int .i64 N].toArray 36)
    generalize hgb : w.heap.size = gb at hm1 ⊢
    generalize hwA : w.alloc (.cells [.int .i64 1, .int .i64 N].toArray 36) = w1 at hm1
    try refine wp_world hwA ?_
    have hg1 : Gr w w1 := by rw [← hwA]; exact (Gr.refl w).alloc _
    clear hwA hgb
    have d0 := hm1.cell m0 0 rfl
    have d1 := hm1.cell m0 1 rfl
    go_wp2
    all_goals
      go_ret
      exact ⟨by first | rfl | (congr 2; simp [*]) | simp [*], hg1⟩
  by_cases q2 : K = 2
  · subst q2
    rw [show rightV l (2, N) = (true) from rfl]
    go_enter Tryz.func85, Tryz.ntmps85
    go_upto_region 1 with (fail)
    have hm1 := hm.alloc (.cells [.int .i64 2, .int .i64 N].toArray 36)
    generalize hgb : w.heap.size = gb at hm1 ⊢
    generalize hwA : w.alloc (.cells [.int .i64 2, .int .i64 N].toArray 36) = w1 at hm1
    try refine wp_world hwA ?_
    have hg1 : Gr w w1 := by rw [← hwA]; exact (Gr.refl w).alloc _
    clear hwA hgb
    have d0 := hm1.cell m0 0 rfl
    have d1 := hm1.cell m0 1 rfl
    go_wp2
    all_goals
      go_ret
      exact ⟨by first | rfl | (congr 2; simp [*]) | simp [*], hg1⟩
  by_cases q3 : K = 3
  · subst q3
    rw [show rightV l (3, N) = (realB N) from rfl]
    rw [← realB_ref N hw0 hw1]
    go_enter Tryz.func85, Tryz.ntmps85
    go_upto_region 1 with (fail)
    have hm1 := hm.alloc (.cells [.int .i64 3, .int .i64 N].toArray 36)
    generalize hgb : w.heap.size = gb at hm1 ⊢
    generalize hwA : w.alloc (.cells [.int .i64 3, .int .i64 N].toArray 36) = w1 at hm1
    try refine wp_world hwA ?_
    have hg1 : Gr w w1 := by rw [← hwA]; exact (Gr.refl w).alloc _
    clear hwA hgb
    have d0 := hm1.cell m0 0 rfl
    have d1 := hm1.cell m0 1 rfl
    go_wp2
    all_goals
      go_ret
      exact ⟨by first | rfl | (congr 2; simp [*]) | simp [*], hg1⟩
  by_cases q4 : K = 4
  · subst q4
    rw [show rightV l (4, N) = (decide (0 ≤ N)) from rfl]
    go_enter Tryz.func85, Tryz.ntmps85
    go_upto_region 1 with (fail)
    have hm1 := hm.alloc (.cells [.int .i64 4, .int .i64 N].toArray 36)
    generalize hgb : w.heap.size = gb at hm1 ⊢
    generalize hwA : w.alloc (.cells [.int .i64 4, .int .i64 N].toArray 36) = w1 at hm1
    try refine wp_world hwA ?_
    have hg1 : Gr w w1 := by rw [← hwA]; exact (Gr.refl w).alloc _
    clear hwA hgb
    have d0 := hm1.cell m0 0 rfl
    have d1 := hm1.cell m0 1 rfl
    go_wp2
    all_goals
      go_ret
      exact ⟨by first | rfl | (congr 2; simp [*]) | simp [*], hg1⟩
  by_cases q5 : K = 5
  · subst q5
    rw [show rightV l (5, N) = (decide (0 ≤ N)) from rfl]
    go_enter Tryz.func85, Tryz.ntmps85
    go_upto_region 1 with (fail)
    have hm1 := hm.alloc (.cells [.int .i64 5, .int .i64 N].toArray 36)
    generalize hgb : w.heap.size = gb at hm1 ⊢
    generalize hwA : w.alloc (.cells [.int .i64 5, .int .i64 N].toArray 36) = w1 at hm1
    try refine wp_world hwA ?_
    have hg1 : Gr w w1 := by rw [← hwA]; exact (Gr.refl w).alloc _
    clear hwA hgb
    have d0 := hm1.cell m0 0 rfl
    have d1 := hm1.cell m0 1 rfl
    go_wp2
    all_goals
      go_ret
      exact ⟨by first | rfl | (congr 2; simp [*]) | simp [*], hg1⟩
  have hr : rightV l (K, N) = nmB l (K, N) := by
    unfold rightV flatB
    rw [if_neg q0, if_neg q1, if_neg q2, if_neg q3, if_neg (by simp [q4, q5])]
    rfl
  rw [hr]
  clear hr
  replace q0 : (K == 0) = false := beq_eq_false_iff_ne.2 q0
  replace q1 : (K == 1) = false := beq_eq_false_iff_ne.2 q1
  replace q2 : (K == 2) = false := beq_eq_false_iff_ne.2 q2
  replace q3 : (K == 3) = false := beq_eq_false_iff_ne.2 q3
  replace q4 : (K == 4) = false := beq_eq_false_iff_ne.2 q4
  replace q5 : (K == 5) = false := beq_eq_false_iff_ne.2 q5
  go_enter Tryz.func85, Tryz.ntmps85
  go_upto_region 1 with (fail)
  have hm1 := hm.alloc (.cells [.int .i64 K, .int .i64 N].toArray 36)
  generalize hgb : w.heap.size = gb at hm1 ⊢
  generalize hwA : w.alloc (.cells [.int .i64 K, .int .i64 N].toArray 36) = w1 at hm1
  try refine wp_world hwA ?_
  have hg1 : Gr w w1 := by rw [← hwA]; exact (Gr.refl w).alloc _
  clear hwA hgb
  have d0 := hm1.cell m0 0 rfl
  have d1 := hm1.cell m0 1 rfl
  have hnm := refNames_ok w1 A n c xs ⟨hx.out.gr hg1⟩ hn K N
  rw [hl] at hnm
  replace hnm := Fact.mk hnm
  go_wp2_with (refine wp_rng rfl 36 _ rfl gb 0 rfl (cV (K, N)) (rng_blk hm1 m0) row_VH sz_V ?_)
  refine hnm.out.mono ?_
  rintro e w2 ⟨rfl, hg2⟩
  go_wp2
  go_ret
  exact ⟨rfl, hg1.trans hg2⟩
end Go.Proofs.YtgflfpepfpekhaaGreat
namespace Go.Proofs.YtgflfpepfpekhaaGreat
open Go.RowKit Go.Mm
set_option maxHeartbeats 1000000
set_option maxRecDepth 100000
set_option linter.unusedSimpArgs false
/-- The method value h.right. -/
def rightF (g : Nat) : Value := .func (.func 71) #[.pointer (some ⟨g, 0, none⟩)] #[]
theorem rightF_calls (w0 w : World) (L : List Chunk) (h : Hp) (hm : Mem w0 w L) (hh : HpC h ∈ L) (hok : Fact h.Ok) (x : V2) :
    VCalls Tryz.prog (rightF h.g) [.agg #[.int .i64 x.1, .int .i64 x.2]] w fun e w' => e = .returned (.bool (rightP h.objs x)) ∧ Gr w w' :=
  ⟨71, #[.pointer (some ⟨h.g, 0, none⟩)], #[], #[.pointer (some ⟨h.g, 0, none⟩), .agg #[.int .i64 x.1, .int .i64 x.2]], rfl, by kernel_rfl, right_ok w0 w L h hm hh hok x.1 x.2⟩
theorem take_all {α : Type} (p : α → Bool) (xs : List α) (k : Nat) (d : α) (hk : k < xs.length) : (xs.take (k + 1)).all p = ((xs.take k).all p && p (xs.getD k d)) := by
  rw [List.take_succ_eq_append_getElem hk, List.all_append]
  simp [hk]
theorem take_all_no {α : Type} {p : α → Bool} {xs : List α} {k : Nat} {d : α} (hk : k < xs.length) (h : p (xs.getD k d) = false) : xs.all p = false := by
  rw [List.all_eq_false]
  refine ⟨xs.getD k d, ?_, by rw [h]; decide⟩
  rw [List.getD_eq_getElem?_getD, List.getElem?_eq_getElem hk]
  exact List.getElem_mem _
theorem all_ok (w0 w : World) (L : List Chunk) (h : Hp) (hm : Mem w0 w L) (hh : HpC h ∈ L) (hok : Fact h.Ok) (A : Option Addr) (n c : Nat) (xs : List V2) (hx : Fact (RdC w 2 (.slice A n c) (fV xs))) (hn : n ≤ 16777216) :
    Calls Tryz.prog 109 #[.slice A n c, rightF h.g] w fun e w' => e = .returned (.bool (xs.all (rightP h.objs))) ∧ Gr w w' := by
  have hl := Fact.mk (rdV_len hx.out)
  have hV : Fact (∀ (W : World), Gr w W → ∀ x : V2, VCalls Tryz.prog (rightF h.g) [.agg #[.int .i64 x.1, .int .i64 x.2]] W fun e w' => e = .returned (.bool (rightP h.objs x)) ∧ Gr W w') := ⟨fun W hg x => rightF_calls w0 W L h (hm.gr hg) hh hok x⟩
  generalize rightF h.g = F at hV ⊢
  generalize h.objs = obs at hV ⊢
  go_enter Tryz.func109, Tryz.ntmps109
  go_wp2
  go_loopw [9] (fun s9 W => ∃ k : Nat, s9 = .int .i64 k ∧ k ≤ n ∧ Fact ((xs.take k).all (rightP obs) = true) ∧ Gr w W) (fun s9 _ => n - (intOf s9).toNat)
  case atStart => exact ⟨0, rfl, by omega, ⟨rfl⟩, Gr.refl w⟩
  case round =>
    obtain ⟨k, rfl, hk, hall, hgr⟩ := hrel
    by_cases hlt : k < n
    · obtain ⟨b, o, rfl, g1, g2, _, hkl⟩ := rdV_at (hx.out.gr hgr) k hlt
      have hsn := take_all (rightP obs) xs k (0, 0) hkl
      have hno := take_all_no (p := rightP obs) (xs := xs) (k := k) (d := (0, 0)) hkl
      generalize xs.getD k (0, 0) = x at g1 g2 hsn hno
      have hs := (Mem.start wr).alloc (.cells [.int .i64 0, .int .i64 0].toArray 36)
      go_upto_region 4 with (first | (refine wp_rng rfl 36 _ rfl b (o + k * 2) rfl (cV x) (rng2 g1 g2) row_VH sz_V ?_) | (refine wp_setrow rfl 36 _ _ rfl wr.heap.size rfl 36 _ (cV x) rfl hs sz_V rfl (cV_one x) ?_; intro w5 hm5))
      generalize wr.heap.size = g5 at hm5 ⊢
      have hg5 := hgr.trans hm5.below
      cases hr : rightP obs x with
      | false =>
        have hc := hV.out w5 hg5 x
        rw [hr] at hc
        replace hc := Fact.mk hc
        have hfin := Fact.mk (hno hr)
        clear hno hsn
        go_wp2_with (first | (refine wp_rng rfl 36 _ rfl g5 0 rfl (cV x) (rng_blk hm5 m0) row_VH sz_V ?_) | (refine wp_fnv rfl _ _ _ rfl F (by rfl) [.agg #[.int .i64 x.1, .int .i64 x.2]] (by rfl) (hc.out.mono ?_); rintro e w6 ⟨rfl, hg6⟩; refine ⟨_, rfl, ?_⟩))
        go_ret
        exact ⟨by rw [hfin.out]; rfl, hg5.trans hg6⟩
      | true =>
        have hc := hV.out w5 hg5 x
        rw [hr] at hc hsn
        rw [hall.out] at hsn
        replace hc := Fact.mk hc
        replace hsn := Fact.mk hsn
        clear hno
        go_wp2_with (first | (refine wp_rng rfl 36 _ rfl g5 0 rfl (cV x) (rng_blk hm5 m0) row_VH sz_V ?_) | (refine wp_fnv rfl _ _ _ rfl F (by rfl) [.agg #[.int .i64 x.1, .int .i64 x.2]] (by rfl) (hc.out.mono ?_); rintro e w6 ⟨rfl, hg6⟩; refine ⟨_, rfl, ?_⟩))
        go_roundw
        case rel => exact ⟨k + 1, by go_num, by omega, ⟨hsn.out⟩, hg5.trans hg6⟩
        case measure => exact measP_lt hlt
    · obtain rfl : k = n := by omega
      have hfin : Fact (xs.all (rightP obs) = true) := ⟨by have := hall.out; rwa [List.take_of_length_le (by rw [hl.out]; omega)] at this⟩
      go_wp2
      go_ret
      exact ⟨by rw [hfin.out]; rfl, hgr⟩
end Go.Proofs.YtgflfpepfpekhaaGreat
namespace Go.Proofs.YtgflfpepfpekhaaGreat
open Go.RowKit Go.Mm
set_option maxHeartbeats 8000000
set_option maxRecDepth 100000
set_option linter.unusedSimpArgs false
/-- Is an object within its kind's limits? -/
def limB (o : Ob) : Bool :=
  if o.kind = 6 then decide (o.items.length ≤ 4096) else if o.kind = 7 then decide (o.keys.length ≤ 256)
  else if o.kind = 8 then decide (0 ≤ o.fn) && decide (o.items.length ≤ 4096) else decide (1 ≤ o.cap) && decide (o.cap ≤ 64) && decide ((o.items.length : Int) ≤ o.cap)
theorem rightA_ok (w0 w : World) (L : List Chunk) (h : Hp) (hm : Mem w0 w L) (hh : HpC h ∈ L) (hok : Fact h.Ok) (g : Nat) (A : Option Addr) (n c : Nat) (xs : List V2) (hx : Fact (RdC w 2 (.slice A n c) (fV xs))) (hn : n ≤ 1048576) (h0 : w.cell? ⟨g, 0, none⟩ = some (.slice A n c)) :
    Calls Tryz.prog 108 #[.pointer (some ⟨g, 0, none⟩), rightF h.g] w fun e w' => e = .returned (.bool (decide (n ≤ 4096) && xs.all (rightP h.objs))) ∧ Gr w w' := by
  have hall := fun (W : World) (hg : Gr w W) => all_ok w0 W L h (hm.gr hg) hh hok A n c xs ⟨hx.out.gr hg⟩ (by omega)
  generalize rightF h.g = F at hall ⊢
  generalize xs.all (rightP h.objs) = al at hall ⊢
  replace hall := Fact.mk hall
  by_cases q : n ≤ 4096
  · have q' : decide ((n : Int) ≤ 4096) = true := decide_eq_true (by omega)
    rw [decide_eq_true q, Bool.true_and]
    go_enter Tryz.func108, Tryz.ntmps108
    go_wp2_with fail
    refine (hall.out w (Gr.refl w)).mono ?_
    rintro e w2 ⟨rfl, hg2⟩
    go_wp2
    go_ret
    exact ⟨rfl, hg2⟩
  · have q' : decide ((n : Int) ≤ 4096) = false := decide_eq_false (by omega)
    rw [decide_eq_false q, Bool.false_and]
    go_enter Tryz.func108, Tryz.ntmps108
    go_wp2
    go_ret
    exact ⟨rfl, Gr.refl w⟩
theorem rightR_ok (w0 w : World) (L : List Chunk) (h : Hp) (hm : Mem w0 w L) (hh : HpC h ∈ L) (hok : Fact h.Ok) (g : Nat) (A : Option Addr) (n c : Nat) (xs : List V2) (hx : Fact (RdC w 2 (.slice A n c) (fV xs))) (hn : n ≤ 1048576) (KA : Option Addr) (kn kc : Nat) (hkn : kn ≤ 1048576) (h0 : w.cell? ⟨g, 0, none⟩ = some (.slice KA kn kc)) (h1 : w.cell? ⟨g, 1, none⟩ = some (.slice A n c)) :
    Calls Tryz.prog 121 #[.pointer (some ⟨g, 0, none⟩), rightF h.g] w fun e w' => e = .returned (.bool (decide (kn ≤ 256) && xs.all (rightP h.objs))) ∧ Gr w w' := by
  have hall := fun (W : World) (hg : Gr w W) => all_ok w0 W L h (hm.gr hg) hh hok A n c xs ⟨hx.out.gr hg⟩ (by omega)
  generalize rightF h.g = F at hall ⊢
  generalize xs.all (rightP h.objs) = al at hall ⊢
  replace hall := Fact.mk hall
  by_cases q : kn ≤ 256
  · have q' : decide ((kn : Int) ≤ 256) = true := decide_eq_true (by omega)
    rw [decide_eq_true q, Bool.true_and]
    go_enter Tryz.func121, Tryz.ntmps121
    go_wp2_with fail
    refine (hall.out w (Gr.refl w)).mono ?_
    rintro e w2 ⟨rfl, hg2⟩
    go_wp2
    go_ret
    exact ⟨rfl, hg2⟩
  · have q' : decide ((kn : Int) ≤ 256) = false := decide_eq_false (by omega)
    rw [decide_eq_false q, Bool.false_and]
    go_enter Tryz.func121, Tryz.ntmps121
    go_wp2
    go_ret
    exact ⟨rfl, Gr.refl w⟩
theorem rightB_ok (w0 w : World) (L : List Chunk) (h : Hp) (hm : Mem w0 w L) (hh : HpC h ∈ L) (hok : Fact h.Ok) (g : Nat) (A : Option Addr) (n c : Nat) (xs : List V2) (hx : Fact (RdC w 2 (.slice A n c) (fV xs))) (hn : n ≤ 1048576) (fn : Int) (h0 : w.cell? ⟨g, 0, none⟩ = some (.int .i64 fn)) (h1 : w.cell? ⟨g, 1, none⟩ = some (.slice A n c)) :
    Calls Tryz.prog 113 #[.pointer (some ⟨g, 0, none⟩), rightF h.g] w fun e w' => e = .returned (.bool ((decide (0 ≤ fn) && decide (n ≤ 4096)) && xs.all (rightP h.objs))) ∧ Gr w w' := by
  have hall := fun (W : World) (hg : Gr w W) => all_ok w0 W L h (hm.gr hg) hh hok A n c xs ⟨hx.out.gr hg⟩ (by omega)
  generalize rightF h.g = F at hall ⊢
  generalize xs.all (rightP h.objs) = al at hall ⊢
  replace hall := Fact.mk hall
  by_cases p : 0 ≤ fn
  · have p' : decide (fn ≥ 0) = true := decide_eq_true p
    rw [decide_eq_true p, Bool.true_and]
    by_cases q : n ≤ 4096
    · have q' : decide ((n : Int) ≤ 4096) = true := decide_eq_true (by omega)
      rw [decide_eq_true q, Bool.true_and]
      go_enter Tryz.func113, Tryz.ntmps113
      go_wp2_with fail
      refine (hall.out w (Gr.refl w)).mono ?_
      rintro e w2 ⟨rfl, hg2⟩
      go_wp2
      go_ret
      exact ⟨rfl, hg2⟩
    · have q' : decide ((n : Int) ≤ 4096) = false := decide_eq_false (by omega)
      rw [decide_eq_false q, Bool.false_and]
      go_enter Tryz.func113, Tryz.ntmps113
      go_wp2
      go_ret
      exact ⟨rfl, Gr.refl w⟩
  · have p' : decide (fn ≥ 0) = false := decide_eq_false p
    rw [decide_eq_false p, Bool.false_and, Bool.false_and]
    go_enter Tryz.func113, Tryz.ntmps113
    go_wp2
    go_ret
    exact ⟨rfl, Gr.refl w⟩
theorem rightC_ok (w0 w : World) (L : List Chunk) (h : Hp) (hm : Mem w0 w L) (hh : HpC h ∈ L) (hok : Fact h.Ok) (g : Nat) (A : Option Addr) (n c : Nat) (xs : List V2) (hx : Fact (RdC w 2 (.slice A n c) (fV xs))) (hn : n ≤ 1048576) (cap : Int) (h0 : w.cell? ⟨g, 0, none⟩ = some (.int .i64 cap)) (h1 : w.cell? ⟨g, 1, none⟩ = some (.slice A n c)) :
    Calls Tryz.prog 117 #[.pointer (some ⟨g, 0, none⟩), rightF h.g] w fun e w' => e = .returned (.bool ((decide (1 ≤ cap) && decide (cap ≤ 64) && decide ((n : Int) ≤ cap)) && xs.all (rightP h.objs))) ∧ Gr w w' := by
  have hall := fun (W : World) (hg : Gr w W) => all_ok w0 W L h (hm.gr hg) hh hok A n c xs ⟨hx.out.gr hg⟩ (by omega)
  generalize rightF h.g = F at hall ⊢
  generalize xs.all (rightP h.objs) = al at hall ⊢
  replace hall := Fact.mk hall
  by_cases p : 1 ≤ cap
  · have p' : decide (cap ≥ 1) = true := decide_eq_true p
    rw [decide_eq_true p, Bool.true_and]
    by_cases r : cap ≤ 64
    · have r' : decide (cap ≤ 64) = true := decide_eq_true r
      rw [r', Bool.true_and]
      by_cases q : (n : Int) ≤ cap
      · have q' : decide ((n : Int) ≤ cap) = true := decide_eq_true q
        rw [q', Bool.true_and]
        go_enter Tryz.func117, Tryz.ntmps117
        go_upto_region 1 with (fail)
        have z0 := (Gr.refl w).drew.cell h0
        have z1 := (Gr.refl w).drew.cell h1
        refine wp_region_still_tail 30 (by kernel_rfl) (by kernel_rfl) ?_
        simp only [List.take_succ_cons, List.take_zero, List.drop_succ_cons, List.drop_zero]
        repeat still_step
        refine wpStill_nil ?_
        go_wp2_with fail
        refine (hall.out w.drew (Gr.refl w).drew).mono ?_
        rintro e w2 ⟨rfl, hg2⟩
        go_wp2
        go_ret
        exact ⟨rfl, (Gr.refl w).drew.trans hg2⟩
      · have q' : decide ((n : Int) ≤ cap) = false := decide_eq_false q
        rw [q', Bool.false_and]
        go_enter Tryz.func117, Tryz.ntmps117
        go_upto_region 1 with (fail)
        go_quiet (fail)
        go_wp2
        go_ret
        exact ⟨rfl, (Gr.refl w).drewN _⟩
    · have r' : decide (cap ≤ 64) = false := decide_eq_false r
      rw [r', Bool.false_and, Bool.false_and]
      go_enter Tryz.func117, Tryz.ntmps117
      go_upto_region 1 with (fail)
      go_quiet (fail)
      go_wp2
      go_ret
      exact ⟨rfl, (Gr.refl w).drewN _⟩
  · have p' : decide (cap ≥ 1) = false := decide_eq_false p
    rw [decide_eq_false p, Bool.false_and, Bool.false_and, Bool.false_and]
    go_enter Tryz.func117, Tryz.ntmps117
    go_upto_region 1 with (fail)
    go_quiet (fail)
    go_wp2
    go_ret
    exact ⟨rfl, (Gr.refl w).drewN _⟩
theorem mriA (a : Addr) (v : Value) (w : World) : (callMethod (.iface 143 (.pointer (some a))) "portage/heap.right" #[v]).run Tryz.prog w = .ok (.enter 108 #[.pointer (some a), v]) w := by kernel_rfl
theorem mriR (a : Addr) (v : Value) (w : World) : (callMethod (.iface 152 (.pointer (some a))) "portage/heap.right" #[v]).run Tryz.prog w = .ok (.enter 121 #[.pointer (some a), v]) w := by kernel_rfl
theorem mriB (a : Addr) (v : Value) (w : World) : (callMethod (.iface 146 (.pointer (some a))) "portage/heap.right" #[v]).run Tryz.prog w = .ok (.enter 113 #[.pointer (some a), v]) w := by kernel_rfl
theorem mriC (a : Addr) (v : Value) (w : World) : (callMethod (.iface 149 (.pointer (some a))) "portage/heap.right" #[v]).run Tryz.prog w = .ok (.enter 117 #[.pointer (some a), v]) w := by kernel_rfl
theorem rightI_ok (w0 w : World) (L : List Chunk) (h : Hp) (hm : Mem w0 w L) (hh : HpC h ∈ L) (hok : Fact h.Ok) (t : Th) (ht : t.Ok) (hc : ∀ c, c ∈ t.chunks → c.ok w) :
    ICalls Tryz.prog t.val "portage/heap.right" #[rightF h.g] w fun e w' => e = .returned (.bool (limB t.ob && t.ob.items.all (rightP h.objs))) ∧ Gr w w' := by
  obtain ⟨h0, hx, hk⟩ := Th.reads hc
  have hl := rdV_len hx
  have hkl := RdC.nlen hk
  have hsz := ht.size
  have kk := ht.keys
  unfold limB
  rw [hl, hkl]
  rcases t.val_of ht.kind with ⟨hkd, hv⟩ | ⟨hkd, hv⟩ | ⟨hkd, hv⟩ | ⟨hkd, hv⟩ <;> rw [hv] <;> rw [hkd] at kk <;> rw [hkd] <;> simp only [Th.cells, hkd] at h0
  · rw [if_pos rfl]
    exact ⟨_, _, mriA _ _ w, rightA_ok w0 w L h hm hh hok t.g t.A t.n t.c t.ob.items ⟨hx⟩ (by omega) (h0 0 _ rfl)⟩
  · rw [if_neg (by decide), if_pos rfl]
    have e4 := kk rfl
    exact ⟨_, _, mriR _ _ w, rightR_ok w0 w L h hm hh hok t.g t.A t.n t.c t.ob.items ⟨hx⟩ (by omega) t.KA t.kn t.kc (by omega) (h0 0 _ rfl) (h0 1 _ rfl)⟩
  · rw [if_neg (by decide), if_neg (by decide), if_pos rfl]
    exact ⟨_, _, mriB _ _ w, rightB_ok w0 w L h hm hh hok t.g t.A t.n t.c t.ob.items ⟨hx⟩ (by omega) t.ob.fn (h0 0 _ rfl) (h0 1 _ rfl)⟩
  · rw [if_neg (by decide), if_neg (by decide), if_neg (by decide)]
    exact ⟨_, _, mriC _ _ w, rightC_ok w0 w L h hm hh hok t.g t.A t.n t.c t.ob.items ⟨hx⟩ (by omega) t.ob.cap (h0 0 _ rfl) (h0 1 _ rfl)⟩
end Go.Proofs.YtgflfpepfpekhaaGreat
