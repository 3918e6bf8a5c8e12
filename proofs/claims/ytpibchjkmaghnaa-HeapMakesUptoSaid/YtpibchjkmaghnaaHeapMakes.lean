/- HeapMakes: what is spent and made, on both heaps. -/
import Derived.Test.YtpibchjkmaghnaaHpPlay
namespace Go.Proofs.Ytpibchjkmaghnaa
open Go.RowKit Go.Mm Go.WideShapes Go.ChangeShapes
set_option maxHeartbeats 4000000
set_option maxRecDepth 100000
set_option linter.unusedSimpArgs false
def mkS (c : Nat) (s : Hs) (o : HOp) : Hs := match c with
  | 0 => s.spend o.M
  | 3 => s.make (decide (o.n ≤ 4096)) (2 + o.n) ⟨6, o.items, [], 0, 0, false⟩
  | 4 => s.make true 2 ⟨7, [], [], 0, 0, false⟩
  | 5 => s.make (decide (0 ≤ o.M) && decide (o.n ≤ 4096)) (2 + o.n) ⟨8, o.items, [], o.M, 0, false⟩
  | 6 => s.make (decide (1 ≤ o.M) && decide (o.M ≤ 64)) (2 + o.M) ⟨9, [], [], 0, o.M, false⟩
  | _ => s
def mkR (c : Nat) (s : Hs) (o : HOp) : Sd := match c with
  | 0 => sdV (0, 0) 0 0 (s.room o.M)
  | 1 => sdV (0, 0) s.objs.length s.spent false
  | 2 => ⟨(0, 0), 0, 0, s.is o.M, s.at o.M, []⟩
  | 3 => s.makeV (decide (o.n ≤ 4096)) (2 + o.n) 6
  | 4 => s.makeV true 2 7
  | 5 => s.makeV (decide (0 ≤ o.M) && decide (o.n ≤ 4096)) (2 + o.n) 8
  | 6 => s.makeV (decide (1 ≤ o.M) && decide (o.M ≤ 64)) (2 + o.M) 9
  | _ => sd0
theorem make_len (s : Hs) (may : Bool) (n : Int) (o : Ob) : (s.make may n o).objs.length ≤ s.objs.length + 1 := by
  unfold Hs.make
  split <;> simp
theorem spend_len (s : Hs) (n : Int) : (s.spend n).objs.length ≤ s.objs.length + 1 := by
  unfold Hs.spend
  split <;> simp
theorem makeV_small (s : Hs) (may : Bool) (n k : Int) : (s.makeV may n k).ob.items.length ≤ 16777216 ∧ (s.makeV may n k).ob.keys.length ≤ 16777216 ∧ (s.makeV may n k).list.length ≤ 16777216 := by
  unfold Hs.makeV
  split <;> exact ⟨by simp [sdV, ob0], by simp [sdV, ob0], by simp [sdV]⟩
theorem at_small {h : Hp} (hok : h.Ok) (i : Int) : (h.abs.at i).items.length ≤ 16777216 ∧ (h.abs.at i).keys.length ≤ 16777216 := by
  unfold Hs.at
  split
  · rename_i q
    unfold Hs.is at q
    simp only [Bool.and_eq_true, decide_eq_true_eq] at q
    have hi : i.toNat < h.objs.length := by have : h.abs.objs.length = h.objs.length := rfl; omega
    have := hok.sz (o := h.abs.objs.getD i.toNat ob0) (by
      show h.objs.getD i.toNat ob0 ∈ h.objs
      rw [List.getD_eq_getElem?_getD, List.getElem?_eq_getElem hi]
      exact List.getElem_mem hi)
    omega
  · simp [ob0]
theorem makes_play (w0 : World) : PlayH w0 [0, 1, 2, 3, 4, 5, 6] mkS mkR := by
  refine ⟨fun c hc r w L o hm hok hx hn hl => ?_, fun c hc h w L o hm hok hx hn hl => ?_, fun c hc s o => ?_, fun c hc h o hok hn => ?_⟩
  all_goals
    simp only [List.mem_cons, List.not_mem_nil, or_false] at hc
    rcases hc with rfl | rfl | rfl | rfl | rfl | rfl | rfl
  · exact told_spend w0 w L r hm ⟨hok⟩ o
  · exact told_counts w0 w L r hm ⟨hok⟩ o
  · exact told_object w0 w L r hm ⟨hok⟩ o
  · exact told_array w0 w L r hm ⟨hok⟩ o ⟨hx⟩ hn (by omega)
  · exact told_record w0 w L r hm ⟨hok⟩ o (by omega)
  · exact told_bound w0 w L r hm ⟨hok⟩ o ⟨hx⟩ hn (by omega)
  · exact told_chan w0 w L r hm ⟨hok⟩ o (by omega)
  · exact askPlain_ok w0 w L h hm 0 _ _ o ⟨hx⟩ hn (by decide) (by decide) (by decide) ⟨fun w1 L1 hm1 => askP_spend w0 w1 L1 h hm1 ⟨hok⟩ o⟩
  · exact askPlain_ok w0 w L h hm 1 _ _ o ⟨hx⟩ hn (by decide) (by decide) (by decide) ⟨fun w1 L1 hm1 => askP_counts w0 w1 L1 h hm1 ⟨hok⟩ o⟩
  · exact askPlain_ok w0 w L h hm 2 _ _ o ⟨hx⟩ hn (by decide) (by decide) (by decide) ⟨fun w1 L1 hm1 => askP_object w0 w1 L1 h hm1 ⟨hok⟩ o⟩
  · exact askArray_ok w0 w L h hm ⟨hok⟩ o ⟨hx⟩ hn (by omega)
  · exact askPlain_ok w0 w L h hm 4 _ _ o ⟨hx⟩ hn (by decide) (by decide) (by decide) ⟨fun w1 L1 hm1 => askP_record w0 w1 L1 h hm1 ⟨hok⟩ o (by omega)⟩
  · exact askBound_ok w0 w L h hm ⟨hok⟩ o ⟨hx⟩ hn (by omega)
  · exact askPlain_ok w0 w L h hm 6 _ _ o ⟨hx⟩ hn (by decide) (by decide) (by decide) ⟨fun w1 L1 hm1 => askP_chan w0 w1 L1 h hm1 ⟨hok⟩ o (by omega)⟩
  · exact spend_len s _
  · exact Nat.le_succ _
  · exact Nat.le_succ _
  · exact make_len s _ _ _
  · exact make_len s _ _ _
  · exact make_len s _ _ _
  · exact make_len s _ _ _
  · exact ⟨by simp [mkR, sdV, ob0], by simp [mkR, sdV, ob0], by simp [mkR, sdV]⟩
  · exact ⟨by simp [mkR, sdV, ob0], by simp [mkR, sdV, ob0], by simp [mkR, sdV]⟩
  · exact ⟨(at_small hok _).1, (at_small hok _).2, by simp [mkR]⟩
  · exact makeV_small _ _ _ _
  · exact makeV_small _ _ _ _
  · exact makeV_small _ _ _ _
  · exact makeV_small _ _ _ _
theorem makes_walk (W : World) (budget spent : Int) (hb : budget ≤ 9223372036854775807) (hsp : spent ≤ 9223372036854775807) (A : Option Addr) (m c : Nat) (ops : List HOp) (hs : Fact (RdC W 9 (.slice A m c) (ops.flatMap cHO))) (hit : ∀ x, x ∈ ops → RdC W 2 (.slice x.A x.n x.c) (fV x.items) ∧ x.n ≤ 1048576) (hmm : m ≤ 1048576) :
    Calls Try.prog 9 #[.int .i64 budget, .int .i64 spent, .slice A m c] W fun e w' => e = .returned (.bool true) ∧ Gr W w' := by
  have hit := Fact.mk hit
  have H : Fact (PlayH W [0, 1, 2, 3, 4, 5, 6] mkS mkR) := ⟨makes_play W⟩
  go_enter Try.func9, Try.ntmps9
  go_wp2_with fail
  refine (heapNew_ok W W [] (Mem.start W) budget spent).mono ?_
  rintro e w1 ⟨g, rfl, hm1⟩
  go_wp2_with fail
  refine (refNew_ok W w1 _ hm1 budget spent).mono ?_
  rintro e w2 ⟨rg, rfl, hm2⟩
  obtain ⟨h, hh⟩ : ∃ h : Hp, h = ⟨g, max budget 0, max spent 0, none, 0, []⟩ := ⟨_, rfl⟩
  obtain ⟨r, hr⟩ : ∃ r : Rf, r = ⟨rg, max budget 0, max spent 0, none, 0, []⟩ := ⟨_, rfl⟩
  have hok : h.Ok := by rw [hh]; exact ⟨by simp, by simp, by show (0 : Int) ≤ max budget 0; omega, by show max budget 0 ≤ _; omega, by show (0 : Int) ≤ max spent 0; omega, by show max spent 0 ≤ _; omega⟩
  have rok : r.Ok := by rw [hr]; exact ⟨by simp, by simp, by show (0 : Int) ≤ max budget 0; omega, by show max budget 0 ≤ _; omega, by show (0 : Int) ≤ max spent 0; omega, by show max spent 0 ≤ _; omega⟩
  have habs : r.abs = h.abs := by rw [hh, hr]; rfl
  have hl0 : h.ths.length ≤ 2097152 := by rw [hh]; simp
  have hm3 : Mem W w2 (HpC h :: RfC r :: []) := by rw [hh, hr]; exact hm2.swap
  have hgg : h.g = g := by rw [hh]
  have hrg : r.g = rg := by rw [hr]
  clear hh hr hm1 hm2
  subst hgg hrg
  replace hok := Fact.mk hok
  replace rok := Fact.mk rok
  replace habs := Fact.mk habs
  go_wp2_with fail
  refine (alike_ok W w2 _ h r hm3 hok rok ⟨by rw [habs.out]⟩ (congrArg Hs.spent habs.out)).mono ?_
  rintro e w4 ⟨rfl, hm4⟩
  go_wp2_with fail
  have hm5 := hm4.alloc (.cells (kindsV [0, 1, 2, 3, 4, 5, 6]).toArray 3)
  have hm6 := hm5.back2
  refine (play_ok W _ _ [0, 1, 2, 3, 4, 5, 6] mkS mkR H (by decide) (by decide) h r hm6 hok.out rok.out habs.out hl0 w4.heap.size ⟨m0⟩ A m c ops hs hit.out hmm).mono ?_
  rintro e w7 ⟨rfl, hg7⟩
  go_wp2_with fail
  go_ret
  exact ⟨rfl, hg7⟩
theorem okWide_le {W : World} {base : Nat} {n : Int} (h : Value.okWide Try.prog W .any base 3 (.int .i64 n)) : n ≤ 9223372036854775807 := by
  simp only [Value.okWide, ty_int, Cell.okWide, Cell.ok, IntKind.has, IntKind.min, IntKind.max, IntKind.signed, IntKind.bits, decide_eq_true_eq, if_true] at h
  omega
theorem heapMakes_ok (H : Type) (enc : TypeId × Value → H) (W : World) (base : Nat)
    (v0 : Value) (d0 : DataW H) (p0 : List MemPlace) (_h0 : DataW.Trod enc Try.prog W 0 (fun _ => true) true 3 v0 d0 p0) (ok0 : Value.okWide Try.prog W .any base 3 v0)
    (v1 : Value) (d1 : DataW H) (p1 : List MemPlace) (_h1 : DataW.Trod enc Try.prog W 0 (fun _ => true) true 3 v1 d1 p1) (ok1 : Value.okWide Try.prog W .any base 3 v1)
    (v2 : Value) (d2 : DataW H) (p2 : List MemPlace) (h2 : DataW.Trod enc Try.prog W 0 (fun _ => true) true 22 v2 d2 p2) (ok2 : Value.okWide Try.prog W .any base 22 v2) (hk : Rows.uptoSmall H ([d0] ++ ([d1] ++ ([d2] ++ []))) = true) :
    Calls Try.prog 9 #[v0, v1, v2] W fun e w' => e = .returned (.bool true) ∧ Gr W w' := by
  have hb := bulk_small hk
  simp only [Rows.uptoBulkAll, List.cons_append, List.nil_append] at hb
  obtain ⟨x, rfl⟩ := okWide_int ty_int ok0
  obtain ⟨y, rfl⟩ := okWide_int ty_int ok1
  obtain ⟨A, n, c, ops, rfl, hr, hi, hl⟩ := open_hops h2 ok2
  exact makes_walk W x y (okWide_le ok0) (okWide_le ok1) A n c ops ⟨hr⟩ (fun x hx => ⟨(hi x hx).1, by have := (hi x hx).2; omega⟩) (by omega)
end Go.Proofs.Ytpibchjkmaghnaa
