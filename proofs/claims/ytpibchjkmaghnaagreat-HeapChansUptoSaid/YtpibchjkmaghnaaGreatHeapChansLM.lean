/- HeapChans: a script of calls on both heaps. -/
import Derived.Test.YtpibchjkmaghnaaGreatHGf
namespace Go.Proofs.YtpibchjkmaghnaaGreat
open Go.RowKit Go.Mm Go.WideShapes Go.ChangeShapes
set_option maxHeartbeats 4000000
set_option maxRecDepth 100000
set_option linter.unusedSimpArgs false
theorem heapChans_walk (W : World) (b s : Int) (A : Option Addr) (n c : Nat) (xs : List RO) (hst : StOk W b s A n c xs) (B : Option Addr) (m d : Nat) (ops : List HOp) (hs : Fact (RdC W 9 (.slice B m d) (ops.flatMap cHO))) (hit : OpsOk W ops) (hmm : m ≤ 1048576) :
    Calls Tryz.prog 5 #[.agg (stC b s A n c).toArray, .slice B m d] W fun e w' => e = .returned (.bool true) ∧ Gr W w' := by
  have hx1 := (Mem.start W).alloc (.cells (stC b s A n c).toArray 24)
  have hboth := fun (w1 : World) (L : List Chunk) (hm : Mem W w1 L) => both_ok W w1 L hm b s hst.hb hst.hs A n c xs ⟨hst.rd.gr hm.below⟩ hst.hn ⟨hst.sz⟩ ⟨hst.wf⟩
  have hxl := hst.rd.len
  have hn := hst.hn
  replace hboth := Fact.mk hboth
  replace hit := Fact.mk hit
  have H : Fact (PlayG W [16, 17, 18, 10, 2, 1] callS callR) := ⟨(calls_play W).sub (by decide)⟩
  unfold stC at hx1 hboth ⊢
  go_enter Tryz.func5, Tryz.ntmps5
  go_upto_region 1 with (fail)
  generalize hgb : W.heap.size = gb at hx1 ⊢
  generalize hw1 : W.alloc (.cells [.int .i64 b, .int .i64 s, .slice A n c].toArray 24) = w1 at hx1
  try refine wp_world hw1 ?_
  clear hw1 hgb
  go_wp2_with (refine wp_rng rfl 24 _ rfl gb 0 rfl [.int .i64 b, .int .i64 s, .slice A n c] (rng_blk hx1 m0) row_ST sz_ST ?_)
  refine (hboth.out w1 _ hx1).mono ?_
  rintro e w2 (⟨hlb, h, r, ha, habs, hok, rok, rfl, hm2⟩ | ⟨_, rfl, hm2⟩)
  · have hf : h.abs.Few := by rw [show h.abs.Few = (⟨max b 0, max s 0, xs.map (·.ob)⟩ : Hs).Few by rw [ha]]; exact load_few hlb _ _
    have hl0 : h.ths.length ≤ 2097152 := by rw [← h.abs_len', ha, List.length_map]; omega
    replace ha := Fact.mk ha
    replace habs := Fact.mk habs
    replace hf := Fact.mk hf
    replace hok := Fact.mk hok
    replace rok := Fact.mk rok
    replace hlb := Fact.mk hlb
    go_wp2_with fail
    have hm3 := (hm2.alloc (.cells (kindsV [16, 17, 18, 10, 2, 1]).toArray 3)).back2
    refine (playG_ok W _ _ [16, 17, 18, 10, 2, 1] callS callR H (by decide) (by decide) h r hm3 hok.out hf.out rok.out habs.out hl0 w2.heap.size ⟨m0⟩ B m d ops hs hit.out hmm).mono ?_
    rintro e w7 ⟨rfl, hg7⟩
    go_wp2_with fail
    go_ret
    exact ⟨rfl, hg7⟩
  · go_wp2
    go_ret
    exact ⟨rfl, hm2.below⟩
theorem heapChans_ok (H : Type) (enc : TypeId × Value → H) (W : World) (base : Nat)
    (v0 : Value) (d0 : DataW H) (p0 : List MemPlace) (h0 : DataW.Trod enc Tryz.prog W 0 (fun _ => true) true 24 v0 d0 p0) (ok0 : Value.okWide Tryz.prog W .any base 24 v0)
    (v1 : Value) (d1 : DataW H) (p1 : List MemPlace) (h1 : DataW.Trod enc Tryz.prog W 0 (fun _ => true) true 25 v1 d1 p1) (ok1 : Value.okWide Tryz.prog W .any base 25 v1) (hk : Rows.uptoSmall H ([d0] ++ ([d1] ++ [])) = true) :
    Calls Tryz.prog 5 #[v0, v1] W fun e w' => e = .returned (.bool true) ∧ Gr W w' := by
  have hb := bulk_small hk
  simp only [Rows.uptoBulkAll, List.cons_append, List.nil_append] at hb
  obtain ⟨b, s, A, n, c, xs, rfl, hst⟩ := open_start h0 ok0 (by omega)
  obtain ⟨B, m, d, ops, rfl, hr, hit, hl⟩ := open_script h1 ok1 (by omega)
  exact heapChans_walk W b s A n c xs hst B m d ops ⟨hr⟩ hit (by omega)
end Go.Proofs.YtpibchjkmaghnaaGreat
