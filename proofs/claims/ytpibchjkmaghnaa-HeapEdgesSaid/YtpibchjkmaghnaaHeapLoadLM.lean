/- HeapLoad: both load alike. -/
import Derived.Test.YtpibchjkmaghnaaHEf
namespace Go.Proofs.Ytpibchjkmaghnaa
open Go.RowKit Go.Mm Go.WideShapes Go.ChangeShapes
set_option maxHeartbeats 4000000
set_option maxRecDepth 100000
set_option linter.unusedSimpArgs false
theorem load_walk (W : World) (b s : Int) (A : Option Addr) (n c : Nat) (xs : List RO) (hst : StOk W b s A n c xs) :
    Calls Try.prog 4 #[.agg (stC b s A n c).toArray] W fun e w' => e = .returned (.bool true) ∧ Gr W w' := by
  have hx1 := (Mem.start W).alloc (.cells (stC b s A n c).toArray 44)
  have hboth := fun (w1 : World) (L : List Chunk) (hm : Mem W w1 L) => both_ok W w1 L hm b s hst.hb hst.hs A n c xs ⟨hst.rd.gr hm.below⟩ hst.hn ⟨hst.sz⟩ ⟨hst.wf⟩
  replace hboth := Fact.mk hboth
  unfold stC at hx1 hboth ⊢
  go_enter Try.func4, Try.ntmps4
  go_upto_region 1 with (fail)
  generalize hgb : W.heap.size = gb at hx1 ⊢
  generalize hw1 : W.alloc (.cells [.int .i64 b, .int .i64 s, .slice A n c].toArray 44) = w1 at hx1
  try refine wp_world hw1 ?_
  clear hw1 hgb
  go_wp2_with (refine wp_rng rfl 44 _ rfl gb 0 rfl [.int .i64 b, .int .i64 s, .slice A n c] (rng_blk hx1 m0) row_ST sz_ST ?_)
  refine (hboth.out w1 _ hx1).mono ?_
  rintro e w2 (⟨_, h, r, _, _, _, _, rfl, hm2⟩ | ⟨_, rfl, hm2⟩)
  · go_wp2
    go_ret
    exact ⟨rfl, hm2.below⟩
  · go_wp2
    go_ret
    exact ⟨rfl, hm2.below⟩
theorem heapLoad_ok (H : Type) (enc : TypeId × Value → H) (W : World) (base : Nat)
    (v0 : Value) (d0 : DataW H) (p0 : List MemPlace) (h0 : DataW.Trod enc Try.prog W 0 (fun _ => true) true 44 v0 d0 p0) (ok0 : Value.okWide Try.prog W .any base 44 v0) (hk : Rows.uptoSmall H ([d0] ++ ([] ++ [])) = true) :
    Calls Try.prog 4 #[v0] W fun e w' => e = .returned (.bool true) ∧ Gr W w' := by
  have hb := bulk_small hk
  simp only [Rows.uptoBulkAll, List.cons_append, List.nil_append] at hb
  obtain ⟨b, s, A, n, c, xs, rfl, hst⟩ := open_start h0 ok0 (by omega)
  exact load_walk W b s A n c xs hst
end Go.Proofs.Ytpibchjkmaghnaa
