import Derived.Test.YtngdcnpokdogdaaHex
import Derived.OpenShut
import Derived.Deep.RegionWith
namespace Go.Proofs.Ytngdcnpokdogdaa
open Go.RowKit Go.Mm
theorem bytes_of_wf {n : Int} (h : (Lit.int .u8 n).wf = true) : 0 ≤ n ∧ n < 256 := by
  have : 0 ≤ n ∧ n ≤ 255 := by simpa [Lit.wf, IntKind.min, IntKind.max, IntKind.signed, IntKind.bits] using h
  omega
theorem cellsOf5 : Try.prog.cellsOf 5 = 1 := by kernel_rfl
theorem cellsOf22 : Try.prog.cellsOf 22 = 32 := by kernel_rfl
/-- An array of bytes that came in. -/
theorem open_digest {H : Type} {enc : TypeId × Value → H} {W : World} {base : Nat} {v : Value} {d : DataW H} {p : List MemPlace} (h : DataW.Trod enc Try.prog W 0 (fun _ => true) true 22 v d p) (ok : Value.okWide Try.prog W .any base 22 v) :
    ∃ bs : List Int, v = .agg (nums .u8 bs).toArray ∧ bs.length = 32 ∧ Byt bs := by
  unfold Value.okWide at ok
  rw [ty22] at ok
  obtain ⟨cs, rfl, hs, _⟩ := ok
  rw [cellsOf22] at hs
  obtain ⟨fuel, hf⟩ := h
  simp only [Value.cells] at hf
  cases fuel with
  | zero => simp [DataW.trod] at hf
  | succ fuel =>
    unfold DataW.trod at hf
    simp only [ty22, cellsOf22, Array.length_toList, hs, if_true, cellsOf5] at hf
    cases hm : (List.range 32).mapM fun i => DataW.trod enc Try.prog W 0 (fun _ => true) true fuel 5 ((cs.toList.drop (i * 1)).take 1) with
    | none => rw [hm] at hf; simp at hf
    | some xs =>
      have hat : ∀ i, i < 32 → ∃ n, cs.toList[i]? = some (.int .u8 n) ∧ 0 ≤ n ∧ n < 256 := by
        intro i hi
        obtain ⟨y, hy, _⟩ := mapM_at hm i i (by simp [hi])
        obtain ⟨n, e1, e2, hw⟩ := DataW.trod_int ty5 hy
        refine ⟨n, ?_, bytes_of_wf hw⟩
        have : ((cs.toList.drop (i * 1)).take 1)[0]? = some (.int .u8 n) := by rw [e1]; rfl
        simpa using this
      refine ⟨(List.range 32).map fun i => numOf cs.toList[i]?, ?_, by simp, ?_⟩
      · congr 1
        apply Array.ext'
        apply List.ext_getElem?
        intro i
        by_cases hi : i < 32
        · obtain ⟨n, e, _⟩ := hat i hi
          simp only [nums, List.getElem?_map, List.getElem?_range hi, Option.map_some, e, numOf]
        · rw [List.getElem?_eq_none (by simp [hs]; omega), List.getElem?_eq_none (by simp [nums]; omega)]
      · intro x hx
        obtain ⟨i, hi, rfl⟩ := List.mem_map.1 hx
        obtain ⟨n, e, h0, h1⟩ := hat i (by simpa using hi)
        simp only [e, numOf]
        exact ⟨h0, h1⟩
set_option maxHeartbeats 400000 in
set_option maxRecDepth 100000 in
theorem digestHex_walk (w : World) (bs : List Int) (hl : Fact (bs.length = 32)) (hby : Fact (Byt bs)) :
    Calls Try.prog 3 #[.agg (nums .u8 bs).toArray] w fun e w' => e = .returned (.bool true) ∧ Gr w w' := by
  go_enter Try.func3, Try.ntmps3
  go_upto_region 1 with (fail)
  have hm := (Mem.start w).alloc (.cells (nums .u8 bs).toArray 22)
  generalize hg1 : w.heap.size = g1 at hm ⊢
  generalize hw1 : w.alloc (.cells (nums .u8 bs).toArray 22) = w1 at hm ⊢
  clear hw1 hg1
  have hr := Fact.mk (hm.blk m0)
  have hb := hm.below
  refine wp_region_quiet (C := fun w' => Gr w1 w') (by kernel_rfl) (by kernel_rfl) (Gr.refl _).drew ?_
  refine q_row rfl 22 _ rfl g1 rfl 22 _ (0, 0) _ (fun w h => h.heap hr.out) ty22 rfl (by rw [List.size_toArray, length_nums, hl.out]; kernel_rfl) ?_
  refine q_call rfl 9 _ Try.func9 (by kernel_rfl) rfl _ _ rfl #[.agg (nums .u8 bs).toArray] (by simp [Act.put, Act.eval]) _ (fun w h => (hex_ok w bs hl hby).mono fun e w' ⟨he, hg⟩ => ⟨he, h.trans hg⟩) ?_
  refine q_row rfl 22 _ rfl g1 rfl 22 _ (0, 0) _ (fun w h => h.heap hr.out) ty22 rfl (by rw [List.size_toArray, length_nums, hl.out]; kernel_rfl) ?_
  refine q_call rfl 10 _ Try.func10 (by kernel_rfl) rfl _ _ rfl #[.agg (nums .u8 bs).toArray] (by simp [Act.put, Act.eval]) _ (fun w h => (refhex_ok w bs hl hby).mono fun e w' ⟨he, hg⟩ => ⟨he, h.trans hg⟩) ?_
  refine q_val rfl (.bool true) (fun w _ => by simp [go_sem]) ?_
  refine q_val rfl (.bool true) (fun w _ => by simp [go_sem]) ?_
  refine wpQuiet_nil (fun w' hg => ?_)
  go_wp2
  go_ret
  exact ⟨rfl, Gr.trans hb hg⟩
theorem digestHex_ok (H : Type) (enc : TypeId × Value → H) (W : World) (base : Nat) (v : Value) (d : DataW H) (p : List MemPlace) (h : DataW.Trod enc Try.prog W 0 (fun _ => true) true 22 v d p) (ok : Value.okWide Try.prog W .any base 22 v) :
    Calls Try.prog 3 #[v] W fun e w' => e = .returned (.bool true) ∧ Gr W w' := by
  obtain ⟨bs, rfl, hl, hb⟩ := open_digest h ok
  exact digestHex_walk W bs ⟨hl⟩ ⟨hb⟩
end Go.Proofs.Ytngdcnpokdogdaa
