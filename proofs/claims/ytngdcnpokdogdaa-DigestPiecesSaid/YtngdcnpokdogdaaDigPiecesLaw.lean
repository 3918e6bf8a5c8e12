import Derived.Test.YtngdcnpokdogdaaDigPieces
import Derived.Test.YtngdcnpokdogdaaDigFromLaw
import Derived.Test.YtngdcnpokdogdaaOpenS
import Derived.SizedLaws
namespace Go.Proofs.Ytngdcnpokdogdaa
open Go.RowKit Go.Mm Go.Sh Go.WideShapes
set_option maxHeartbeats 2000000
set_option maxRecDepth 100000
section
variable {H : Type} {enc : TypeId × Value → H} {w : World}
theorem flatMap_nums (k : IntKind) : ∀ (xs : List Int), xs.flatMap (fun x : Int => [Value.int k x]) = nums k xs
  | [] => rfl
  | x :: xs => by simp [nums, flatMap_nums k xs]
theorem weightsAll_mem {P : Program} {e : TypeId} {n : Nat} : ∀ {l : List (DataW H)} {y : DataW H}, y ∈ l → n ∈ y.weights P e → n ∈ DataW.weightsAll P e l
  | d :: r, y, hy, hn => by
    simp only [DataW.weightsAll, List.mem_append]
    rcases List.mem_cons.1 hy with rfl | hy
    · exact .inl hn
    · exact .inr (weightsAll_mem hy hn)
def goodB (w : World) (d : DataW H) (x : BL) : Prop := RdC w 1 (bw x) (nums .u8 x.bs) ∧ Byt x.bs ∧ ((d = .nil ∧ x.n = 0) ∨ ∃ ds sp : List (DataW H), d = .slice ds sp ∧ ds.length = x.n)
theorem tyPs : Try.prog.underlying 34 = some (.slice 25) := by kernel_rfl
theorem co_Bs : Try.prog.cellsOf 25 = 1 := by kernel_rfl
theorem bytesBs : Try.prog.bytesOf 25 = 24 := by kernel_rfl
theorem hel_B : ∀ (fuel : Nat) (cs : List Value) (d : DataW H) (ps : List MemPlace), DataW.trod enc Try.prog w 0 (fun _ => true) true fuel 25 cs = some (d, ps) → ∃ x : BL, cs = [bw x] ∧ goodB w d x := by
  intro fuel cs d ps h
  obtain ⟨A, n, c, xs, e, r, l, g⟩ := open_cells (fun x : Int => [Value.int .u8 x]) (fun _ x => (Lit.int .u8 x).wf = true) 1 (by omega) tyBs (by kernel_rfl) (fun x => ⟨rfl, fun u hu => by simp at hu; subst hu; rfl⟩)
    (fun fuel cs d ps hx => by
      obtain ⟨n, rfl, _, hw⟩ := DataW.trod_int tyB hx
      exact ⟨n, rfl, hw⟩) h
  refine ⟨⟨A, n, c, xs⟩, e, by rw [flatMap_nums] at r; exact r, ?_, ?_⟩
  · rcases g with ⟨_, hx, _⟩ | ⟨ds, sp, _, _, _, _, hg⟩
    · intro x hx'
      dsimp only at hx'
      rw [hx] at hx'
      cases hx'
    · refine byt_of_wf fun x hx => ?_
      obtain ⟨i, hi, rfl⟩ := List.mem_iff_getElem.1 hx
      obtain ⟨_, _, hw⟩ := hg i xs[i] (List.getElem?_eq_getElem hi)
      exact hw
  · rcases g with ⟨h1, _, h2⟩ | ⟨ds, sp, h1, h2, _⟩
    · exact .inl ⟨h1, h2⟩
    · exact .inr ⟨ds, sp, h1, h2⟩
theorem digestPieces_ok (H : Type) (enc : TypeId × Value → H) (W : World) (base : Nat) (v : Value) (d : DataW H) (p : List MemPlace) (h : DataW.Trod enc Try.prog W 0 (fun _ => true) true 34 v d p) (ok : Value.okWide Try.prog W .any base 34 v)
    (hsz : (DataW.weightsEach Try.prog [34] [d]).all (· ≤ reachBytes) = true) :
    Calls Try.prog 8 #[v] W fun e w' => e = .returned (.bool true) ∧ Gr W w' := by
  obtain ⟨A, n, c, xs, rfl, hr, hl, hd⟩ := open_list (fun x : BL => [bw x]) (goodB W) 1 (by omega) tyPs co_Bs (fun x => ⟨rfl, fun u hu => by simp at hu; subst hu; rfl⟩) hel_B h ok
  have hr' : RdC W 1 (.slice A n c) (xs.map bw) := by
    have : xs.flatMap (fun x : BL => [bw x]) = xs.map bw := by clear hr hl hd; induction xs <;> simp_all
    rw [← this]; exact hr
  have hN : n ≤ 140737488351232 ∧ ∀ x, x ∈ xs → x.n ≤ 140737488351232 := by
    rcases hd with ⟨_, rfl, rfl⟩ | ⟨ds, sp, rfl, h1, h2, h3, hg⟩
    · exact ⟨by omega, by simp⟩
    · have hw := sized_slice hsz (j := 0) (t := 34) (e := 25) rfl rfl tyPs
      rw [bytesBs] at hw
      simp only [reachBytes] at hw
      refine ⟨by omega, fun x hx => ?_⟩
      obtain ⟨i, hi, rfl⟩ := List.mem_iff_getElem.1 hx
      obtain ⟨y, hy, _, _, hc⟩ := hg i xs[i] (List.getElem?_eq_getElem hi)
      rcases hc with ⟨_, h0⟩ | ⟨es, ss, rfl, he⟩
      · omega
      · have hm : (es.length + ss.length) * Try.prog.bytesOf 5 ∈ DataW.weightsEach Try.prog [34] [DataW.slice ds sp] := by
          refine DataW.weights_mem_each (j := 0) rfl rfl _ ?_
          simp only [DataW.weights, tyPs, List.mem_cons, List.mem_append]
          refine .inr (.inl (weightsAll_mem (List.mem_of_getElem? hy) ?_))
          simp [DataW.weights, tyBs]
        have := List.all_eq_true.1 hsz _ hm
        have hb : Try.prog.bytesOf 5 = 1 := by kernel_rfl
        rw [hb] at this
        have h3 : es.length + ss.length ≤ 140737488351232 := by simpa [reachBytes] using this
        rw [← he]
        omega
  refine pieces_ok W A n c xs ⟨⟨hr', fun x hx => ?_⟩⟩ hN.1
  obtain ⟨i, hi, rfl⟩ := List.mem_iff_getElem.1 hx
  rcases hd with ⟨_, rfl, _⟩ | ⟨ds, sp, rfl, h1, h2, h3, hg⟩
  · simp at hi
  · obtain ⟨y, hy, g1, g2, _⟩ := hg i xs[i] (List.getElem?_eq_getElem hi)
    exact ⟨g1, g2, hN.2 _ (List.getElem_mem _)⟩
end
end Go.Proofs.Ytngdcnpokdogdaa
