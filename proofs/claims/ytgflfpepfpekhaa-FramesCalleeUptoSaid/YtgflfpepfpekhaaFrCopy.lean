import Derived.Test.YtgflfpepfpekhaaFrFun
namespace Go.Proofs.Ytgflfpepfpekhaa
open Go.RowKit Go.Mm
set_option maxHeartbeats 1000000
set_option maxRecDepth 100000
theorem inf_R : (Try.prog.info? 30).map (fun i => (i.zero, i.size, i.bytes)) = some (some (.agg #[.int .i64 0, .int .i64 0, .slice none 0 0]), 3, 40) := by kernel_rfl
theorem ty_Rs : Try.prog.underlying 39 = some (.slice 30) := by kernel_rfl
def Fr.v (f : Fr) : Value := .slice f.A f.n f.c
def Fr.cs (f : Fr) : List Value := fV f.sl
def slot (y : Fr) : Chunk := Own 2 (.slice y.A y.n y.c) (fV y.sl)
/-- The slots of frames, each a chunk of its own. -/
def slots (ys : List Fr) : List Chunk := ys.map slot
theorem slots_app (xs ys : List Fr) : slots (xs ++ ys) = slots xs ++ slots ys := by simp [slots]
theorem slots_snoc {w0 w : World} {L : List Chunk} {ys : List Fr} (y : Fr) {a : Chunk} (h : Mem w0 w (slot y :: a :: (slots ys ++ L))) : Mem w0 w (a :: (slots (ys ++ [y]) ++ L)) := by
  refine h.perm ?_
  rw [slots_app]
  have e : a :: (slots ys ++ slots [y] ++ L) = (a :: slots ys) ++ (slot y :: L) := by simp [slots]
  rw [e]
  exact (List.perm_middle (l₁ := a :: slots ys)).symm
theorem slots_mem {ys : List Fr} {y : Fr} (h : y ∈ ys) : slot y ∈ slots ys := List.mem_map.2 ⟨y, h, rfl⟩
theorem data_at {xs ys : List Fr} {k : Nat} (h : ys.map Fr.data = (xs.take k).map Fr.data) (hk : k < xs.length) (y : Fr) (hy : y.data = (xs.getD k fr0).data) : (ys ++ [y]).map Fr.data = (xs.take (k + 1)).map Fr.data := by
  rw [take_snoc xs fr0 k hk, List.map_append, List.map_append, h, List.map_singleton, List.map_singleton, hy]
theorem fR_len (xs : List Fr) : (fR xs).length = xs.length * 3 := flatMap_length cR 3 cR_len xs
/-- The next of the frames laid down. -/
theorem fR_put (ys : List Fr) (m : Nat) (y : Fr) : (fR (ys ++ List.replicate (m + 1) fr0)).take (ys.length * 3) ++ cR y ++ (fR (ys ++ List.replicate (m + 1) fr0)).drop (ys.length * 3 + (cR y).length) = fR (ys ++ [y] ++ List.replicate m fr0) := by
  have h1 : fR (ys ++ List.replicate (m + 1) fr0) = fR ys ++ (cR fr0 ++ fR (List.replicate m fr0)) := by simp [fR, List.replicate_succ]
  have hl := fR_len ys
  rw [h1, List.take_append_of_le_length (by omega), List.take_of_length_le (by omega), List.drop_append, List.drop_eq_nil_of_le (by omega), List.nil_append, show ys.length * 3 + (cR y).length - (fR ys).length = (cR fr0).length by rw [hl, cR_len, cR_len]; omega, List.drop_left]
  simp [fR]
theorem fR_set (ys zs : List Fr) (y : Fr) (A : Option Addr) (n c : Nat) (sl : List V2) : (fR (ys ++ [y] ++ zs)).set (ys.length * 3 + 2) (.slice A n c) = fR (ys ++ [{ y with A := A, n := n, c := c, sl := sl }] ++ zs) := by
  have h1 : fR (ys ++ [y] ++ zs) = fR ys ++ (cR y ++ fR zs) := by simp [fR]
  have hl := fR_len ys
  rw [h1, List.set_append_right _ _ (by omega), hl, Nat.add_sub_cancel_left]
  simp [fR, cR]
theorem fR_at2 (ys zs : List Fr) (y : Fr) : (fR (ys ++ [y] ++ zs))[ys.length * 3 + 2]? = some (.slice y.A y.n y.c) := by
  have h1 : fR (ys ++ [y] ++ zs) = fR ys ++ (cR y ++ fR zs) := by simp [fR]
  have hl := fR_len ys
  rw [h1, List.getElem?_append_right (by omega), hl, Nat.add_sub_cancel_left]
  rfl
theorem copied_ok (w : World) (N : Nat) (A : Option Addr) (n c : Nat) (xs : List Fr) (hx : Fact (FrsOk N w A n c xs)) (hn : n ≤ 1048577) (hN : N ≤ 2000000) :
    Calls Try.prog 81 #[.slice A n c] w fun e w' => ∃ g ys, e = .returned (.slice (some ⟨g, 0, none⟩) n n) ∧ Mem w w' (Own 3 (.slice (some ⟨g, 0, none⟩) n n) (fR ys) :: slots ys) ∧ ys.map Fr.data = xs.map Fr.data ∧ ∀ y, y ∈ ys → y.n ≤ N := by
  obtain ⟨iR, hi, hz0, hz1, hz2⟩ := info_parts inf_R
  obtain ⟨iV, hi', hz0', hz1', hz2'⟩ := info_parts inf_V
  have hl := Fact.mk hx.out.len
  go_enter Try.func81, Try.ntmps81
  go_wp2_with (at_make; refine wp_make cR fr0 3 40 (by omega) cR_len cR_one rfl _ _ _ 30 rfl ty_Rs iR _ hi hz0 hz1 hz2 rfl _ n rfl rfl rfl (by omega) (by unfold maxLen; omega) (Mem.start w) ?_; intro g w1 hm)
  go_loopw [11] (fun v w' => ∃ (k : Nat) (ys : List Fr), v = .int .i64 k ∧ k ≤ n ∧ Mem w w' (Own 3 (.slice (some ⟨g, 0, none⟩) n n) (fR (ys ++ List.replicate (n - k) fr0)) :: (slots ys ++ [])) ∧ Fact (ys.map Fr.data = (xs.take k).map Fr.data ∧ (∀ y, y ∈ ys → y.n ≤ N) ∧ ys.length = k)) (fun v _ => n - (intOf v).toNat)
  case atStart => exact ⟨0, [], rfl, by omega, by simpa [fR, slots] using hm, ⟨by simp, by simp, rfl⟩⟩
  case round =>
    clear hm
    obtain ⟨k, ys, rfl, hk, hm, hd⟩ := hrel
    by_cases hlt : k < n
    · obtain ⟨b, o, rfl, r1, hok, _⟩ := hx.out.at k hlt
      have hxe : ∃ x, Fact (xs.getD k fr0 = x) := ⟨_, ⟨rfl⟩⟩
      obtain ⟨x, hxe⟩ := hxe
      rw [hxe.out] at r1 hok
      have r1 := rng_gr r1 hm.below
      have hok0 := hok
      have hok := hok.gr hm.below
      obtain ⟨xfn, xpc, xA, xn, xc, xsl⟩ := x
      obtain ⟨m, hm1⟩ : ∃ m, n - k = m + 1 := ⟨n - k - 1, by omega⟩
      rw [hm1] at hm
      go_upto_region 5 with (first | (refine wp_rng rfl 30 _ rfl b _ rfl [.int .i64 xfn, .int .i64 xpc, .slice xA xn xc] r1 row_R szR ?_) | (refine wp_setrow rfl 30 _ _ rfl _ rfl 30 _ [.int .i64 xfn, .int .i64 xpc, .slice xA xn xc] rfl (hm.alloc _) szR rfl (cR_one ⟨xfn, xpc, xA, xn, xc, xsl⟩) ?_; intro w4 hm4))
      generalize wr.heap.size = g4 at hm4 ⊢
      have hyl := hd.out.2.2
      have hput := Fact.mk (fR_put ys m ⟨xfn, xpc, xA, xn, xc, xsl⟩)
      have hat := Fact.mk (fR_at2 ys (List.replicate m fr0) ⟨xfn, xpc, xA, xn, xc, xsl⟩)
      have hset := Fact.mk (fun A n c => fR_set ys (List.replicate m fr0) ⟨xfn, xpc, xA, xn, xc, xsl⟩ A n c xsl)
      rw [hyl] at hput hat hset
      have hlen1 : (fR (ys ++ List.replicate (m + 1) fr0)).length = n * 3 := by rw [fR_len]; simp; omega
      have hlen1 := Fact.mk hlen1
      have hlen2 : (fR (ys ++ [⟨xfn, xpc, xA, xn, xc, xsl⟩] ++ List.replicate m fr0)).length = n * 3 := by rw [fR_len]; simp; omega
      have hlen2 := Fact.mk hlen2
      clear hyl
      go_upto_region 6 with (first | (refine wp_rng rfl 30 _ rfl g4 0 rfl (cR ⟨xfn, xpc, xA, xn, xc, xsl⟩) (rng_blk hm4 m0) row_R szR ?_) | (refine wp_ownrow rfl 30 _ _ rfl (k * 3) (k * 3) (by omega) rfl (cR ⟨xfn, xpc, xA, xn, xc, xsl⟩) rfl hm4.swap szR (by rw [hlen1.out, cR_len]; omega) (cR_one _) ?_; intro w5 hm5; rw [hput.out] at hm5))
      have c1 := hm5.cell m1 2 rfl
      have hrs : RdC w5 2 (.slice xA xn xc) (fV xsl) := hok0.1.gr hm5.below
      have hxn : xn ≤ N := hok.2
      have hat2 : (fR (ys ++ [⟨xfn, xpc, xA, xn, xc, xsl⟩] ++ List.replicate m fr0))[k * 3 + 2]? = some (.slice xA xn xc) := hat.out
      clear hput hlen1
      go_wp2_with (at_builtin; refine wp_app rfl _ _ _ rfl 41 iV _ 2 16 ty_Vs hi' hz0' hz1' hz2' rfl none 0 0 [] rfl (hm5.nil 2 none) xA xn xc _ rfl hrs (by unfold maxLen; omega) (by omega) ?_; intro A1 c2 w6 HM1; have HM2 := HM1.swap; have hcc := HM2.own_cell m0 (k * 3 + 2) hat2; rw [Nat.zero_add] at hcc; have hc1 := hcc.1; have hc2 := hcc.2)
      go_roundw
      case rel =>
        have HM3 := HM2.own_set (k * 3 + 2) (by rw [hlen2.out]; omega) (.slice A1 xn c2) rfl
        rw [Nat.zero_add, hset.out, Nat.zero_add, List.nil_append] at HM3
        have HM4 := (HM3.sub (.cons_cons _ (.cons_cons _ (.cons _ (List.Sublist.refl _))))).swap
        have HM5 := slots_snoc (⟨xfn, xpc, A1, xn, c2, xsl⟩ : Fr) HM4
        have hd1 := hd.out.1
        have hd2 := hd.out.2.1
        have hd3 := hd.out.2.2
        refine ⟨k + 1, ys ++ [⟨xfn, xpc, A1, xn, c2, xsl⟩], by go_num, by omega, ?_, ⟨data_at hd1 (by have := hl.out; omega) _ (by rw [hxe.out]; rfl), fun y hy => ?_, by simp [hd3]⟩⟩
        · rw [show n - (k + 1) = m by omega]; exact HM5
        · rcases List.mem_append.1 hy with hy | hy
          · exact hd2 y hy
          · simp at hy; subst hy; exact hxn
      case measure => simp [intOf]; omega
    · obtain rfl : k = n := by omega
      have hd := hd.out
      rw [List.take_of_length_le (by have := hl.out; omega)] at hd
      go_wp2
      go_ret
      exact ⟨g, ys, rfl, by simpa using hm, hd.1, hd.2.1⟩
end Go.Proofs.Ytgflfpepfpekhaa
