/- Frames that are lent: marks in the spare room (portagekit.LentFrames). -/
import Derived.Test.YtgflfpepfpekhaaFrCopies
import Derived.Test.YtgflfpepfpekhaaFrRet
import Derived.Test.YtgflfpepfpekhaaExt
import Derived.StillTailTactics
namespace Go.Proofs.Ytgflfpepfpekhaa
open Go.RowKit Go.Mm
set_option maxHeartbeats 1000000
set_option maxRecDepth 100000
set_option linter.unusedSimpArgs false
def markR (n i : Nat) : Fr := ⟨-7, (n : Int) + (i : Int), none, 0, 0, []⟩
def marksR (n k : Nat) : List Fr := (List.range k).map (markR n)
theorem marksR_succ (n k : Nat) : marksR n (k + 1) = marksR n k ++ [markR n k] := by simp [marksR, List.range_succ]
theorem marksR_len (n k : Nat) : (marksR n k).length = k := by simp [marksR]
/-- What holds the full list of slots of frame k. -/
def FullR (f : Fr) (k : Nat) (h : Fr) : Prop := h.fn = -7 ∧ h.pc = k ∧ h.n = f.n + 64 ∧ h.sl = f.sl ++ marksV 64
def lentR (f h : Fr) : Fr := ⟨f.fn, f.pc, h.A, f.n, h.c, f.sl⟩
theorem lentFrames_ok (w : World) (N : Nat) (A : Option Addr) (n c : Nat) (xs : List Fr) (hx : Fact (FrsOk N w A n c xs)) (hn : n ≤ 1048576) (hN : N ≤ 2000000) :
    Calls Try.prog 21 #[.slice A n c] w fun e w' => ∃ B d hs, e = .returned (.slice B n d) ∧ Mem w w' (Own 3 (.slice B (n + n + 64) d) (fR (List.zipWith lentR xs hs ++ (hs ++ marksR n 64))) :: slots hs) ∧ hs.length = n ∧ ∀ k, k < n → FullR (xs.getD k fr0) k (hs.getD k fr0) := by
  obtain ⟨iR, hi, hz0, hz1, hz2⟩ := info_parts inf_R
  have hl := Fact.mk hx.out.len
  go_enter Try.func21, Try.ntmps21
  go_wp2
  go_loopw [4, 5] (fun l v w' => ∃ (k : Nat) (B : Option Addr) (d : Nat), v = .int .i64 k ∧ k ≤ n ∧ l = .slice B k d ∧ Mem w w' [Own 3 (.slice B k d) (fR (xs.take k))]) (fun _ v _ => n - (intOf v).toNat)
  case atStart => exact ⟨0, none, 0, rfl, by omega, rfl, by simpa [fR] using (Mem.start w).nil 3 none⟩
  case round =>
    obtain ⟨k, B, d, rfl, hk, rfl, hm⟩ := hrel
    by_cases hlt : k < n
    · obtain ⟨b, o, rfl, r1, hok, htk⟩ := hx.out.at k hlt
      have htk := Fact.mk htk
      generalize xs.getD k fr0 = x at r1 hok htk
      have r1 := rng_gr r1 hm.below
      obtain ⟨xfn, xpc, xA, xn, xc, xsl⟩ := x
      clear hok
      go_wp2_with (first | (refine wp_rng rfl 30 _ rfl b _ rfl [.int .i64 xfn, .int .i64 xpc, .slice xA xn xc] r1 row_R szR ?_) | (at_builtin; (refine wp_app rfl _ _ _ rfl 30 iR _ 3 40 ty_Rs hi hz0 hz1 hz2 rfl B k d _ rfl ((hm.alloc _).swap) _ 1 1 (cR ⟨xfn, xpc, xA, xn, xc, xsl⟩) rfl (RdC.lit _ _ _ _ _ rfl (by simp [maxLen]) (cR_one ⟨xfn, xpc, xA, xn, xc, xsl⟩)) (by unfold maxLen; omega) (by omega) ?_); intro B1 d1 w4 HM1))
      go_roundw
      case rel =>
        have HM2 := HM1.sub (.cons_cons _ (.cons _ (List.Sublist.refl _)))
        refine ⟨k + 1, B1, d1, by go_num, by omega, rfl, ?_⟩
        rw [htk.out, fR_app]; simpa [fR] using HM2
      case measure => simp [intOf]; omega
    · obtain rfl : k = n := by omega
      rw [List.take_of_length_le (Nat.le_of_eq hl.out)] at hm
      go_wp2
      go_loopw [4, 6] (fun l v w' => ∃ (i : Nat) (B : Option Addr) (d : Nat) (hs : List Fr), v = .int .i64 i ∧ i ≤ k ∧ l = .slice B (k + i) d ∧ Mem w w' (Own 3 (.slice B (k + i) d) (fR (xs ++ hs)) :: (slots hs ++ [])) ∧ Fact (hs.length = i ∧ ∀ q, q < i → FullR (xs.getD q fr0) q (hs.getD q fr0))) (fun _ v _ => k - (intOf v).toNat)
      case atStart => exact ⟨0, B, d, [], rfl, by omega, rfl, by simpa [slots] using hm, ⟨rfl, fun q hq => by omega⟩⟩
      case round =>
        clear hm
        obtain ⟨i, B, d, hs, rfl, hi1, rfl, hm, hh⟩ := hrel
        by_cases hlt2 : i < k
        · obtain ⟨b, o, rfl, r1, hok, _⟩ := hx.out.at i hlt2
          have hxe : ∃ x, Fact (xs.getD i fr0 = x) := ⟨_, ⟨rfl⟩⟩
          obtain ⟨x, hxe⟩ := hxe
          rw [hxe.out] at r1 hok
          have r1 := rng_gr r1 hm.below
          have hok := Fact.mk (hok.gr hm.below)
          obtain ⟨xfn, xpc, xA, xn, xc, xsl⟩ := x
          have hxn : xn ≤ N := hok.out.2
          have a2 : wr.cell? ⟨b, o + i * 3 + 2, none⟩ = some (.slice xA xn xc) := r1 2 _ rfl
          clear r1
          go_wp2_with fail
          refine (lentValues_ok wr xA xn xc xsl ⟨hok.out.1⟩ (by omega)).mono ?_
          rintro e w2 ⟨C, cd, rfl, hnw⟩
          have hm2 := hm.new hnw
          clear hnw hm a2 hok
          go_wp2_with (at_builtin; (refine wp_app rfl _ _ _ rfl 30 iR _ 3 40 ty_Rs hi hz0 hz1 hz2 rfl B (k + i) d _ rfl ((hm2.alloc _).pull2) _ 1 1 [.int .i64 (-7), .int .i64 (i : Int), .slice C (xn + 64) cd] rfl (RdC.lit _ _ _ _ _ rfl (by simp [maxLen]) (cR_one ⟨-7, (i : Int), C, xn + 64, cd, []⟩)) (by unfold maxLen; omega) (by omega) ?_); intro B1 d1 w4 HM1)
          go_roundw
          case rel =>
            have HM2 := (HM1.sub (.cons_cons _ (.cons _ (List.Sublist.refl _)))).swap
            have HM3 := slots_snoc (⟨-7, (i : Int), C, xn + 64, cd, xsl ++ marksV 64⟩ : Fr) HM2
            have h1 := hh.out.1
            have h2 := hh.out.2
            refine ⟨i + 1, B1, d1, hs ++ [⟨-7, (i : Int), C, xn + 64, cd, xsl ++ marksV 64⟩], by go_num, by omega, rfl, ?_, ⟨by simp [h1], fun q hq => ?_⟩⟩
            · rw [← List.append_assoc, fR_app]; simpa [fR, cR, Nat.add_assoc] using HM3
            · by_cases e : q = i
              · subst e
                rw [hxe.out, getD_snoc_eq _ _ _ _ h1.symm]
                exact ⟨rfl, rfl, rfl, rfl⟩
              · rw [getD_snoc_lt _ _ _ _ (by omega)]
                exact h2 q (by omega)
          case measure => simp [intOf]; omega
        · obtain rfl : i = k := by omega
          go_wp2
          go_loopw [4, 7] (fun l v w' => ∃ (j : Nat) (B : Option Addr) (d : Nat), v = .int .i64 j ∧ j ≤ 64 ∧ l = .slice B (i + i + j) d ∧ Mem w w' (Own 3 (.slice B (i + i + j) d) (fR (xs ++ hs ++ marksR i j)) :: (slots hs ++ []))) (fun _ v _ => 64 - (intOf v).toNat)
          case atStart => exact ⟨0, B, d, rfl, by omega, rfl, by simpa [marksR] using hm⟩
          case round =>
            clear hm
            obtain ⟨j, B, d, rfl, hj, rfl, hm⟩ := hrel
            by_cases hlt3 : j < 64
            · go_wp2_with (at_builtin; (refine wp_app rfl _ _ _ rfl 30 iR _ 3 40 ty_Rs hi hz0 hz1 hz2 rfl B (i + i + j) d _ rfl ((hm.alloc _).swap) _ 1 1 [.int .i64 (-7), .int .i64 ((i : Int) + (j : Int)), .slice none 0 0] rfl (RdC.lit _ _ _ _ _ rfl (by simp [maxLen]) (cR_one (markR i j))) (by unfold maxLen; omega) (by omega) ?_); intro B1 d1 w4 HM1)
              go_roundw
              case rel =>
                have HM2 := HM1.sub (.cons_cons _ (.cons _ (List.Sublist.refl _)))
                refine ⟨j + 1, B1, d1, by go_num, by omega, rfl, ?_⟩
                rw [marksR_succ, ← List.append_assoc, fR_app]
                simpa [fR, cR, markR, Nat.add_assoc] using HM2
              case measure => simp [intOf]; omega
            · obtain rfl : j = 64 := by omega
              go_wp2
              obtain ⟨wo, hwo⟩ : ∃ wo : World, wo = wr := ⟨_, rfl⟩
              rw [← hwo] at hm ⊢
              clear hwo
              have hcap := OwnAt.cap (hm.ok _ m0)
              obtain ⟨gf, off, rfl⟩ := OwnAt.addr (hm.ok _ m0) (by omega)
              have hze : ∃ zs, Fact (List.zipWith lentR xs hs = zs ∧ zs.length = xs.length) := ⟨_, ⟨rfl, by have := hh.out.1; have := hl.out; simp; omega⟩⟩
              obtain ⟨zs, hze⟩ := hze
              go_loopw [8] (fun v w' => ∃ (r : Nat), v = .int .i64 r ∧ r ≤ i ∧ Mem w w' (Own 3 (.slice (some ⟨gf, off, none⟩) (i + i + 64) d) (fR ((zs.take r ++ xs.drop r) ++ (hs ++ marksR i 64))) :: (slots hs ++ []))) (fun v _ => i - (intOf v).toNat)
              case atStart => exact ⟨0, rfl, by omega, by simpa using hm⟩
              case round =>
                clear hm
                obtain ⟨r, rfl, hr1, hm⟩ := hrel
                by_cases hlt4 : r < i
                · obtain ⟨b, o, rfl, r1, hok, _⟩ := hx.out.at r hlt4
                  have r1 := rng_gr r1 hm.below
                  obtain ⟨_, _, e, r2, _, _⟩ := rd_at cR_len (by omega) fr0 (hm.ok _ m0).rd (i + r) (by omega)
                  cases e
                  have hce : (zs.take r ++ xs.drop r ++ (hs ++ marksR i 64)).getD r fr0 = xs.getD r fr0 := cur_at fr0 zs xs _ r (by have := hl.out; omega) hze.out.2
                  have hcb : (zs.take r ++ xs.drop r ++ (hs ++ marksR i 64)).getD (i + r) fr0 = hs.getD r fr0 := by
                    have e1 := cur_behind fr0 zs xs (hs ++ marksR i 64) r r hze.out.2 (by have := hl.out; omega)
                    rw [hl.out] at e1
                    rw [e1, List.getD_eq_getElem?_getD, List.getElem?_append_left (by have := hh.out.1; omega), ← List.getD_eq_getElem?_getD]
                  have hcs := Fact.mk (cur_step fr0 zs xs (hs ++ marksR i 64) r (by have := hl.out; omega) hze.out.2)
                  have hcl2 : Fact ((zs.take r ++ xs.drop r ++ (hs ++ marksR i 64)).length = i + i + 64) := ⟨by have := hl.out; have := hh.out.1; have := hze.out.2; simp [marksR_len]; omega⟩
                  have hfo := hh.out.2 r hlt4
                  have hzr : zs.getD r fr0 = lentR (xs.getD r fr0) (hs.getD r fr0) := by
                    rw [← hze.out.1]
                    have h1 := getD_some xs fr0 r (by have := hl.out; omega)
                    have h2 := getD_some hs fr0 r (by have := hh.out.1; omega)
                    simp only [List.getD_eq_getElem?_getD] at h1 h2 ⊢
                    rw [List.getElem?_zipWith, h1, h2]
                    rfl
                  have hhm : hs.getD r fr0 ∈ hs := List.mem_of_getElem? (getD_some hs fr0 r (by have := hh.out.1; omega))
                  have hc1 : (hs.getD r fr0).n ≤ (hs.getD r fr0).c ∧ (hs.getD r fr0).c ≤ maxLen := OwnAt.cap (hm.ok (slot (hs.getD r fr0)) (.tail _ (List.mem_append_left _ (slots_mem hhm))))
                  rw [hzr] at hcs
                  rw [hcb] at r2
                  have hxe : ∃ x, Fact (xs.getD r fr0 = x) := ⟨_, ⟨rfl⟩⟩
                  obtain ⟨x, hxe⟩ := hxe
                  have hye : ∃ y, Fact (hs.getD r fr0 = y) := ⟨_, ⟨rfl⟩⟩
                  obtain ⟨y, hye⟩ := hye
                  rw [hxe.out] at r1 hfo hcs hce hok
                  rw [hye.out] at r2 hfo hcs hc1
                  have hce := Fact.mk hce
                  generalize zs.take r ++ xs.drop r ++ (hs ++ marksR i 64) = cur at *
                  obtain ⟨xfn, xpc, xA, xn, xc, xsl⟩ := x
                  obtain ⟨yfn, ypc, yA, yn, yc, ysl⟩ := y
                  obtain ⟨rfl, rfl, rfl, rfl⟩ := hfo
                  have hxn : xn ≤ N := hok.2
                  dsimp only at hc1
                  have a2 : wr.cell? ⟨b, o + r * 3 + 2, none⟩ = some (.slice xA xn xc) := r1 2 _ rfl
                  have b2 : wr.cell? ⟨gf, off + (i + r) * 3 + 2, none⟩ = some (.slice yA (xn + 64) yc) := r2 2 _ rfl
                  clear r1 r2 hzr hok
                  have e1 : IntKind.i64.wrap ((i : Int) + (r : Int)) = (i : Int) + (r : Int) := IntWalk.i64_in _ (by omega)
                  have e2 : (0 : Int) ≤ (i : Int) + (r : Int) := by omega
                  have e2b : (i : Int) + (r : Int) < (i : Int) + (i : Int) + 64 := by omega
                  have e2c : ((i : Int) + (r : Int)).toNat = i + r := by omega
                  have e3 : r < i + i + 64 := by omega
                  have e4 : xn ≤ yc := by omega
                  go_upto_region 18 with (fail)
                  go_still_tail 16, (by kernel_rfl)
                  change wpList _ _ _ _ _ wr.drew
                  have hmd := hm.drew
                  have hj3 : (fR cur)[r * 3 + 2]? = some (.slice xA xn xc) := by rw [fR, flatMap_at cR 3 cR_len _ r 2 (by omega), getD_some _ fr0 r (by rw [hcl2.out]; omega), hce.out]; rfl
                  obtain ⟨g1, g2⟩ := hmd.own_cell m0 (r * 3 + 2) hj3
                  rw [← Nat.add_assoc] at g1 g2
                  have hm2 := hmd.own_set (r * 3 + 2) (by rw [fR, flatMap_length cR 3 cR_len, hcl2.out]; omega) (.slice yA xn yc) rfl
                  rw [fR, flatMap_set cR 3 cR_len fr0 cur r 2 (lentR ⟨xfn, xpc, xA, xn, xc, xsl⟩ ⟨-7, (r : Int), yA, xn + 64, yc, xsl ++ marksV 64⟩) _ (by rw [hcl2.out]; omega) (by omega) (by rw [hce.out]; rfl), hcs.out, ← Nat.add_assoc] at hm2
                  clear a2 b2 hm hmd hj3
                  generalize wr.drew = w2 at g1 g2 hm2 ⊢
                  go_wp2
                  go_roundw
                  case rel => exact ⟨r + 1, by go_num, by omega, by simpa [fR] using hm2⟩
                  case measure => simp [intOf]; omega
                · obtain rfl : r = i := by omega
                  rw [List.take_of_length_le (by have := hze.out.2; have := hl.out; omega), List.drop_eq_nil_of_le (by have := hl.out; omega), List.append_nil, ← hze.out.1] at hm
                  have hrd : r ≤ d := by omega
                  go_wp2
                  go_ret
                  exact ⟨_, _, hs, rfl, by simpa using hm, hh.out.1, hh.out.2⟩
end Go.Proofs.Ytgflfpepfpekhaa
