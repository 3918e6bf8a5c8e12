/- play: a script of some of the calls on a heap, each answer held against the reference's. -/
import Derived.Test.YtpibchjkmaghnaaHpAlike
import Derived.Test.YtpibchjkmaghnaaRfTell
namespace Go.Proofs.Ytpibchjkmaghnaa
open Go.RowKit Go.Mm
set_option maxHeartbeats 4000000
set_option maxRecDepth 100000
set_option linter.unusedSimpArgs false
/-- Calls that are alike on both heaps: what they leave, what they answer. -/
structure PlayH (w0 : World) (ks : List Nat) (S : Nat → Hs → HOp → Hs) (R : Nat → Hs → HOp → Sd) : Prop where
  told : ∀ c, c ∈ ks → ∀ (r : Rf) (w : World) (L : List Chunk) (o : HOp), Mem w0 w (RfC r :: L) → r.Ok → RdC w0 2 (.slice o.A o.n o.c) (fV o.items) → o.n ≤ 1048576 → r.xs.length < 8388608 →
    Calls Try.prog 75 #[.pointer (some ⟨r.g, 0, none⟩), .int .i64 c, .agg (cHO o).toArray] w fun e w' => ∃ v, e = .returned v ∧ TellQ w0 L r.g (S c r.abs o) (R c r.abs o) v w'
  ask : ∀ c, c ∈ ks → ∀ (h : Hp) (w : World) (L : List Chunk) (o : HOp), Mem w0 w (HpC h :: L) → h.Ok → RdC w0 2 (.slice o.A o.n o.c) (fV o.items) → o.n ≤ 1048576 → h.ths.length < 8388608 →
    Calls Try.prog 47 #[.pointer (some ⟨h.g, 0, none⟩), .int .i64 c, .agg (cHO o).toArray] w fun e w' => ∃ v, e = .returned (.tuple #[v, .bool true]) ∧ AskQ w0 L h.g (S c h.abs o) (R c h.abs o) v w'
  grow : ∀ c, c ∈ ks → ∀ (s : Hs) (o : HOp), (S c s o).objs.length ≤ s.objs.length + 1
  size : ∀ c, c ∈ ks → ∀ (h : Hp) (o : HOp), h.Ok → o.items.length ≤ 1048576 → (R c h.abs o).ob.items.length ≤ 16777216 ∧ (R c h.abs o).ob.keys.length ≤ 16777216 ∧ (R c h.abs o).list.length ≤ 16777216
def kindsV (ks : List Nat) : List Value := ks.map fun (k : Nat) => .int .i64 (k : Int)
theorem m8 {α : Type} {a b c d e f g h x : α} {l : List α} : x ∈ a :: b :: c :: d :: e :: f :: g :: h :: x :: l := .tail _ m7
theorem play_ok (w0 w : World) (L : List Chunk) (ks : List Nat) (S : Nat → Hs → HOp → Hs) (R : Nat → Hs → HOp → Sd) (H : Fact (PlayH w0 ks S R)) (hk0 : 0 < ks.length) (hk1 : ks.length ≤ 20)
    (h0 : Hp) (r0 : Rf) (hm : Mem w0 w (HpC h0 :: RfC r0 :: L)) (hok0 : h0.Ok) (rok0 : r0.Ok) (habs : r0.abs = h0.abs) (hsz0 : h0.ths.length ≤ 2097152) (gk : Nat) (hgk : Fact (Blk gk (.cells (kindsV ks).toArray 3) ∈ L))
    (A : Option Addr) (m c : Nat) (ops : List HOp) (hs : Fact (RdC w0 9 (.slice A m c) (ops.flatMap cHO))) (hit : ∀ x, x ∈ ops → RdC w0 2 (.slice x.A x.n x.c) (fV x.items) ∧ x.n ≤ 1048576) (hmm : m ≤ 1048576) :
    Calls Try.prog 45 #[.pointer (some ⟨h0.g, 0, none⟩), .pointer (some ⟨r0.g, 0, none⟩), .slice (some ⟨gk, 0, none⟩) ks.length ks.length, .slice A m c] w fun e w' => e = .returned (.bool true) ∧ Gr w0 w' := by
  have hit := Fact.mk hit
  have hkl := Fact.mk (show (kindsV ks).length = ks.length by simp [kindsV])
  have hpk := fun w k => pickF_ok w k ks.length ks.length rfl (by omega) hk0
  have hpr := fun k => pickF_rng k ks.length hk0
  have hkat : ∀ j, j < ks.length → ∃ cc : Nat, cc ∈ ks ∧ (kindsV ks)[j]? = some (.int .i64 cc) := fun j hj => ⟨ks[j], List.getElem_mem hj, by simp [kindsV, hj]⟩
  generalize hml : ks.length = kl at hkl hpk hpr hkat
  clear hk0 hml
  generalize hg0 : h0.g = hg
  generalize hr0 : r0.g = rg
  replace hpk := Fact.mk hpk
  replace hpr := Fact.mk hpr
  replace hkat := Fact.mk hkat
  have hstart : Fact (∃ (h : Hp) (r : Rf), h.g = hg ∧ r.g = rg ∧ h.Ok ∧ r.Ok ∧ r.abs = h.abs ∧ h.ths.length ≤ 2097152 + 0 ∧ Mem w0 w (HpC h :: RfC r :: L)) := ⟨h0, r0, hg0, hr0, hok0, rok0, habs, hsz0, hm⟩
  clear hm hok0 rok0 habs hsz0 hg0 hr0
  go_enter Try.func45, Try.ntmps45
  go_wp2
  go_loopw [9] (fun s9 w' => ∃ (k : Nat), s9 = .int .i64 k ∧ k ≤ m ∧ ∃ (h : Hp) (r : Rf), h.g = hg ∧ r.g = rg ∧ h.Ok ∧ r.Ok ∧ r.abs = h.abs ∧ h.ths.length ≤ 2097152 + k ∧ Mem w0 w' (HpC h :: RfC r :: L)) (fun s9 _ => m - (intOf s9).toNat)
  case atStart => exact ⟨0, rfl, by omega, hstart.out⟩
  case round =>
    obtain ⟨k, rfl, hk, h, r, rfl, rfl, hok, rok, habs, hsz, hmr⟩ := hrel
    clear hstart
    have hok := Fact.mk hok
    have rok := Fact.mk rok
    have habs := Fact.mk habs
    by_cases hlt : k < m
    · obtain ⟨b, o, rfl, hc, hkm⟩ := rdHO_at hs.out k hlt
      have hxm : ops.getD k hop0 ∈ ops := by rw [List.getD_eq_getElem?_getD, List.getElem?_eq_getElem hkm]; exact List.getElem_mem hkm
      generalize ops.getD k hop0 = x at hc hxm
      obtain ⟨hxr, hxn⟩ := hit.out x hxm
      have hxr := Fact.mk hxr
      have hc := Fact.mk hc
      have wrapk : wrap64 ((k : Int) + 1) = (k : Int) + 1 := IntWalk.wrap64_in _ (by omega)
      go_upto_region 5 with (first | (refine wp_rng rfl 32 _ rfl b (o + k * 9) rfl (cHO x) (rng_gr hc.out hmr.below) row_HO sz_HO ?_) | (refine wp_setrow rfl 32 _ _ rfl wr.heap.size rfl 32 _ (cHO x) rfl (hmr.alloc _) sz_HO rfl (cHO_one x) ?_; intro w6 hm6))
      generalize wr.heap.size = g10 at hm6 ⊢
      have y1 := hm6.cell m0 1 rfl
      clear hmr hxm
      go_wp2_with fail
      refine (hpk.out w6 x.kd).mono ?_
      rintro e w7 ⟨rfl, rfl⟩
      have hj := hpr.out x.kd
      obtain ⟨j, hj'⟩ := Int.eq_ofNat_of_zero_le hj.1
      rw [hj'] at hj ⊢
      have hj5 : j < kl := by omega
      clear hj' hj y1
      obtain ⟨cc, hcc, hcell⟩ := hkat.out j hj5
      have z1 := hm6.cell (.tail _ (.tail _ (.tail _ hgk.out))) j hcell
      clear hcell
      replace hcc := Fact.mk hcc
      have hxl := rdV_len hxr.out
      have hRs := H.out.size cc hcc.out h x hok.out (by omega)
      have hgrow := H.out.grow cc hcc.out h.abs x
      have htold := H.out.told cc hcc.out r w7 _ x hm6.pull2 rok.out hxr.out hxn (by have := r.abs_len; rw [habs.out, h.abs_len'] at this; omega)
      have hask := fun (w : World) (L : List Chunk) (hm : Mem w0 w (HpC h :: L)) => H.out.ask cc hcc.out h w L x hm hok.out hxr.out hxn (by omega)
      rw [habs.out] at htold
      have hSl : (S cc h.abs x).objs.length ≤ 2097152 + (k + 1) := by rw [h.abs_len'] at hgrow; omega
      generalize S cc h.abs x = s1 at htold hask hSl
      generalize R cc h.abs x = q1 at htold hask hRs
      clear hgrow hxl
      replace htold := Fact.mk htold
      replace hask := Fact.mk hask
      replace hRs := Fact.mk hRs
      go_wp2_with (refine wp_rng rfl 32 _ rfl g10 0 rfl (cHO x) (rng_blk hm6 m0) row_HO sz_HO ?_)
      refine htold.out.mono ?_
      rintro e w8 ⟨v, rfl, r', hrg', hra', rok', A1, c1, K1, k1, LA1, lc1, rfl, hm8⟩
      clear z1 hm6 htold
      go_wp2_with (first | (refine wp_setrow rfl 84 _ _ rfl w8.heap.size rfl 84 _ (sdC q1 A1 c1 K1 k1 LA1 lc1) rfl (hm8.alloc _) sz_S rfl (sC_one _ _ _ _ _ _ _ _ _ _ _ _ _ _ _ _ _ _) ?_; intro w9 hm9) | (refine wp_rng rfl 32 _ rfl g10 0 rfl (cHO x) (rng_blk hm9 m5) row_HO sz_HO ?_))
      generalize w8.heap.size = g12 at hm9 ⊢
      clear hm8
      refine (hask.out w9 _ hm9.pull6).mono ?_
      rintro e w10 ⟨v, rfl, h', hhg', hha', hok', A2, c2, K2, k2, LA2, lc2, rfl, hm10⟩
      clear hm9 hask
      go_wp2_with (first | (refine wp_setrow rfl 84 _ _ rfl w10.heap.size rfl 84 _ (sdC q1 A2 c2 K2 k2 LA2 lc2) rfl (hm10.alloc _) sz_S rfl (sC_one _ _ _ _ _ _ _ _ _ _ _ _ _ _ _ _ _ _) ?_; intro w11 hm11) | (refine wp_rng rfl 84 _ rfl w10.heap.size 0 rfl (sdC q1 A2 c2 K2 k2 LA2 lc2) (rng_blk hm11 m0) row_S sz_S ?_) | (refine wp_rng rfl 84 _ rfl g12 0 rfl (sdC q1 A1 c1 K1 k1 LA1 lc1) (rng_blk hm11 m5) row_S sz_S ?_))
      generalize w10.heap.size = g13 at hm11 ⊢
      clear hm10
      refine (same_ok w11 q1 _ _ ⟨A2, c2, K2, k2, LA2, lc2, rfl, hm11.rd m1, hm11.rd m2, hm11.rd m3⟩ ⟨A1, c1, K1, k1, LA1, lc1, rfl, hm11.rd m6, hm11.rd m7, hm11.rd m8⟩ hRs.out.1 hRs.out.2.1 hRs.out.2.2).mono ?_
      rintro e w12 ⟨rfl, hg12⟩
      have hz : Mem w0 w12 (HpC h' :: RfC r' :: L) := (hm11.tail.tail.tail.tail.gr hg12).sub (List.Sublist.cons_cons _ (.cons _ (.cons _ (.cons _ (.cons _ (List.Sublist.cons_cons _ (List.sublist_cons_self _ _)))))))
      clear hm11 hg12
      go_wp2_with fail
      go_roundw
      case rel => exact ⟨k + 1, by go_num, by omega, h', r', hhg', hrg', hok', rok', by rw [hha', hra'], by rw [← h'.abs_len', hha']; exact hSl, hz⟩
      case measure => first | exact measP_lt hlt | exact measN_lt hlt wrapk
    · obtain rfl : k = m := by omega
      go_wp2_with fail
      refine (alike_ok w0 wr L h r hmr hok rok ⟨by rw [habs.out]⟩ (congrArg Hs.spent habs.out)).mono ?_
      rintro e w8 ⟨rfl, hm8⟩
      go_wp2_with fail
      go_ret
      exact ⟨rfl, hm8.below⟩
end Go.Proofs.Ytpibchjkmaghnaa
