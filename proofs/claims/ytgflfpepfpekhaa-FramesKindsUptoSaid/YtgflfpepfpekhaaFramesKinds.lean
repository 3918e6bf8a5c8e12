import Derived.Test.YtgflfpepfpekhaaFrShown
import Derived.Test.YtgflfpepfpekhaaStkS
import Derived.Test.YtgflfpepfpekhaaStkV
import Derived.Test.YtgflfpepfpekhaaStkR
import Derived.Test.YtgflfpepfpekhaaBulk
namespace Go.Proofs.Ytgflfpepfpekhaa
open Go.RowKit Go.Mm Go.WideShapes
set_option maxHeartbeats 4000000
set_option maxRecDepth 100000
set_option linter.unusedSimpArgs false
/-- What lies on the three stacks: two bytes, and where a frame's one slot lies. -/
structure It where
  p : Int
  q : Int
  A : Option Addr
  c : Nat
def it0 : It := ⟨0, 0, none, 1⟩
def iS (x : It) : List Value := [.string (strOfNums [x.p, x.q])]
def iB (x : It) : List Value := [.int .i64 x.p, .int .i64 x.q]
def iC (x : It) : List Value := [.int .i64 x.p, .int .i64 x.q, .slice x.A 1 x.c]
def ItsOk (l : List It) : Prop := ∀ x, x ∈ l → 0 ≤ x.p ∧ x.p < 256 ∧ 0 ≤ x.q ∧ x.q < 256
theorem iS_len (x : It) : (iS x).length = 1 := rfl
theorem iB_len (x : It) : (iB x).length = 2 := rfl
theorem iC_len (x : It) : (iC x).length = 3 := rfl
theorem iS_one (x : It) : One (iS x) := fun u hu => by simp [iS] at hu; subst hu; rfl
theorem iB_one (x : It) : One (iB x) := fun u hu => by simp [iB] at hu; rcases hu with rfl | rfl <;> rfl
theorem iC_one (x : It) : One (iC x) := fun u hu => by simp [iC] at hu; rcases hu with rfl | rfl | rfl <;> rfl
theorem take_flat {f : It → List Value} {s : Nat} (hf : ∀ x, (f x).length = s) (l : List It) (k : Nat) : (l.flatMap f).take (k * s) = (l.take k).flatMap f := by
  induction l generalizing k with
  | nil => simp
  | cons a l ih =>
    cases k with
    | zero => simp
    | succ k => rw [List.flatMap_cons, List.take_succ_cons, List.flatMap_cons, ← ih k, List.take_append, List.take_of_length_le (by rw [hf, Nat.succ_mul]; omega), hf, show (k + 1) * s - s = k * s by rw [Nat.succ_mul]; omega]
theorem drop_flat {f : It → List Value} {s : Nat} (hf : ∀ x, (f x).length = s) (l : List It) (k : Nat) : (l.flatMap f).drop (k * s) = (l.drop k).flatMap f := by
  induction l generalizing k with
  | nil => simp
  | cons a l ih =>
    cases k with
    | zero => simp
    | succ k => rw [List.flatMap_cons, List.drop_succ_cons, ← ih k, List.drop_append, List.drop_eq_nil_of_le (by rw [hf, Nat.succ_mul]; omega), List.nil_append, hf, show (k + 1) * s - s = k * s by rw [Nat.succ_mul]; omega]
abbrev KS (g : Nat) (A : Option Addr) (n c : Nat) : Chunk := Blk g (.cells [.slice A n c].toArray 150)
abbrev KV (g : Nat) (A : Option Addr) (n c : Nat) : Chunk := Blk g (.cells [.slice A n c].toArray 152)
abbrev KR (g : Nat) (A : Option Addr) (n c : Nat) : Chunk := Blk g (.cells [.slice A n c].toArray 154)
theorem ty_u8s : Try.prog.underlying 98 = some (.slice 5) := by kernel_rfl
theorem ty_u8 : Try.prog.underlying 5 = some (.int .u8) := by kernel_rfl
theorem ty_ints : Try.prog.underlying 89 = some (.slice 3) := by kernel_rfl
theorem run_cv2 (W : World) (p q : Int) : (convert 98 9 (.slice (some ⟨W.heap.size, 0, none⟩) 2 2)).run Try.prog (W.alloc (.cells #[.int .u8 p, .int .u8 q] 5)) = .ok (.string (strOfNums [p, q])) (W.alloc (.cells #[.int .u8 p, .int .u8 q] 5)) :=
  run_conv_rd _ 98 5 9 ty_u8s ty_u8 ty_str _ 2 2 [p, q] (RdC.lit W (nums .u8 [p, q]) 5 2 1 rfl (by simp [maxLen]) (One.nums _ _))
theorem kinds_walk (w : World) (S : Option Addr) (m sc : Nat) (zs : List Int) (hz : Fact (RdC w 1 (.slice S m sc) (nums .i64 zs))) (hm : m ≤ 1048576) (hw : Fact (∀ x, x ∈ zs → (Lit.int .i64 x).wf = true)) :
    Calls Try.prog 11 #[.slice S m sc] w fun e w' => e = .returned (.bool true) ∧ Gr w w' := by
  have hzl : Fact (zs.length = m) := ⟨hz.out.nlen⟩
  go_enter Try.func11, Try.ntmps11
  go_wp2_with fail
  refine (newS_ok w).mono ?_
  rintro e w1 ⟨ga, A0, c0, rfl, hm1⟩
  go_wp2_with fail
  refine (newV_ok w1).mono ?_
  rintro e w2 ⟨gb, A1, c1, rfl, hm2⟩
  have hm2 := hm1.join hm2
  clear hm1
  go_wp2_with fail
  refine (newR_ok w2).mono ?_
  rintro e w3 ⟨gc, A2, c2, rfl, hm3⟩
  have hm3 := hm2.join hm3
  clear hm2
  go_wp2_with fail
  refine (shown_ok w3).mono ?_
  rintro e w4 ⟨rfl, hg4⟩
  have hm4 := hm3.gr hg4
  clear hm3 hg4
  have hm4 : Mem w w4 [KS ga A0 0 c0, Own 1 (.slice A0 0 c0) (List.flatMap iS []), KV gb A1 0 c1, Own 2 (.slice A1 0 c1) (List.flatMap iB []), KR gc A2 0 c2, Own 3 (.slice A2 0 c2) (List.flatMap iC [])] := hm4.sel 6 [4, 5, 2, 3, 0, 1] (by decide)
  have hcv := run_cv2
  go_wp2
  go_loopw [6] (fun v W => ∃ (k n : Nat) (Aa Ab Ac : Option Addr) (ca cb cc : Nat) (its : List It), v = .int .i64 k ∧ k ≤ m ∧ n ≤ k ∧ Fact (ItsOk its ∧ its.length = n) ∧ Mem w W [KS ga Aa n ca, Own 1 (.slice Aa n ca) (its.flatMap iS), KV gb Ab n cb, Own 2 (.slice Ab n cb) (its.flatMap iB), KR gc Ac n cc, Own 3 (.slice Ac n cc) (its.flatMap iC)]) (fun v _ => m - (intOf v).toNat)
  case atStart => exact ⟨0, 0, A0, A1, A2, c0, c1, c2, [], rfl, by omega, by omega, ⟨fun x hx => (by cases hx), rfl⟩, hm4⟩
  case round =>
    clear hm4
    obtain ⟨k, n, Aa, Ab, Ac, ca, cb, cc, its, rfl, hk, hnk, hits, hm⟩ := hrel
    by_cases hlt : k < m
    · obtain ⟨bz, oz, rfl, r1, _⟩ := hz.out.num k hlt
      have r1 := Gr.cell hm.below r1
      have hwx := hw.out (zs.getD k 0) (by rw [show zs.getD k 0 = zs[k]'(by have := hzl.out; omega) by simp [show k < zs.length by have := hzl.out; omega]]; exact List.getElem_mem _)
      generalize zs.getD k 0 = x at r1 hwx
      have hx63 : -9223372036854775808 ≤ x ∧ x ≤ 9223372036854775807 := by simpa [Lit.wf, IntKind.min, IntKind.max, IntKind.signed, IntKind.bits] using hwx
      obtain ⟨hx1, hx2⟩ := hx63
      clear hwx
      by_cases hx0 : 0 ≤ x
      · have e0 : x % 256 % 256 = x % 256 := by omega
        have hm1 := hm.gr (((Gr.refl wr).alloc (.cells #[.int .u8 (x % 256), .int .u8 (x / 256 % 256)] 5)).alloc (.cells #[.string (strOfNums [x % 256, x / 256 % 256])] 9))
        have hrl := RdC.lit (wr.alloc (.cells #[.int .u8 (x % 256), .int .u8 (x / 256 % 256)] 5)) [.string (strOfNums [x % 256, x / 256 % 256])] 9 1 1 rfl (by simp [maxLen]) (iS_one ⟨x % 256, x / 256 % 256, none, 0⟩)
        simp only [World.size_alloc] at hrl
        replace hrl := Fact.mk hrl
        go_wp2_with fail
        refine (pushS_ok w _ _ ga Aa _ n ca 1 1 (its.flatMap iS) [.string (strOfNums [x % 256, x / 256 % 256])] 150 hm1 hrl (by omega)).mono ?_
        rintro e w5 ⟨A3, c3, rfl, hm2⟩
        have hm2 := (hm2.sel 6 [2, 3, 4, 5, 0, 1] (by decide)).gr ((Gr.refl w5).alloc (.cells #[.int .i64 (x % 256), .int .i64 (x / 256 % 256)] 41))
        clear hm hm1 r1
        go_wp2_with fail
        refine (pushV_ok w _ _ gb Ab _ n cb 1 1 (its.flatMap iB) [.int .i64 (x % 256), .int .i64 (x / 256 % 256)] 152 hm2 ⟨RdC.lit w5 _ _ 1 2 rfl (by simp [maxLen]) (iB_one ⟨x % 256, x / 256 % 256, none, 0⟩)⟩ (by omega)).mono ?_
        rintro e w6 ⟨A4, c4, rfl, hm3⟩
        have hm3 := (hm3.sel 6 [2, 3, 4, 5, 0, 1] (by decide))
        clear hm2
        go_wp2_with fail
        refine (ints_ok _ _ 1 1 [x] ⟨RdC.lit w6 [.int .i64 x] _ 1 1 rfl (by simp [maxLen]) (One.nums .i64 [x])⟩ (by omega)).mono ?_
        rintro e w7 ⟨A5, c5, rfl, hnew⟩
        have hm4 := ((hm3.gr ((Gr.refl w6).alloc _)).gr hnew.gr).gr ((Gr.refl w7).alloc (.cells #[.int .i64 (x % 256), .int .i64 (x / 256 % 256), .slice A5 1 c5] 30))
        clear hm3 hnew
        go_wp2_with fail
        refine (pushR_ok w _ _ gc Ac _ n cc 1 1 (its.flatMap iC) [.int .i64 (x % 256), .int .i64 (x / 256 % 256), .slice A5 1 c5] 154 hm4 ⟨RdC.lit w7 _ _ 1 3 rfl (by simp [maxLen]) (iC_one ⟨x % 256, x / 256 % 256, A5, c5⟩)⟩ (by omega)).mono ?_
        rintro e w8 ⟨A6, c6, rfl, hm5⟩
        have hm5 := (hm5.sel 6 [2, 3, 4, 5, 0, 1] (by decide))
        clear hm4
        go_wp2
        go_roundw
        case rel => exact ⟨k + 1, n + 1, A3, A4, A6, c3, c4, c6, its ++ [⟨x % 256, x / 256 % 256, A5, c5⟩], by go_num, by omega, by omega, ⟨fun y hy => by
          rcases List.mem_append.1 hy with hy | hy
          · exact hits.out.1 y hy
          · simp at hy; subst hy; exact ⟨by show 0 ≤ x % 256; omega, by show x % 256 < 256; omega, by show 0 ≤ x / 256 % 256; omega, by show x / 256 % 256 < 256; omega⟩, by rw [List.length_append, hits.out.2]; rfl⟩, by
          rw [List.flatMap_append, List.flatMap_append, List.flatMap_append]; exact hm5⟩
        case measure => simp [intOf]; omega
      · go_wp2_with fail
        refine (pick_ok wr x 4 4 rfl (by omega) (by omega)).mono ?_
        rintro e w5 ⟨j, rfl, rfl, hj⟩
        clear r1
        by_cases hjn : j ≤ n
        · go_wp2_with fail
          refine (popS_ok w w5 _ ga Aa n ca (its.flatMap iS) 150 hm (by omega) j hjn _ rfl).mono ?_
          rintro e w6 ⟨A3, c3, rfl, hm1⟩
          have hm1 := hm1.sel 7 [3, 4, 5, 6, 0, 1, 2] (by decide)
          clear hm
          go_wp2_with fail
          refine (popV_ok w w6 _ gb Ab n cb (its.flatMap iB) 152 hm1 (by omega) j hjn _ rfl).mono ?_
          rintro e w7 ⟨A4, c4, rfl, hm2⟩
          have hm2 := hm2.sel 8 [3, 4, 0, 1, 2, 5, 6, 7] (by decide)
          clear hm1
          go_wp2_with fail
          refine (popR_ok w w7 _ gc Ac n cc (its.flatMap iC) 154 hm2 (by omega) j hjn _ rfl).mono ?_
          rintro e w8 ⟨A5, c5, rfl, hm3⟩
          have hm3 := hm3.sel 9 [6, 7, 3, 4, 0, 1, 8, 5, 2] (by decide)
          clear hm2
          rw [take_flat iS_len, take_flat iB_len, take_flat iC_len, drop_flat iS_len, drop_flat iB_len, drop_flat iC_len] at hm3
          have hI2 : Fact (ItsOk (its.take (n - j)) ∧ (its.take (n - j)).length = n - j) := ⟨fun y hy => hits.out.1 y (List.mem_of_mem_take hy), by rw [List.length_take, hits.out.2]; omega⟩
          have hI3 : Fact (ItsOk (its.drop (n - j)) ∧ (its.drop (n - j)).length = j) := ⟨fun y hy => hits.out.1 y (List.mem_of_mem_drop hy), by rw [List.length_drop, hits.out.2]; omega⟩
          generalize its.take (n - j) = lo at hm3 hI2
          generalize its.drop (n - j) = up at hm3 hI3
          go_wp2
          obtain ⟨w0, rfl⟩ : ∃ w0 : World, w0 = w8 := ⟨_, rfl⟩
          go_loopw [15] (fun v W => ∃ (r : Nat), v = .int .i64 r ∧ r ≤ j ∧ Mem w W [KS ga Aa (n - j) (n - j), Own 1 (.slice Aa (n - j) (n - j)) (lo.flatMap iS), KV gb Ab (n - j) (n - j), Own 2 (.slice Ab (n - j) (n - j)) (lo.flatMap iB), KR gc Ac (n - j) (n - j), Own 3 (.slice Ac (n - j) (n - j)) (lo.flatMap iC), Own 1 (.slice A3 j c3) (up.flatMap iS), Own 2 (.slice A4 j c4) (up.flatMap iB), Own 3 (.slice A5 j c5) (up.flatMap iC)]) (fun v _ => j - (intOf v).toNat)
          case atStart => exact ⟨0, rfl, by omega, hm3⟩
          case round =>
            clear hm3
            obtain ⟨r, rfl, hr, hm⟩ := hrel
            by_cases hlr : r < j
            · obtain ⟨b1, o1, e1, ra, _, _⟩ := rd_at iS_len (by omega) it0 (hm.rd m6) r hlr
              obtain ⟨b2, o2, e2, rb, _, _⟩ := rd_at iB_len (by omega) it0 (hm.rd (.tail _ m6)) r hlr
              obtain ⟨b3, o3, e3, rc, _, _⟩ := rd_at iC_len (by omega) it0 (hm.rd (.tail _ (.tail _ m6))) r hlr
              subst e1 e2 e3
              have hy := hI3.out.1 (up.getD r it0) (List.mem_of_getElem? (getD_some up it0 r (by have := hI3.out.2; omega)))
              generalize up.getD r it0 = y at ra rb rc hy
              obtain ⟨p, q, yA, yc⟩ := y
              dsimp only at hy
              have a1 : wr.cell? ⟨b1, o1 + r, none⟩ = some (.string (strOfNums [p, q])) := by have := ra 0 _ rfl; rwa [Nat.mul_one, Nat.add_zero] at this
              have d1 : wr.cell? ⟨b2, o2 + r * 2, none⟩ = some (.int .i64 p) := rb 0 _ rfl
              have d2 : wr.cell? ⟨b2, o2 + r * 2 + 1, none⟩ = some (.int .i64 q) := rb 1 _ rfl
              have f1 : wr.cell? ⟨b3, o3 + r * 3, none⟩ = some (.int .i64 p) := rc 0 _ rfl
              have f2 : wr.cell? ⟨b3, o3 + r * 3 + 1, none⟩ = some (.int .i64 q) := rc 1 _ rfl
              have f3 : wr.cell? ⟨b3, o3 + r * 3 + 2, none⟩ = some (.slice yA 1 yc) := rc 2 _ rfl
              clear ra rb rc
              obtain ⟨hp0, hp1, hq0, hq1⟩ := hy
              have y1 : IntKind.u8.wrap p = p := IntWalk.u8_in _ (by omega)
              have y2 : IntKind.u8.wrap q = q := IntWalk.u8_in _ (by omega)
              go_upto_region 23 with (fail)
              go_still_tail 12, (by kernel_rfl)
              change wpList _ _ _ _ _ wr.drew
              have hg := (Gr.refl wr).drew
              replace a1 := hg.cell a1
              replace d1 := hg.cell d1
              replace d2 := hg.cell d2
              replace f1 := hg.cell f1
              replace f2 := hg.cell f2
              replace f3 := hg.cell f3
              have hm := hm.drew
              clear hg
              generalize wr.drew = w9 at hm a1 d1 d2 f1 f2 f3 ⊢
              go_upto_region 24 with (fail)
              have hg := (Gr.refl w9).alloc (.cells #[.int .u8 p, .int .u8 q] 5)
              replace a1 := hg.cell a1
              replace d1 := hg.cell d1
              replace d2 := hg.cell d2
              replace f1 := hg.cell f1
              replace f2 := hg.cell f2
              replace f3 := hg.cell f3
              have hm := hm.gr hg
              clear hg
              generalize w9.alloc (.cells #[.int .u8 p, .int .u8 q] 5) = w10 at hm a1 d1 d2 f1 f2 f3 ⊢
              generalize strOfNums [p, q] = T at *
              go_quiet (fail)
              have hm := hm.drewN nq
              clear a1 d1 d2 f1 f2 f3
              generalize w10.drewN nq = w11 at hm ⊢
              go_wp2
              go_roundw
              case rel => exact ⟨r + 1, by go_num, by omega, hm⟩
              case measure => simp [intOf]; omega
            · go_wp2
              go_roundw
              case rel => exact ⟨k + 1, n - j, Aa, Ab, Ac, n - j, n - j, n - j, lo, by go_num, by omega, by omega, hI2, hm.sel 9 [0, 1, 2, 3, 4, 5] (by decide)⟩
              case measure => simp [intOf]; omega
        · have hjn' : (n : Int) < (j : Int) := by omega
          go_wp2_with fail
          refine (popNoS_ok w w5 _ ga Aa n ca 150 hm m0 (by omega) _ (.inr hjn') (by omega)).mono ?_
          rintro e w6 ⟨rfl, rfl⟩
          go_wp2_with fail
          refine (popNoV_ok w w6 _ gb Ab n cb 152 hm m2 (by omega) _ (.inr hjn') (by omega)).mono ?_
          rintro e w7 ⟨rfl, rfl⟩
          go_wp2_with fail
          refine (popNoR_ok w w7 _ gc Ac n cc 154 hm m4 (by omega) _ (.inr hjn') (by omega)).mono ?_
          rintro e w8 ⟨rfl, rfl⟩
          have hj0 : ((0 : Int) == (j : Int)) = false := by rw [beq_eq_false_iff_ne]; omega
          go_wp2
          go_loopw [15] (fun v W => v = .int .i64 0 ∧ W = w8) (fun _ _ => 0)
          case atStart => exact ⟨rfl, rfl⟩
          case round =>
            obtain ⟨rfl, rfl⟩ := hrel
            go_wp2
            go_roundw
            case rel => exact ⟨k + 1, n, Aa, Ab, Ac, ca, cb, cc, its, by go_num, by omega, by omega, hits, hm⟩
            case measure => simp [intOf]; omega
    · go_wp2_with fail
      refine (lenS_ok w wr _ ga Aa n ca 150 hm m0).mono ?_
      rintro e w5 ⟨rfl, rfl⟩
      go_wp2_with fail
      refine (lenV_ok w w5 _ gb Ab n cb 152 hm m2).mono ?_
      rintro e w6 ⟨rfl, rfl⟩
      go_wp2_with fail
      refine (lenS_ok w w6 _ ga Aa n ca 150 hm m0).mono ?_
      rintro e w7 ⟨rfl, rfl⟩
      go_wp2_with fail
      refine (lenR_ok w w7 _ gc Ac n cc 154 hm m4).mono ?_
      rintro e w8 ⟨rfl, rfl⟩
      go_wp2
      go_ret
      exact ⟨rfl, hm.below⟩
theorem framesKinds_ok (H : Type) (enc : TypeId × Value → H) (W : World) (base : Nat)
    (v0 : Value) (d0 : DataW H) (p0 : List MemPlace) (h0 : DataW.Trod enc Try.prog W 0 (fun _ => true) true 89 v0 d0 p0) (ok0 : Value.okWide Try.prog W .any base 89 v0) (hk : Rows.uptoSmall H ([d0] ++ []) = true) :
    Calls Try.prog 11 #[v0] W fun e w' => e = .returned (.bool true) ∧ Gr W w' := by
  obtain ⟨A, n, c, xs, rfl, hx, _, hw, b0⟩ := open_nums ty_ints ty_int (by kernel_rfl) h0 ok0
  have hb := bulk_small hk
  have l0 := bulk_slice b0
  simp only [Rows.uptoBulkAll, List.cons_append, List.nil_append] at hb
  exact kinds_walk W A n c xs ⟨hx⟩ (by omega) ⟨hw⟩
end Go.Proofs.Ytgflfpepfpekhaa
