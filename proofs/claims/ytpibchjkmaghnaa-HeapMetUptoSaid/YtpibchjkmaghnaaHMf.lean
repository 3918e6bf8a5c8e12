/- Lemmas for the row HeapMetRow (contracts of functions, laws of memory). Conditions: those that each lemma states. -/
import Derived.OwnWalk
import Derived.Test.YtpibchjkmaghnaaHMa
import Derived.Test.YtpibchjkmaghnaaHMb
import Derived.Test.YtpibchjkmaghnaaHMc
import Derived.Test.YtpibchjkmaghnaaHMe
namespace Go.Proofs.Ytpibchjkmaghnaa
open Go.RowKit Go.Mm
set_option maxHeartbeats 4000000
set_option maxRecDepth 100000
set_option linter.unusedSimpArgs false
theorem getD_mem {α : Type} (xs : List α) (k : Nat) (d : α) (hk : k < xs.length) : xs.getD k d ∈ xs := by
  rw [List.getD_eq_getElem?_getD, List.getElem?_eq_getElem hk]
  exact List.getElem_mem _
theorem copyObjects_ok (w0 w : World) (L : List Chunk) (hm : Mem w0 w L) (A : Option Addr) (n c : Nat) (xs : List RO) (hx : Fact (ObsR w A n c xs)) (hn : n ≤ 2097152) (hsz : ∀ x, x ∈ xs → x.ob.items.length ≤ 1048576 ∧ x.ob.keys.length ≤ 1048576) :
    Calls Try.prog 80 #[.slice A n c] w fun e w' => ∃ (A' : Option Addr) (c' : Nat) (ys : List RO), e = .returned (.slice A' n c') ∧ ys.map (·.ob) = xs.map (·.ob) ∧ Mem w0 w' (Own 6 (.slice A' n c') (ys.flatMap cRO) :: (ys.map RoC ++ L)) := by
  obtain ⟨iO, hiO, hz0, hz1, hz2⟩ := info_parts inf_O
  have hl := Fact.mk hx.out.len
  replace hsz := Fact.mk hsz
  go_enter Try.func80, Try.ntmps80
  go_wp2
  go_loopw [3, 4] (fun s3 s4 W => ∃ (k : Nat) (B : Option Addr) (d : Nat) (ys : List RO), s4 = .int .i64 k ∧ k ≤ n ∧ s3 = .slice B k d ∧ Fact (ys.map (·.ob) = (xs.take k).map (·.ob)) ∧ Mem w W (Own 6 (.slice B k d) (ys.flatMap cRO) :: (ys.map RoC ++ []))) (fun _ s4 _ => n - (intOf s4).toNat)
  case atStart => exact ⟨0, none, 0, [], rfl, by omega, rfl, ⟨rfl⟩, (Mem.start w).nil 6 none⟩
  case round =>
    obtain ⟨k, B, d, ys, rfl, hk, rfl, hys, hmr⟩ := hrel
    by_cases hlt : k < n
    · obtain ⟨bb, o, rfl, hc, hkl, hrd⟩ := (hx.out.gr hmr.below).at k hlt
      have hszx := hsz.out _ (getD_mem xs k ro0 hkl)
      have htk : xs.take (k + 1) = xs.take k ++ [xs.getD k ro0] := by rw [List.take_succ_eq_append_getElem hkl]; simp [hkl]
      generalize xs.getD k ro0 = x at hc hrd hszx htk
      have hcp := copyObject_ok w wr _ hmr x ⟨hrd⟩ hszx.1 hszx.2
      replace hcp := Fact.mk hcp
      replace hc := Fact.mk hc
      replace htk := Fact.mk htk
      go_wp2_with (refine wp_rng rfl 71 _ rfl bb (o + k * 6) rfl (cRO x) hc.out row_O sz_O ?_)
      refine hcp.out.mono ?_
      rintro e w2 ⟨y, rfl, hyo, hm3⟩
      clear hmr hcp
      replace hyo := Fact.mk hyo
      go_wp2_with (first | (refine wp_setrow rfl 71 _ _ rfl w2.heap.size rfl 71 _ (cRO y) rfl (hm3.alloc (.cells (obC 0 none 0 0 none 0 0 0 0 false).toArray 71)) sz_O rfl (cRO_one y) ?_; intro w4 hm4) | (refine wp_rng rfl 71 _ rfl w2.heap.size 0 rfl [.int .i64 y.ob.kind, .slice y.A y.ob.items.length y.c, .slice y.KA y.ob.keys.length y.kc, .int .i64 y.ob.fn, .int .i64 y.ob.cap, .bool y.ob.shut] (rng_blk hm4 m0) row_O sz_O ?_) | (at_builtin; refine wp_app rfl _ _ _ rfl 71 iO _ 6 80 ty_Os hiO hz0 hz1 hz2 rfl B k d _ rfl (hm4.alloc _).pull3 _ 1 1 [.int .i64 y.ob.kind, .slice y.A y.ob.items.length y.c, .slice y.KA y.ob.keys.length y.kc, .int .i64 y.ob.fn, .int .i64 y.ob.cap, .bool y.ob.shut] rfl (RdC.lit _ _ _ _ _ rfl (by simp [maxLen]) (cRO_one y)) (by unfold maxLen; omega) (by omega) ?_; intro A5 c5 w5 hm5))
      have hz : Mem w w5 (Own 6 (.slice A5 (k + 1) c5) ((ys ++ [y]).flatMap cRO) :: ((ys ++ [y]).map RoC ++ [])) := by
        have h1 := hm5.sub (List.Sublist.cons_cons _ ((List.sublist_cons_self _ _).trans (List.sublist_cons_self _ _)))
        have e1 : (ys ++ [y]).flatMap cRO = ys.flatMap cRO ++ cRO y := by simp
        have e2 : (ys ++ [y]).map RoC ++ [] = ys.map RoC ++ RoC y :: [] := by simp
        rw [e1, e2]
        exact h1.perm (List.perm_middle.symm.cons _)
      go_roundw
      case rel => exact ⟨k + 1, A5, c5, ys ++ [y], by go_num, by omega, rfl, ⟨by rw [htk.out, List.map_append, List.map_append, hys.out]; simp [hyo.out]⟩, hz⟩
      case measure => exact measP_lt hlt
    · obtain rfl : k = n := by omega
      rw [List.take_of_length_le (by rw [hl.out]; exact Nat.le_refl _)] at hys
      go_wp2
      go_ret
      refine ⟨B, d, rfl, ys, hys.out, ?_⟩
      have := hm.join hmr
      simpa using this
/-- Whether objects make a heap, as the document says it. -/
def loadB (l : List Ob) : Bool := l.all (refB l)
theorem refB_eq (l : List Ob) (o : Ob) : refB l o = (madeB o && (limB o && o.items.all (rightV l))) := by
  unfold refB tabB madeB limB rightKeysB
  by_cases h6 : o.kind = 6
  · simp only [h6, if_true]
    rw [show decide ((o.items.length : Int) ≤ 4096) = decide (o.items.length ≤ 4096) from decide_eq_decide.2 (by omega)]
    have e : (((o.keys.length : Int) == 0) : Bool) = (o.keys.length == 0) := by rw [Bool.eq_iff_iff]; simp
    rw [e]
    cases o.items.all (rightV l) <;> cases decide (o.items.length ≤ 4096) <;> cases (o.keys.length == 0) <;> cases (o.cap == 0 && !o.shut) <;> cases (o.fn == 0) <;> rfl
  by_cases h8 : o.kind = 8
  · simp only [h8, if_true]
    rw [show decide ((o.items.length : Int) ≤ 4096) = decide (o.items.length ≤ 4096) from decide_eq_decide.2 (by omega)]
    have e : (((o.keys.length : Int) == 0) : Bool) = (o.keys.length == 0) := by rw [Bool.eq_iff_iff]; simp
    rw [e, if_neg (by decide), if_neg (by decide), if_neg (by decide), if_neg (by decide)]
    cases o.items.all (rightV l) <;> cases decide (o.items.length ≤ 4096) <;> cases (o.keys.length == 0) <;> cases (o.cap == 0 && !o.shut) <;> cases decide (0 ≤ o.fn) <;> rfl
  by_cases h9 : o.kind = 9
  · simp only [h9]
    have e : (((o.keys.length : Int) == 0) : Bool) = (o.keys.length == 0) := by rw [Bool.eq_iff_iff]; simp
    rw [e]
    simp only [show ¬ (9 : Int) = 6 by decide, show ¬ (9 : Int) = 7 by decide, show ¬ (9 : Int) = 8 by decide, if_false, if_true]
    cases o.items.all (rightV l) <;> cases decide ((o.items.length : Int) ≤ o.cap) <;> cases (o.keys.length == 0) <;> cases decide (1 ≤ o.cap) <;> cases decide (o.cap ≤ 64) <;> cases (o.fn == 0) <;> rfl
  by_cases h7 : o.kind = 7
  · simp only [h7]
    have e : (((o.keys.length : Int) == o.items.length) : Bool) = (o.keys.length == o.items.length) := by rw [Bool.eq_iff_iff]; simp; omega
    rw [e]
    simp only [show ¬ (7 : Int) = 6 by decide, show ¬ (7 : Int) = 9 by decide, show ¬ (7 : Int) = 8 by decide, if_false, if_true]
    cases o.items.all (rightV l) <;> cases decide (o.keys.length ≤ 256) <;> cases (o.keys.length == o.items.length) <;> cases o.keys.all (fun k => decide (0 ≤ k)) <;> cases decide o.keys.Nodup <;> cases (o.cap == 0 && !o.shut) <;> cases (o.fn == 0) <;> rfl
  · simp [h6, h7, h8, h9]
theorem madeB_kind {o : Ob} (h : madeB o = true) : o.kind = 6 ∨ o.kind = 7 ∨ o.kind = 8 ∨ o.kind = 9 := by
  unfold madeB at h
  by_cases h6 : o.kind = 6
  · exact .inl h6
  by_cases h8 : o.kind = 8
  · exact .inr (.inr (.inl h8))
  by_cases h9 : o.kind = 9
  · exact .inr (.inr (.inr h9))
  by_cases h7 : o.kind = 7
  · exact .inr (.inl h7)
  rw [if_neg h6, if_neg h8, if_neg h9, if_neg h7] at h
  cases h
theorem load_eq (l : List Ob) : loadP l = loadB l := by
  unfold loadP loadB
  cases hm : l.all madeB with
  | false =>
    rw [Bool.false_and]
    symm
    rw [List.all_eq_false] at hm ⊢
    obtain ⟨o, ho, hn⟩ := hm
    refine ⟨o, ho, ?_⟩
    rw [refB_eq]
    simp only [Bool.not_eq_true] at hn
    rw [hn, Bool.false_and]
    decide
  | true =>
    rw [Bool.true_and]
    have hk : ∀ o, o ∈ l → o.kind = 6 ∨ o.kind = 7 ∨ o.kind = 8 ∨ o.kind = 9 := fun o ho => madeB_kind (List.all_eq_true.1 hm o ho)
    have hp : rightP l = rightV l := funext fun v => rightP_eq hk v
    rw [hp, Bool.eq_iff_iff, List.all_eq_true, List.all_eq_true]
    constructor
    · intro h o ho
      rw [refB_eq, List.all_eq_true.1 hm o ho, Bool.true_and]
      exact h o ho
    · intro h o ho
      have := h o ho
      rw [refB_eq, Bool.and_eq_true] at this
      exact this.2
def RLoadQ (w0 : World) (L : List Chunk) (b s : Int) (l : List Ob) (e : Ending) (w : World) : Prop :=
  (loadB l = true ∧ ∃ r : Rf, r.abs = ⟨b, s, l⟩ ∧ r.Ok ∧ e = .returned (.tuple #[.pointer (some ⟨r.g, 0, none⟩), .bool true]) ∧ Mem w0 w (RfC r :: L)) ∨ (loadB l = false ∧ e = .returned (.tuple #[.pointer none, .bool false]) ∧ Mem w0 w L)
theorem refLoad_ok (w0 w : World) (L : List Chunk) (hm : Mem w0 w L) (b s : Int) (hb : b ≤ 9223372036854775807) (hs : s ≤ 9223372036854775807) (A : Option Addr) (n c : Nat) (xs : List RO) (hx : Fact (ObsR w A n c xs)) (hn : n ≤ 2097152)
    (hsz : ∀ x, x ∈ xs → x.ob.items.length ≤ 1048576 ∧ x.ob.keys.length ≤ 1048576) (hwf : ∀ x, x ∈ xs → ∀ v, v ∈ x.ob.items → -9223372036854775808 ≤ v.2 ∧ v.2 ≤ 9223372036854775807) :
    Calls Try.prog 57 #[.int .i64 b, .int .i64 s, .slice A n c] w fun e w' => RLoadQ w0 L (max b 0) (max s 0) (xs.map (·.ob)) e w' := by
  have hl := Fact.mk hx.out.len
  replace hsz := Fact.mk hsz
  replace hwf := Fact.mk hwf
  obtain ⟨obs, hobs⟩ : ∃ obs, xs.map (·.ob) = obs := ⟨_, rfl⟩
  have hol : Fact (obs.length = n) := ⟨by rw [← hobs, List.length_map]; exact hl.out⟩
  have hoa : Fact (∀ k, k < n → obs.getD k ob0 = (xs.getD k ro0).ob) := ⟨fun k hk => by rw [← hobs]; simp [show k < xs.length by rw [hl.out]; exact hk]⟩
  have hright := fun (W : World) (hg : Gr w W) (k : Nat) (hk : k < n) => refRightO_ok W A n c xs ⟨hx.out.gr hg⟩ hn (xs.getD k ro0) ⟨hx.out.gr hg |>.at k hk |>.choose_spec.choose_spec.2.2.2⟩ (hsz.out _ (getD_mem xs k ro0 (by rw [hl.out]; exact hk))).1 (hsz.out _ (getD_mem xs k ro0 (by rw [hl.out]; exact hk))).2 (hwf.out _ (getD_mem xs k ro0 (by rw [hl.out]; exact hk)))
  rw [hobs] at hright ⊢
  replace hobs := Fact.mk hobs
  replace hright := Fact.mk hright
  go_enter Try.func57, Try.ntmps57
  go_wp2
  go_loopw [8] (fun s8 W => ∃ k : Nat, s8 = .int .i64 k ∧ k ≤ n ∧ Fact ((obs.take k).all (refB obs) = true) ∧ Gr w W) (fun s8 _ => n - (intOf s8).toNat)
  case atStart => exact ⟨0, rfl, by omega, ⟨rfl⟩, Gr.refl w⟩
  case round =>
    obtain ⟨k, rfl, hk, hall, hgr⟩ := hrel
    by_cases hlt : k < n
    · have hr := hright.out wr hgr k hlt
      obtain ⟨bb, o, rfl, hc, hkl, hrd⟩ := (hx.out.gr hgr).at k hlt
      have hsn := take_all (refB obs) obs k ob0 (by rw [hol.out]; exact hlt)
      have hno := take_all_no (p := refB obs) (xs := obs) (k := k) (d := ob0) (by rw [hol.out]; exact hlt)
      rw [hoa.out k hlt] at hsn hno
      generalize xs.getD k ro0 = x at hr hc hrd hsn hno
      replace hc := Fact.mk hc
      cases hv : refB obs x.ob with
      | false =>
        have hfin : Fact (loadB obs = false) := ⟨hno hv⟩
        rw [hv] at hr
        replace hr := Fact.mk hr
        clear hno hsn hv
        go_wp2_with (refine wp_rng rfl 71 _ rfl bb (o + k * 6) rfl (cRO x) hc.out row_O sz_O ?_)
        refine hr.out.mono ?_
        rintro e w2 ⟨rfl, hg2⟩
        go_wp2
        go_ret2
        exact .inr ⟨hfin.out, rfl, hm.gr (Gr.trans hgr hg2)⟩
      | true =>
        rw [hv, hall.out] at hsn
        rw [hv] at hr
        replace hr := Fact.mk hr
        replace hsn := Fact.mk hsn
        clear hno hv
        go_wp2_with (refine wp_rng rfl 71 _ rfl bb (o + k * 6) rfl (cRO x) hc.out row_O sz_O ?_)
        refine hr.out.mono ?_
        rintro e w2 ⟨rfl, hg2⟩
        go_wp2
        go_roundw
        case rel => exact ⟨k + 1, by go_num, by omega, ⟨hsn.out⟩, Gr.trans hgr hg2⟩
        case measure => exact measP_lt hlt
    · obtain rfl : k = n := by omega
      rw [List.take_of_length_le (by rw [hol.out]; exact Nat.le_refl _)] at hall
      have hfin : Fact (loadB obs = true) := ⟨hall.out⟩
      go_wp2_with fail
      refine (refNew_ok wr wr [] (Mem.start wr) b s).mono ?_
      rintro e w3 ⟨g, rfl, hm3⟩
      have hcp := copyObjects_ok wr w3 _ hm3 A k c xs ⟨hx.out.gr (Gr.trans hgr hm3.below)⟩ hn hsz.out
      replace hcp := Fact.mk hcp
      go_wp2_with fail
      refine hcp.out.mono ?_
      rintro e w4 ⟨A4, c4, ys, rfl, hys, hm4⟩
      clear hcp hm3
      rw [hobs.out] at hys
      have hyl : ys.length = k := by rw [← hol.out, ← hys, List.length_map]
      replace hys := Fact.mk hys
      replace hyl := Fact.mk hyl
      have hm5 : Mem wr w4 (Blk g (.cells [.int .i64 (max b 0), .int .i64 (max s 0), .slice none 0 0].toArray 57) :: Own 6 (.slice none 0 0) [] :: Own 6 (.slice A4 k c4) (ys.flatMap cRO) :: (ys.map RoC ++ [])) := by
        have h1 : Mem wr w4 (RfC ⟨g, max b 0, max s 0, none, 0, []⟩ :: (Own 6 (.slice A4 k c4) (ys.flatMap cRO) :: ys.map RoC ++ [])) := Mem.mid (A := Own 6 (.slice A4 k c4) (ys.flatMap cRO) :: ys.map RoC) hm4
        exact Mem.opn h1
      clear hm4
      go_wp2_with (refine wp_setat rfl 42 _ _ rfl g 2 rfl 57 _ [.slice A4 k c4] [.int .i64 (max b 0), .int .i64 (max s 0), .slice A4 k c4] (.slice A4 k c4) rfl rfl hm5 sz_Os (by simp) (one_one rfl) rfl ?_; intro w6 hm6)
      go_ret2
      have hz : Mem wr w6 (RfC ⟨g, max b 0, max s 0, A4, c4, ys⟩ :: []) := by
        have h1 := hm6.drop2
        refine Mem.sht (Rf.chunks ⟨g, max b 0, max s 0, A4, c4, ys⟩) ?_
        unfold Rf.chunks Rf.cells
        simp only [hyl.out]
        exact h1
      refine .inl ⟨hfin.out, ⟨g, max b 0, max s 0, A4, c4, ys⟩, by unfold Rf.abs; rw [hys.out], ⟨fun x hxm => ?_, by simp only [hyl.out]; omega, by show (0 : Int) ≤ max b 0; omega, by show max b 0 ≤ _; omega, by show (0 : Int) ≤ max s 0; omega, by show max s 0 ≤ _; omega⟩, rfl, (hm.gr hgr).join hz⟩
      have h1 : x.ob ∈ obs := by rw [← hys.out]; exact List.mem_map_of_mem hxm
      rw [← hobs.out] at h1
      obtain ⟨z, hz1, hz2⟩ := List.mem_map.1 h1
      rw [← hz2]
      exact hsz.out z hz1
end Go.Proofs.Ytpibchjkmaghnaa
namespace Go.Proofs.Ytpibchjkmaghnaa
open Go.RowKit Go.Mm
set_option maxHeartbeats 8000000
set_option maxRecDepth 100000
set_option linter.unusedSimpArgs false
theorem sz_ST : (Try.prog.info? 44).map (·.size) = some 3 := by kernel_rfl
theorem row_ST : (Try.prog.underlying 44).map (·.isRow) = some true := by kernel_rfl
theorem inf_Vs : (Try.prog.info? 30).map (fun i => (i.zero, i.size, i.bytes)) = some (some (.slice none 0 0), 1, 24) := by kernel_rfl
theorem ty_VVs : Try.prog.underlying 113 = some (.slice 30) := by kernel_rfl
def stC (b s : Int) (A : Option Addr) (n c : Nat) : List Value := [.int .i64 b, .int .i64 s, .slice A n c]
/-- A list lent: marks behind it. -/
def roomV (y : RO) : Value := .slice y.A (y.ob.items.length + 64) y.c
def LentC (y : RO) : Chunk := Chunk.all [Own 2 (roomV y) (fV (y.ob.items ++ marksV 64)), Own 1 (.slice y.KA y.ob.keys.length y.kc) (nums .i64 y.ob.keys)]
theorem LentC.room {y : RO} {w : World} (h : (LentC y).ok w) : RdC w 2 (.slice y.A (y.ob.items.length + 64) y.c) (fV (y.ob.items ++ marksV 64)) := (h.1 _ (.head _) : OwnAt _ _ _ w).rd
theorem LentC.reads {y : RO} {w : World} (h : (LentC y).ok w) : y.reads w := ⟨rd_pre cV_len (LentC.room h) rfl, (h.1 _ (.tail _ (.head _)) : OwnAt _ _ _ w).rd⟩
theorem roomV_one (y : RO) : One [roomV y] := one_one rfl
theorem mem_in2 {w0 w : World} {h a b d : Chunk} {M X : List Chunk} (hm : Mem w0 w (h :: a :: b :: (M ++ d :: X))) : Mem w0 w (a :: b :: (M ++ d :: (h :: X))) := by
  have hp : (h :: (M ++ d :: X)).Perm (M ++ d :: (h :: X)) := by
    have := (List.perm_middle (a := h) (l₁ := M ++ [d]) (l₂ := X)).symm
    simpa using this
  exact hm.back2.swap.swap.pull2.back2.perm ((hp.cons _).cons _)
/-- What the document's and the program's Load say, of one outcome. -/
def TwoQ (w : World) (L : List Chunk) (b s : Int) (l : List Ob) (e : Ending) (w' : World) : Prop :=
  (loadB l = true ∧ ∃ (h : Hp) (r : Rf), h.abs = ⟨b, s, l⟩ ∧ r.abs = h.abs ∧ h.Ok ∧ r.Ok ∧ e = .returned (.tuple #[.pointer (some ⟨h.g, 0, none⟩), .pointer (some ⟨r.g, 0, none⟩), .bool true]) ∧ Mem w w' (HpC h :: RfC r :: L)) ∨
  (loadB l = false ∧ e = .returned (.tuple #[.pointer none, .pointer none, .bool true]) ∧ Mem w w' L)
theorem splice2_len {C : List Value} {q n : Nat} (a b : Value) (hC : C.length = n * 2) (hq : q < n) : (C.take (q * 2) ++ [a, b] ++ C.drop (q * 2 + 2)).length = n * 2 := by
  simp only [List.length_append, List.length_take, List.length_drop, List.length_cons, List.length_nil, hC]; omega
theorem splice2_le {C : List Value} {q n : Nat} {a b : Value} (hC : C.length = n * 2) (hq : q < n) : q * 2 + [a, b].length ≤ C.length := by
  rw [hC]; simp only [List.length_cons, List.length_nil]; omega
theorem splice1_len {C : List Value} {q n : Nat} (a : Value) (hC : C.length = n) (hq : q < n) : (C.take q ++ [a] ++ C.drop (q + 1)).length = n := by
  simp only [List.length_append, List.length_take, List.length_drop, List.length_cons, List.length_nil, hC]; omega
theorem splice1_le {C : List Value} {q n : Nat} {a : Value} (hC : C.length = n) (hq : q < n) : q + [a].length ≤ C.length := by
  rw [hC]; simp only [List.length_cons, List.length_nil]; omega
theorem both_ok (w0 w : World) (L : List Chunk) (hm : Mem w0 w L) (b s : Int) (hb : b ≤ 9223372036854775807) (hs : s ≤ 9223372036854775807) (A : Option Addr) (n c : Nat) (xs : List RO) (hx : Fact (ObsR w A n c xs)) (hn : n ≤ 1048576)
    (hsz : Fact (∀ x, x ∈ xs → x.ob.items.length ≤ 1048576 ∧ x.ob.keys.length ≤ 1048576)) (hwf : Fact (∀ x, x ∈ xs → (∀ k, k ∈ x.ob.keys → (Lit.int .i64 k).wf = true) ∧ ∀ v, v ∈ x.ob.items → -9223372036854775808 ≤ v.2 ∧ v.2 ≤ 9223372036854775807)) :
    Calls Try.prog 21 #[.agg (stC b s A n c).toArray] w fun e w' => TwoQ w0 L (max b 0) (max s 0) (xs.map (·.ob)) e w' := by
  obtain ⟨iO, hiO, oz0, oz1, oz2⟩ := info_parts inf_O
  obtain ⟨iS, hiS, sz0, sz1, sz2⟩ := info_parts inf_Vs
  have hl := Fact.mk hx.out.len
  have hrl := fun (W : World) (M : List Chunk) (hg : Mem w W M) => refLoad_ok w W M hg b s hb hs A n c xs ⟨hx.out.gr hg.below⟩ (by omega) hsz.out (fun x hxm => (hwf.out x hxm).2)
  have hpl := fun (W : World) (M : List Chunk) (hg : Mem w W M) (Ai : Option Addr) (ci : Nat) (ys : List RO) (hys : ys.map (·.ob) = xs.map (·.ob)) (hyr : ObsR W Ai n ci ys) => load_ok w W M hg b s hb hs Ai n ci ys ⟨hyr⟩ (by omega)
    (fun y hy => by
      have : y.ob ∈ xs.map (·.ob) := by rw [← hys]; exact List.mem_map_of_mem hy
      obtain ⟨x, hx1, hx2⟩ := List.mem_map.1 this
      rw [← hx2]; exact hsz.out x hx1)
    (fun y hy => by
      have : y.ob ∈ xs.map (·.ob) := by rw [← hys]; exact List.mem_map_of_mem hy
      obtain ⟨x, hx1, hx2⟩ := List.mem_map.1 this
      rw [← hx2]; exact (hwf.out x hx1).1)
  have hfin : Fact (∀ e w', TwoQ w [] (max b 0) (max s 0) (xs.map (·.ob)) e w' → TwoQ w0 L (max b 0) (max s 0) (xs.map (·.ob)) e w') := ⟨fun e w' h => by
    rcases h with ⟨h1, h, r, h2, h3, h4, h5, h6, h7⟩ | ⟨h1, h2, h3⟩
    · exact .inl ⟨h1, h, r, h2, h3, h4, h5, h6, hm.join h7⟩
    · exact .inr ⟨h1, h2, hm.gr h3.below⟩⟩
  refine Calls.mono (R := fun e w' => TwoQ w [] (max b 0) (max s 0) (xs.map (·.ob)) e w') ?_ hfin.out
  clear hfin hm
  replace hrl := Fact.mk hrl
  replace hpl := Fact.mk hpl
  have hx1 := (Mem.start w).alloc (.cells (stC b s A n c).toArray 44)
  unfold stC at hx1 ⊢
  go_enter Try.func21, Try.ntmps21
  go_upto_region 1 with (fail)
  generalize hgb : w.heap.size = gb at hx1 ⊢
  generalize hw1 : w.alloc (.cells [.int .i64 b, .int .i64 s, .slice A n c].toArray 44) = w1 at hx1
  try refine wp_world hw1 ?_
  clear hw1 hgb
  have s0 := hx1.cell m0 0 rfl
  have s1 := hx1.cell m0 1 rfl
  have s2 := hx1.cell m0 2 rfl
  go_wp2_with fail
  refine (hrl.out w1 _ hx1).mono ?_
  intro e w2 hq
  obtain ⟨may, rv, X, rfl, hmay, hm2⟩ : ∃ (may : Bool) (rv : Value) (X : List Chunk), e = .returned (.tuple #[rv, .bool may]) ∧ Fact (may = loadB (xs.map (·.ob)) ∧ ((may = true ∧ ∃ r : Rf, r.abs = ⟨max b 0, max s 0, xs.map (·.ob)⟩ ∧ r.Ok ∧ rv = .pointer (some ⟨r.g, 0, none⟩) ∧ X = [RfC r]) ∨ (may = false ∧ rv = .pointer none ∧ X = []))) ∧ Mem w w2 (Blk gb (.cells [.int .i64 b, .int .i64 s, .slice A n c].toArray 44) :: X) := by
    rcases hq with ⟨h1, r, h2, h3, rfl, h4⟩ | ⟨h1, rfl, h4⟩
    · exact ⟨true, _, [RfC r], rfl, ⟨h1.symm, .inl ⟨rfl, r, h2, h3, rfl, rfl⟩⟩, h4.swap⟩
    · exact ⟨false, _, [], rfl, ⟨h1.symm, .inr ⟨rfl, rfl, rfl⟩⟩, h4⟩
  clear hq hrl hx1 s0 s1 s2
  go_wp2
  go_loopw [7, 8, 9] (fun s7 s8 s9 W => ∃ (k : Nat) (Ai : Option Addr) (ci : Nat) (Ar : Option Addr) (cr : Nat) (ys : List RO), s9 = .int .i64 k ∧ k ≤ n ∧ s7 = .slice Ai k ci ∧ s8 = .slice Ar k cr ∧ Fact (ys.map (·.ob) = (xs.take k).map (·.ob)) ∧ Mem w W (Own 6 (.slice Ai k ci) (ys.flatMap cRO) :: Own 1 (.slice Ar k cr) (ys.map roomV) :: (ys.map LentC ++ (Blk gb (.cells [.int .i64 b, .int .i64 s, .slice A n c].toArray 44) :: X)))) (fun _ _ s9 _ => n - (intOf s9).toNat)
  case atStart => exact ⟨0, none, 0, none, 0, [], rfl, by omega, rfl, rfl, ⟨rfl⟩, Mem.nil (Mem.nil hm2 1 none) 6 none⟩
  case round =>
    obtain ⟨k, Ai, ci, Ar, cr, ys, rfl, hk, rfl, rfl, hys, hmr⟩ := hrel
    clear hm2
    have s2 := hmr.cell (.tail _ (.tail _ (List.mem_append_right _ (.head _)))) 2 rfl
    by_cases hlt : k < n
    · obtain ⟨bb, o, hA, hc, hkl, hrd⟩ := (hx.out.gr hmr.below).at k hlt
      have hszx := hsz.out _ (getD_mem xs k ro0 hkl)
      have htk : xs.take (k + 1) = xs.take k ++ [xs.getD k ro0] := by rw [List.take_succ_eq_append_getElem hkl]; simp [hkl]
      have hcells : Fact (∀ W, Gr w W → W.cell? ⟨bb, o + k * 6 + 2, none⟩ = some (.slice (xs.getD k ro0).KA (xs.getD k ro0).ob.keys.length (xs.getD k ro0).kc) ∧ (xs.getD k ro0).reads W) := ⟨fun W hW => by
        obtain ⟨bb', o', hA', hc', _, hrd'⟩ := (hx.out.gr hW).at k hlt
        rw [hA] at hA'
        cases hA'
        exact ⟨hc' 2 _ rfl, hrd'⟩⟩
      generalize xs.getD k ro0 = x at hc hrd hszx htk hcells
      rw [hA] at s2
      replace hc := Fact.mk hc
      replace htk := Fact.mk htk
      replace hA := Fact.mk hA
      go_upto_region 8 with (first | (refine wp_rng rfl 71 _ rfl bb (o + k * 6) rfl (cRO x) hc.out row_O sz_O ?_) | (refine wp_setrow rfl 71 _ _ rfl wr.heap.size rfl 71 _ (cRO x) rfl (hmr.alloc (.cells (obC 0 none 0 0 none 0 0 0 0 false).toArray 71)) sz_O rfl (cRO_one x) ?_; intro w5 hm5))
      generalize wr.heap.size = g10 at hm5 ⊢
      clear hmr s2
      have z1 := hm5.cell m0 1 rfl
      go_wp2_with fail
      refine (lentValues_ok w5 x.A x.ob.items.length x.c x.ob.items ⟨(hcells.out w5 hm5.below).2.1⟩ (by omega)).mono ?_
      rintro e w6 ⟨B, d, rfl, hn6⟩
      have hm6 := hm5.new hn6
      clear hm5 hn6 z1 hrd
      have hcap := OwnAt.cap (hm6.ok _ m0)
      have hcap1 : x.ob.items.length ≤ d := by omega
      obtain ⟨bg, bo, hB⟩ := OwnAt.addr (hm6.ok _ m0) (by omega)
      subst hB
      have z1 := hm6.cell m1 1 rfl
      go_upto_region 11 with (first | (at_builtin; refine wp_app rfl _ _ _ rfl 30 iS _ 1 24 ty_VVs hiS sz0 sz1 sz2 rfl Ar k cr _ rfl (hm6.alloc _).pull4 _ 1 1 [.slice (some ⟨bg, bo, none⟩) (x.ob.items.length + 64) d] rfl (RdC.lit _ _ _ _ _ rfl (by simp [maxLen]) (one_one rfl)) (by unfold maxLen; omega) (by omega) ?_; intro A7 c7 w7 HM7; have hm7 := HM7.drop2.pull2; have z7 := hm7.cell m0 1 rfl) | (refine wp_setat rfl 30 _ _ rfl g10 1 rfl 71 _ [.slice (some ⟨bg, bo, none⟩) x.ob.items.length d] (obC x.ob.kind (some ⟨bg, bo, none⟩) x.ob.items.length d x.KA x.ob.keys.length x.kc x.ob.fn x.ob.cap x.ob.shut) (.slice (some ⟨bg, bo, none⟩) x.ob.items.length d) rfl rfl hm7 sz_Vs (by simp [cRO, obC]) (one_one rfl) rfl ?_; intro w8 hm8))
      clear HM7 hm6 hm7 z1 z7
      have s2 := hm8.cell (.tail _ (.tail _ (.tail _ (.tail _ (List.mem_append_right _ (.head _)))))) 2 rfl
      rw [hA.out] at s2
      have f2 := (hcells.out w8 hm8.below).1
      go_wp2_with fail
      refine (copyLongs_ok w8 x.KA x.ob.keys.length x.kc x.ob.keys ⟨(hcells.out w8 hm8.below).2.2⟩ (by omega)).mono ?_
      rintro e w9 ⟨K9, c9, rfl, hn9⟩
      have hm9 := hm8.new hn9
      clear hm8 hn9 s2 f2
      obtain ⟨y, hy⟩ : ∃ y : RO, y = ⟨some ⟨bg, bo, none⟩, d, K9, c9, x.ob⟩ := ⟨_, rfl⟩
      have hyc : obC x.ob.kind (some ⟨bg, bo, none⟩) x.ob.items.length d K9 x.ob.keys.length c9 x.ob.fn x.ob.cap x.ob.shut = cRO y := by rw [hy]; rfl
      go_upto_region 12 with (refine wp_setat rfl 50 _ _ rfl g10 2 rfl 71 _ [.slice K9 x.ob.keys.length c9] (obC x.ob.kind (some ⟨bg, bo, none⟩) x.ob.items.length d K9 x.ob.keys.length c9 x.ob.fn x.ob.cap x.ob.shut) (.slice K9 x.ob.keys.length c9) rfl rfl hm9.swap sz_Is (by simp [obC]) (one_one rfl) rfl ?_; intro w10 hm10)
      clear hm9
      go_wp2_with (first | (refine wp_rng rfl 71 _ rfl g10 0 rfl [.int .i64 x.ob.kind, .slice (some ⟨bg, bo, none⟩) x.ob.items.length d, .slice K9 x.ob.keys.length c9, .int .i64 x.ob.fn, .int .i64 x.ob.cap, .bool x.ob.shut] (rng_blk hm10 m0) row_O sz_O ?_) | (at_builtin; refine wp_app rfl _ _ _ rfl 71 iO _ 6 80 ty_Os hiO oz0 oz1 oz2 rfl Ai k ci _ rfl (hm10.alloc _).pull5 _ 1 1 [.int .i64 x.ob.kind, .slice (some ⟨bg, bo, none⟩) x.ob.items.length d, .slice K9 x.ob.keys.length c9, .int .i64 x.ob.fn, .int .i64 x.ob.cap, .bool x.ob.shut] rfl (RdC.lit _ _ _ _ _ rfl (by simp [maxLen]) (obC_one _ _ _ _ _ _ _ _ _ _)) (by unfold maxLen; omega) (by omega) ?_; intro A11 c11 w11 HM11))
      have hz : Mem w w11 (Own 6 (.slice A11 (k + 1) c11) ((ys ++ [y]).flatMap cRO) :: Own 1 (.slice A7 (k + 1) c7) ((ys ++ [y]).map roomV) :: ((ys ++ [y]).map LentC ++ (Blk gb (.cells [.int .i64 b, .int .i64 s, .slice A n c].toArray 44) :: X))) := by
        have h1 := HM11.drop2.drop2
        have e1 : (ys ++ [y]).flatMap cRO = ys.flatMap cRO ++ cRO y := by simp
        have e2 : (ys ++ [y]).map roomV = ys.map roomV ++ [.slice (some ⟨bg, bo, none⟩) (x.ob.items.length + 64) d] := by rw [List.map_append, hy]; rfl
        have e3 : (ys ++ [y]).map LentC ++ (Blk gb (.cells [.int .i64 b, .int .i64 s, .slice A n c].toArray 44) :: X) = ys.map LentC ++ LentC y :: (Blk gb (.cells [.int .i64 b, .int .i64 s, .slice A n c].toArray 44) :: X) := by simp
        rw [e1, e2, e3, ← hyc]
        have h4 : Mem w w11 (LentC y :: Own 6 (.slice A11 (k + 1) c11) (ys.flatMap cRO ++ obC x.ob.kind (some ⟨bg, bo, none⟩) x.ob.items.length d K9 x.ob.keys.length c9 x.ob.fn x.ob.cap x.ob.shut) :: Own 1 (.slice A7 (k + 1) c7) (ys.map roomV ++ [.slice (some ⟨bg, bo, none⟩) (x.ob.items.length + 64) d]) :: (ys.map LentC ++ (Blk gb (.cells [.int .i64 b, .int .i64 s, .slice A n c].toArray 44) :: X))) := by
          have h5 := h1.pull3.perm ((List.Perm.swap _ _ _).cons _)
          rw [hy]
          exact Mem.sht [Own 2 (roomV ⟨some ⟨bg, bo, none⟩, d, K9, c9, x.ob⟩) (fV (x.ob.items ++ marksV 64)), Own 1 (.slice K9 x.ob.keys.length c9) (nums .i64 x.ob.keys)] h5
        exact h4.back2.perm ((List.perm_middle.symm.cons _).cons _)
      go_roundw
      case rel => exact ⟨k + 1, A11, c11, A7, c7, ys ++ [y], by go_num, by omega, rfl, rfl, ⟨by rw [htk.out, List.map_append, List.map_append, hys.out, hy]; rfl⟩, hz⟩
      case measure => exact measP_lt hlt
    · obtain rfl : k = n := by omega
      rw [List.take_of_length_le (by rw [hl.out]; exact Nat.le_refl _)] at hys
      have hyl : ys.length = k := by rw [← hl.out]; have := congrArg List.length hys.out; simpa using this
      have hld := hpl.out wr _ hmr Ai ci ys hys.out ⟨hmr.rd m0, fun y hy => LentC.reads (hmr.ok _ (.tail _ (.tail _ (List.mem_append_left _ (List.mem_map_of_mem hy)))))⟩
      rw [hys.out] at hld
      replace hld := Fact.mk hld
      have s0 := hmr.cell (.tail _ (.tail _ (List.mem_append_right _ (.head _)))) 0 rfl
      have s1 := hmr.cell (.tail _ (.tail _ (List.mem_append_right _ (.head _)))) 1 rfl
      go_wp2_with fail
      refine hld.out.mono ?_
      intro e w12 hq
      clear hld hpl s0 s1 s2
      have hmay2 := hmay.out.1
      obtain ⟨hv, Y, rfl, hhv, hm13⟩ : ∃ (hv : Value) (Y : List Chunk), e = .returned (.tuple #[hv, .bool may]) ∧ Fact ((may = true ∧ ∃ h : Hp, h.abs = ⟨max b 0, max s 0, xs.map (·.ob)⟩ ∧ h.Ok ∧ hv = .pointer (some ⟨h.g, 0, none⟩) ∧ Y = [HpC h]) ∨ (may = false ∧ hv = .pointer none ∧ Y = [])) ∧ Mem w w12 (Own 6 (.slice Ai k ci) (ys.flatMap cRO) :: Own 1 (.slice Ar k cr) (ys.map roomV) :: (ys.map LentC ++ (Blk gb (.cells [.int .i64 b, .int .i64 s, .slice A k c].toArray 44) :: (Y ++ X)))) := by
        rcases hq with ⟨h1, h, h2, h3, rfl, h4⟩ | ⟨h1, rfl, h4⟩
        · rw [load_eq] at h1
          rw [hmay2, h1]
          refine ⟨_, [HpC h], rfl, ⟨.inl ⟨rfl, h, h2, h3, rfl, rfl⟩⟩, ?_⟩
          exact mem_in2 h4
        · rw [load_eq] at h1
          rw [hmay2, h1]
          exact ⟨_, [], rfl, ⟨.inr ⟨rfl, rfl, rfl⟩⟩, h4⟩
      clear hmr hq
      have hneq : ∀ W, (binOp .neq 24 hv (.pointer none)).run Try.prog W = .ok (.bool may) W := by
        rcases hhv.out with ⟨h1, h, _, _, h2, _⟩ | ⟨h1, h2, _⟩ <;> rw [h1, h2] <;> intro W <;> first | rfl | kernel_rfl
      have hneg : ∀ (x y : Operand) W, (eqGuard .neq 24 x y hv (.pointer none)).run Try.prog W = .ok () W := by
        rcases hhv.out with ⟨h1, h, _, _, h2, _⟩ | ⟨h1, h2, _⟩ <;> rw [h2] <;> intro x y W <;> first | rfl | kernel_rfl
      have s2 := hm13.cell (.tail _ (.tail _ (List.mem_append_right _ (.head _)))) 2 rfl
      replace hyl := Fact.mk hyl
      replace hmay2 := Fact.mk hmay2
      have hobB : Fact (∀ y, y ∈ ys → y.ob.items.length ≤ 1048576 ∧ y.ob.keys.length ≤ 1048576) := ⟨fun y hy => by
        have : y.ob ∈ xs.map (·.ob) := by rw [← hys.out]; exact List.mem_map_of_mem hy
        obtain ⟨x, hx1, hx2⟩ := List.mem_map.1 this
        rw [← hx2]; exact hsz.out x hx1⟩
      go_wp2_with fail
      refine (sameObjects_ok w12 Ai A k ci c ys xs ⟨⟨hm13.rd m0, fun y hy => LentC.reads (hm13.ok _ (.tail _ (.tail _ (List.mem_append_left _ (List.mem_map_of_mem hy)))))⟩⟩ ⟨hx.out.gr hm13.below⟩ ⟨hys.out⟩ ⟨fun y hy => by have := hobB.out y hy; omega⟩ (by omega)).mono ?_
      rintro e w14 ⟨rfl, hg14⟩
      have hm14 := hm13.gr hg14
      clear hm13 hg14 s2
      go_wp2
      clear hneq hneg
      go_loopw [14] (fun s14 W => ∃ (i : Nat) (zs : List RO), s14 = .int .i64 i ∧ i ≤ k ∧ Fact (zs.length = k ∧ ∀ j, i ≤ j → zs.getD j ro0 = ys.getD j ro0) ∧ Mem w W (Own 6 (.slice Ai k ci) (zs.flatMap cRO) :: Own 1 (.slice Ar k cr) (ys.map roomV) :: ((ys.drop i).map LentC ++ (Blk gb (.cells [.int .i64 b, .int .i64 s, .slice A k c].toArray 44) :: (Y ++ X))))) (fun s14 _ => k - (intOf s14).toNat)
      case atStart => exact ⟨0, ys, rfl, by omega, ⟨hyl.out, fun _ _ => rfl⟩, hm14⟩
      case round =>
        obtain ⟨i, zs, rfl, hi, hzs, hmq⟩ := hrel
        clear hm14
        by_cases hit : i < k
        · have hyi : i < ys.length := by rw [hyl.out]; exact hit
          have hdr : ys.drop i = ys.getD i ro0 :: ys.drop (i + 1) := by rw [List.drop_eq_getElem_cons hyi]; simp [hyi]
          rw [hdr, List.map_cons, List.cons_append] at hmq
          have hzi := hzs.out.2 i (Nat.le_refl _)
          have hyx : (xs.getD i ro0).ob = (ys.getD i ro0).ob := by
            have h := congrArg (fun l => l.getD i ob0) hys.out
            simpa [hyi, show i < xs.length by rw [hl.out]; exact hit] using h.symm
          obtain ⟨bx, ox, hA, hcx, hxl, hrx⟩ := (hx.out.gr hmq.below).at i hit
          have hbd := hobB.out _ (getD_mem ys i ro0 hyi)
          obtain ⟨br, orr, c0, hAr, h1, h2, _⟩ := (hmq.rd m1).at1 i hit
          have h3 : c0 = roomV (ys.getD i ro0) := by
            rw [List.getElem?_map, List.getElem?_eq_getElem hyi] at h2
            simpa [hyi] using h2.symm
          have hz30 : ∀ y', (∀ j, i + 1 ≤ j → (zs.set i y').getD j ro0 = ys.getD j ro0) := fun y' j hj => by
            rw [← hzs.out.2 j (by omega), List.getD_eq_getElem?_getD, List.getElem?_set_ne (by omega), ← List.getD_eq_getElem?_getD]
          generalize ys.getD i ro0 = y at hmq hzi hyx hbd h3
          generalize xs.getD i ro0 = x at hyx hcx hrx
          rw [h3] at h1
          have f1 : wr.cell? ⟨bx, ox + i * 6 + 1, none⟩ = some (.slice x.A y.ob.items.length x.c) := by rw [← hyx]; exact hcx 1 _ rfl
          have hrx1 : RdC wr 2 (.slice x.A y.ob.items.length x.c) (fV y.ob.items) := by rw [← hyx]; exact hrx.1
          have s2 := hmq.cell (.tail _ (.tail _ (.tail _ (List.mem_append_right _ (.head _))))) 2 rfl
          rw [hA] at s2
          replace hA := Fact.mk hA
          replace hAr := Fact.mk hAr
          replace hz30 := Fact.mk hz30
          replace hzi := Fact.mk hzi
          unfold roomV at h1
          rw [hAr.out]
          clear hcx hrx hxl h2 h3 hyx hdr
          go_wp2_with fail
          refine (keptValues_ok wr y.A y.ob.items.length y.c x.A x.c y.ob.items ⟨LentC.room (hmq.ok _ m2)⟩ ⟨hrx1⟩ (by omega)).mono ?_
          rintro e w16 ⟨rfl, hg16⟩
          have hm17 := (hmq.gr hg16).pull2
          clear hmq hg16 s2 f1 h1 hrx1
          obtain ⟨Z, hZ⟩ : ∃ Z, Z = Own 6 (.slice Ai k ci) (zs.flatMap cRO) :: Own 1 (.slice Ar k cr) (ys.map roomV) :: ((ys.drop (i + 1)).map LentC ++ (Blk gb (.cells [.int .i64 b, .int .i64 s, .slice A k c].toArray 44) :: (Y ++ X))) := ⟨_, rfl⟩
          have hm18 : Mem w w16 (Own 2 (.slice y.A (y.ob.items.length + 64) y.c) (fV (y.ob.items ++ marksV 64)) :: Own 1 (.slice y.KA y.ob.keys.length y.kc) (nums .i64 y.ob.keys) :: Z) := by rw [hZ]; exact Mem.opn hm17
          clear hm17
          have hcap := OwnAt.cap (hm18.ok _ m0)
          obtain ⟨bg, bo, hB⟩ := OwnAt.addr (hm18.ok _ m0) (by omega)
          rw [hB] at hm18
          have hCl : (fV (y.ob.items ++ marksV 64)).length = (y.ob.items.length + 64) * 2 := OwnAt.len (hm18.ok _ m0)
          rw [hB]
          clear hB
          generalize fV (y.ob.items ++ marksV 64) = C0 at hm18 hCl
          go_wp2
          go_loopw [16] (fun s16 W => ∃ (q : Nat) (C : List Value), s16 = .int .i64 q ∧ q ≤ y.ob.items.length + 64 ∧ C.length = (y.ob.items.length + 64) * 2 ∧ Mem w W (Own 2 (.slice (some ⟨bg, bo, none⟩) (y.ob.items.length + 64) y.c) C :: Own 1 (.slice y.KA y.ob.keys.length y.kc) (nums .i64 y.ob.keys) :: Z)) (fun s16 _ => y.ob.items.length + 64 - (intOf s16).toNat)
          case atStart => exact ⟨0, C0, rfl, by omega, hCl, hm18⟩
          case round =>
            obtain ⟨q, C, rfl, hq, hC, hmw⟩ := hrel
            clear hm18 hCl
            by_cases hqt : q < y.ob.items.length + 64
            · have hC' := Fact.mk (splice2_len (.int .i64 77) (.int .i64 5) hC hqt)
              have hq2 := Fact.mk (splice2_le (a := .int .i64 77) (b := .int .i64 5) hC hqt)
              replace hC := Fact.mk hC
              go_wp2_with (refine wp_ownrow rfl 27 _ _ rfl (bo + q * 2) (q * 2) rfl rfl [.int .i64 77, .int .i64 5] rfl hmw sz_V hq2.out (cV_one (77, 5)) ?_; intro w19 hm19)
              go_roundw
              case rel => exact ⟨q + 1, _, by go_num, hqt, hC'.out, hm19⟩
              case measure => exact measP_lt hqt
            · have hqf : ((q : Int) < (y.ob.items.length : Int) + 64) = False := eq_false (by omega)
              clear hq hqt
              have hm20 := hmw.tail
              clear hmw hC
              have hK0 : (nums .i64 y.ob.keys).length = y.ob.keys.length := by simp
              generalize nums .i64 y.ob.keys = K0 at hm20 hK0
              go_wp2
              clear hqf
              go_loopw [17] (fun s17 W => ∃ (p : Nat) (C : List Value), s17 = .int .i64 p ∧ p ≤ y.ob.keys.length ∧ C.length = y.ob.keys.length ∧ Mem w W (Own 1 (.slice y.KA y.ob.keys.length y.kc) C :: Z)) (fun s17 _ => y.ob.keys.length - (intOf s17).toNat)
              case atStart => exact ⟨0, K0, rfl, by omega, hK0, hm20⟩
              case round =>
                obtain ⟨p, C, rfl, hq, hC, hmv⟩ := hrel
                clear hm20 hK0
                rw [hZ] at hmv
                obtain ⟨bi, oi, hAi, hci, _, _⟩ := rd_at cRO_len (by omega) ro0 (hmv.rd m1) i hit
                rw [hzi.out] at hci
                have f2 : wr.cell? ⟨bi, oi + i * 6 + 2, none⟩ = some (.slice y.KA y.ob.keys.length y.kc) := hci 2 _ rfl
                clear hci
                by_cases hqt : p < y.ob.keys.length
                · have hq2 := Fact.mk (splice1_le (a := .int .i64 (1000 - (p : Int))) hC hqt)
                  have hC' := Fact.mk (splice1_len (.int .i64 (1000 - (p : Int))) hC hqt)
                  have hq5 : (p : Int) ≤ 1048576 := by have := hbd.2; omega
                  have hcap2 := OwnAt.cap (hmv.ok _ m0)
                  obtain ⟨bk, ok, hKA⟩ := OwnAt.addr (hmv.ok _ m0) (by omega)
                  rw [hKA] at hmv f2
                  replace hKA := Fact.mk hKA
                  clear hcap2 hC
                  rw [hAi]
                  replace hAi := Fact.mk hAi
                  go_wp2_with (refine wp_ownat rfl 2 _ _ rfl (ok + p) p rfl rfl [.int .i64 (1000 - (p : Int))] _ rfl rfl hmv sz_i64 hq2.out (one_one rfl) ?_; intro w21 hm21)
                  try rw [← hAi.out]
                  go_roundw
                  case rel => exact ⟨p + 1, _, by go_num, hqt, hC'.out, by rw [hZ, hKA.out]; exact hm21⟩
                  case measure => exact measP_lt hqt
                · obtain rfl : p = y.ob.keys.length := by omega
                  have hmu := hmv.tail
                  clear hmv hC
                  rw [hAi] at hmu
                  obtain ⟨y', hy'⟩ : ∃ y' : RO, y' = { y with ob := { y.ob with kind := 77 } } := ⟨_, rfl⟩
                  have hfs := flat_set zs i (by rw [hzs.out.1]; exact hit) y' 0 [.int .i64 77] (by simp) (by rw [hzi.out, hy']; rfl)
                  replace hfs := Fact.mk hfs
                  have hfl := Fact.mk (show i * 6 + 0 + [(.int .i64 77 : Value)].length ≤ (zs.flatMap cRO).length by rw [flat_len, hzs.out.1]; simp only [List.length_singleton]; omega)
                  rw [hAi]
                  replace hAi := Fact.mk hAi
                  clear hy'
                  go_wp2_with (refine wp_ownat rfl 3 _ _ rfl (oi + i * 6) (i * 6 + 0) rfl rfl [.int .i64 77] _ rfl rfl hmu sz_int hfl.out (one_one rfl) ?_; intro w22 hm22)
                  try rw [← hAi.out]
                  try rw [← hAr.out]
                  go_roundw
                  case rel => exact ⟨i + 1, zs.set i y', by go_num, hit, ⟨by rw [List.length_set]; exact hzs.out.1, hz30.out y'⟩, by rw [← hfs.out, hAi.out]; exact hm22⟩
                  case measure => exact measP_lt hit
        · obtain rfl : i = k := by omega
          rw [List.drop_of_length_le (by rw [hyl.out]; exact Nat.le_refl _)] at hmq
          have hmz : Mem w wr (Y ++ X) := hmq.tail.tail.tail
          clear hmq
          rcases hhv.out with ⟨h1, h, ha, hok, h2, h3⟩ | ⟨h1, h2, h3⟩
          · rcases hmay.out.2 with ⟨_, r, hra, rok, h5, h6⟩ | ⟨h4, _⟩
            · rw [h3, h6] at hmz
              rw [h1, h2, h5]
              have hmb : loadB (xs.map (·.ob)) = true := by rw [← hmay2.out, h1]
              have habs : r.abs = h.abs := by rw [ha, hra]
              have hal := alike_ok w wr [] h r hmz ⟨hok⟩ ⟨rok⟩ ⟨by rw [habs]⟩ (congrArg Hs.spent habs)
              replace hal := Fact.mk hal
              replace hmb := Fact.mk hmb
              replace ha := Fact.mk ha
              replace habs := Fact.mk habs
              clear h1 h2 h3 h5 h6 hra hmay hmay2 hhv
              go_wp2_with fail
              refine hal.out.mono ?_
              rintro e w30 ⟨rfl, hm30⟩
              go_wp2
              go_ret3
              exact .inl ⟨hmb.out, h, r, ha.out, habs.out, hok, rok, rfl, hm30⟩
            · rw [h1] at h4; cases h4
          · rw [h1]
            have hmb : Fact (loadB (xs.map (·.ob)) = false) := ⟨by rw [← hmay2.out, h1]⟩
            rcases hmay.out.2 with ⟨h4, _⟩ | ⟨_, h5, h6⟩
            · rw [h1] at h4; cases h4
            · rw [h3, h6] at hmz
              clear h1 h2 h3 h5 h6 hmay hmay2 hhv
              go_wp2
              go_ret3
              exact .inr ⟨hmb.out, rfl, hmz⟩
end Go.Proofs.Ytpibchjkmaghnaa
namespace Go.Proofs.Ytpibchjkmaghnaa
open Go.RowKit Go.Mm Go.WideShapes Go.ChangeShapes
set_option maxHeartbeats 1000000
set_option maxRecDepth 100000
theorem struct_of {P : Program} {t : TypeId} {fl : List (TypeId × Nat)} (h : fieldsOf P t = some fl) : ∃ fs, P.underlying t = some (.struct fs) := by
  unfold fieldsOf at h
  split at h
  · rename_i fs hfs; exact ⟨fs, hfs⟩
  · cases h
theorem wf_rng {n : Int} (h : (Lit.int .i64 n).wf = true) : -9223372036854775808 ≤ n ∧ n ≤ 9223372036854775807 := by
  simpa [Lit.wf, IntKind.has, IntKind.min, IntKind.max, IntKind.signed, IntKind.bits] using h
def cN (k : Int) : List Value := [.int .i64 k]
theorem flat_nums (ks : List Int) : ks.flatMap cN = nums .i64 ks := by
  induction ks with
  | nil => rfl
  | cons a ks ih => rw [List.flatMap_cons, ih]; rfl
theorem list6 {α : Type} {l : List α} (h : l.length = 6) : ∃ a b c d e f, l = [a, b, c, d, e, f] := by
  match l with
  | [a, b, c, d, e, f] => exact ⟨a, b, c, d, e, f, rfl⟩
section
variable {H : Type} {enc : TypeId × Value → H} {w : World}
theorem fl_O : fieldsOf Try.prog 71 = some [(3, 0), (30, 1), (50, 2), (3, 3), (3, 4), (4, 5)] := by kernel_rfl
theorem fl_ST : fieldsOf Try.prog 44 = some [(3, 0), (3, 1), (42, 2)] := by kernel_rfl
theorem co_Is : Try.prog.cellsOf 50 = 1 := by kernel_rfl
theorem co_O : Try.prog.cellsOf 71 = 6 := by kernel_rfl
theorem co_Os : Try.prog.cellsOf 42 = 1 := by kernel_rfl
theorem co_bool : Try.prog.cellsOf 4 = 1 := by kernel_rfl
theorem co_ST : Try.prog.cellsOf 44 = 3 := by kernel_rfl
theorem hel_Vw (fuel : Nat) (cs : List Value) (d : DataW H) (ps : List MemPlace) (h : DataW.trod enc Try.prog w 0 (fun _ => true) true fuel 27 cs = some (d, ps)) : ∃ x, cs = cV x ∧ (Lit.int .i64 x.2).wf = true := by
  obtain ⟨xs, n, rfl, hl, hx, hi⟩ := open_struct fl_V h
  rw [co_V] at hl
  obtain ⟨a, b, rfl⟩ := list2 hl
  obtain ⟨⟨d1, p1⟩, ⟨d2, p2⟩, rfl⟩ := list2 hx
  have h1 := hi 0 _ _ rfl
  have h2 := hi 1 _ _ rfl
  rw [co_int] at h1
  rw [co_i64] at h2
  obtain ⟨x, rfl, _⟩ := open_i ty_int h1
  obtain ⟨y, rfl, _, hw⟩ := open_i ty_i64 h2
  exact ⟨(x, y), rfl, hw⟩
theorem hel_N (fuel : Nat) (cs : List Value) (d : DataW H) (ps : List MemPlace) (h : DataW.trod enc Try.prog w 0 (fun _ => true) true fuel 2 cs = some (d, ps)) : ∃ x, cs = cN x ∧ (Lit.int .i64 x).wf = true := by
  obtain ⟨n, rfl, _, hw⟩ := DataW.trod_int ty_i64 h
  exact ⟨n, rfl, hw⟩
/-- What is known of an object that came in. -/
def InOk (w : World) (b : Nat) (x : RO) : Prop := x.reads w ∧ x.ob.items.length + 2 ≤ b ∧ x.ob.keys.length + 2 ≤ b ∧ (∀ k, k ∈ x.ob.keys → (Lit.int .i64 k).wf = true) ∧ ∀ v, v ∈ x.ob.items → -9223372036854775808 ≤ v.2 ∧ v.2 ≤ 9223372036854775807
theorem hel_O (fuel : Nat) (cs : List Value) (d : DataW H) (ps : List MemPlace) (h : DataW.trod enc Try.prog w 0 (fun _ => true) true fuel 71 cs = some (d, ps)) : ∃ x, cs = cRO x ∧ InOk w (Rows.uptoBulk d) x := by
  obtain ⟨xs, n, rfl, hl, hx, hi⟩ := open_struct fl_O h
  rw [co_O] at hl
  obtain ⟨a, b, c, e, f, g, rfl⟩ := list6 hl
  obtain ⟨⟨d1, p1⟩, ⟨d2, p2⟩, ⟨d3, p3⟩, ⟨d4, p4⟩, ⟨d5, p5⟩, ⟨d6, p6⟩, rfl⟩ := list6 hx
  have h1 := hi 0 _ _ rfl
  have h2 := hi 1 _ _ rfl
  have h3 := hi 2 _ _ rfl
  have h4 := hi 3 _ _ rfl
  have h5 := hi 4 _ _ rfl
  have h6 := hi 5 _ _ rfl
  rw [co_int] at h1 h4 h5
  rw [co_Vs] at h2
  rw [co_Is] at h3
  rw [co_bool] at h6
  obtain ⟨x1, rfl, _⟩ := open_i ty_int h1
  obtain ⟨x4, rfl, _⟩ := open_i ty_int h4
  obtain ⟨x5, rfl, _⟩ := open_i ty_int h5
  obtain ⟨A, m, k, zs, e2, r2, l2, g2⟩ := open_cells (cV) (fun _ x => (Lit.int .i64 x.2).wf = true) 2 (by omega) ty_Vs co_V (fun x => ⟨cV_len x, cV_one x⟩) hel_Vw h2
  obtain ⟨B, m', k', us, e3, r3, l3, g3⟩ := open_cells (cN) (fun _ x => (Lit.int .i64 x).wf = true) 1 (by omega) ty_Is co_i64 (fun x => ⟨rfl, one_one rfl⟩) hel_N h3
  obtain ⟨x6, e6, _⟩ := DataW.trod_bool ty_bool h6
  replace e2 : [b] = [.slice A m k] := e2
  replace e3 : [c] = [.slice B m' k'] := e3
  replace e6 : [g] = [.bool x6] := e6
  simp only [List.cons.injEq, and_true] at e2 e3 e6
  subst e2 e3 e6
  subst l2 l3
  rw [flat_nums] at r3
  have b2 := cells_len g2
  have b3 := cells_len g3
  have q2 := bulk_part (d := d2) (xs := [d1, d2, d3, d4, d5, d6]) (by simp)
  have q3 := bulk_part (d := d3) (xs := [d1, d2, d3, d4, d5, d6]) (by simp)
  refine ⟨⟨A, k, B, k', ⟨x1, zs, us, x4, x5, x6⟩⟩, rfl, ⟨r2, r3⟩, ?_, ?_, fun z hz => (cells_each g3 hz).elim fun y hy => hy.1, fun v hv => wf_rng ((cells_each g2 hv).elim fun y hy => hy.1)⟩
  · show zs.length + 2 ≤ _; simp at q2 ⊢; omega
  · show us.length + 2 ≤ _; simp at q3 ⊢; omega
theorem hel_HOw (fuel : Nat) (cs : List Value) (d : DataW H) (ps : List MemPlace) (h : DataW.trod enc Try.prog w 0 (fun _ => true) true fuel 32 cs = some (d, ps)) : ∃ x, cs = cHO x ∧ (Lit.int .i64 x.I).wf = true := by
  obtain ⟨xs, n, rfl, hl, hx, hi⟩ := open_struct fl_HO h
  rw [co_HO] at hl
  obtain ⟨a, b, c, e, f, g, x, y, z, rfl⟩ := list9 hl
  obtain ⟨⟨d1, p1⟩, ⟨d2, p2⟩, ⟨d3, p3⟩, ⟨d4, p4⟩, ⟨d5, p5⟩, ⟨d6, p6⟩, ⟨d7, p7⟩, rfl⟩ := list7 hx
  have h1 := hi 0 _ _ rfl
  have h2 := hi 1 _ _ rfl
  have h3 := hi 2 _ _ rfl
  have h4 := hi 3 _ _ rfl
  have h5 := hi 4 _ _ rfl
  have h6 := hi 5 _ _ rfl
  have h7 := hi 6 _ _ rfl
  rw [co_int] at h1 h2 h6
  rw [co_V] at h3 h4
  rw [co_i64] at h5
  rw [co_Vs] at h7
  obtain ⟨x1, rfl, _⟩ := open_i ty_int h1
  obtain ⟨x2, rfl, _⟩ := open_i ty_int h2
  obtain ⟨x3, e3, _⟩ := hel_V _ _ _ _ h3
  obtain ⟨x4, e4, _⟩ := hel_V _ _ _ _ h4
  obtain ⟨x5, rfl, _, hw⟩ := open_i ty_i64 h5
  obtain ⟨x6, rfl, _⟩ := open_i ty_int h6
  obtain ⟨A, m, k, zs, e7, _, _, _⟩ := open_cells (cV) (fun _ _ => True) 2 (by omega) ty_Vs co_V (fun x => ⟨cV_len x, cV_one x⟩) hel_V h7
  replace e3 : [c, e] = cV x3 := e3
  replace e4 : [f, g] = cV x4 := e4
  replace e7 : [z] = [.slice A m k] := e7
  simp only [cV, List.cons.injEq, and_true] at e3 e4 e7
  obtain ⟨rfl, rfl⟩ := e3
  obtain ⟨rfl, rfl⟩ := e4
  subst e7
  exact ⟨⟨x1, x2, x3, x4, x5, x6, A, m, k, zs⟩, rfl, hw⟩
theorem hel_HO2 (fuel : Nat) (cs : List Value) (d : DataW H) (ps : List MemPlace) (h : DataW.trod enc Try.prog w 0 (fun _ => true) true fuel 32 cs = some (d, ps)) : ∃ x, cs = cHO x ∧ ((RdC w 2 (.slice x.A x.n x.c) (fV x.items) ∧ x.n + 2 ≤ Rows.uptoBulk d) ∧ (Lit.int .i64 x.I).wf = true) := by
  obtain ⟨x, hx, h1⟩ := hel_HO fuel cs d ps h
  obtain ⟨y, hy, h2⟩ := hel_HOw fuel cs d ps h
  rw [hx] at hy
  simp only [cHO, List.cons.injEq, Value.int.injEq, true_and] at hy
  refine ⟨x, hx, h1, ?_⟩
  rw [hy.2.2.2.2.2.2.1]
  exact h2
/-- A script that came in. -/
theorem open_script {v : Value} {d : DataW H} {p : List MemPlace} {base : Nat} (h : DataW.Trod enc Try.prog w 0 (fun _ => true) true 22 v d p) (ok : Value.okWide Try.prog w .any base 22 v) (hb : Rows.uptoBulk d ≤ 1048576) :
    ∃ (A : Option Addr) (n c : Nat) (ops : List HOp), v = .slice A n c ∧ RdC w 9 (.slice A n c) (ops.flatMap cHO) ∧ OpsOk w ops ∧ n + 1 ≤ Rows.uptoBulk d := by
  obtain ⟨A, n, c, xs, rfl, hr, hl, hd⟩ := open_list cHO (fun d x => (RdC w 2 (.slice x.A x.n x.c) (fV x.items) ∧ x.n + 2 ≤ Rows.uptoBulk d) ∧ (Lit.int .i64 x.I).wf = true) 9 (by omega) ty_HOs co_HO (fun x => ⟨cHO_len x, cHO_one x⟩) hel_HO2 h ok
  refine ⟨A, n, c, xs, rfl, hr, fun f hf => ?_, cells_len hd⟩
  obtain ⟨y, hy, hb'⟩ := cells_each hd hf
  exact ⟨hy.1.1, by have := hy.1.2; omega, hy.2⟩
/-- How a heap begins, as it came in. -/
structure StOk (w : World) (b s : Int) (A : Option Addr) (n c : Nat) (xs : List RO) : Prop where
  hb : b ≤ 9223372036854775807
  hs : s ≤ 9223372036854775807
  rd : ObsR w A n c xs
  hn : n ≤ 1048576
  sz : ∀ x, x ∈ xs → x.ob.items.length ≤ 1048576 ∧ x.ob.keys.length ≤ 1048576
  wf : ∀ x, x ∈ xs → (∀ k, k ∈ x.ob.keys → (Lit.int .i64 k).wf = true) ∧ ∀ v, v ∈ x.ob.items → -9223372036854775808 ≤ v.2 ∧ v.2 ≤ 9223372036854775807
theorem open_start {v : Value} {d : DataW H} {p : List MemPlace} {base : Nat} (h : DataW.Trod enc Try.prog w 0 (fun _ => true) true 44 v d p) (ok : Value.okWide Try.prog w .any base 44 v) (hb : Rows.uptoBulk d ≤ 1048576) :
    ∃ (b s : Int) (A : Option Addr) (n c : Nat) (xs : List RO), v = .agg (stC b s A n c).toArray ∧ StOk w b s A n c xs := by
  obtain ⟨fs, hfs⟩ := struct_of fl_ST
  obtain ⟨cs, rfl, hcs⟩ := okWide_struct hfs ok
  obtain ⟨fuel, hfu⟩ := h
  obtain ⟨xs, n, rfl, hl, hx, hi⟩ := open_struct fl_ST hfu
  rw [co_ST] at hl
  obtain ⟨a, b, c, e⟩ := list3 hl
  rw [e] at hi
  obtain ⟨⟨d1, p1⟩, ⟨d2, p2⟩, ⟨d3, p3⟩, rfl⟩ := list3 hx
  have h1 := hi 0 _ _ rfl
  have h2 := hi 1 _ _ rfl
  have h3 := hi 2 _ _ rfl
  rw [co_int] at h1 h2
  rw [co_Os] at h3
  obtain ⟨x1, rfl, _, hw1⟩ := open_i ty_int h1
  obtain ⟨x2, rfl, _, hw2⟩ := open_i ty_int h2
  obtain ⟨A, m, k, zs, e3, r3, l3, g3⟩ := open_cells (cRO) (fun d x => InOk w (Rows.uptoBulk d) x) 6 (by omega) ty_Os co_O (fun x => ⟨cRO_len x, cRO_one x⟩) hel_O h3
  have e6 : c = .slice A m k := by simpa using e3
  clear e3
  subst e6
  have b3 := cells_len g3
  have q3 := bulk_part (d := d3) (xs := [d1, d2, d3]) (by simp)
  simp only [List.map_cons, List.map_nil] at hb
  refine ⟨x1, x2, A, m, k, zs, ?_, ⟨(wf_rng hw1).2, (wf_rng hw2).2, ⟨r3, fun x hxm => ?_⟩, by omega, fun x hxm => ?_, fun x hxm => ?_⟩⟩
  · have : cs.toList = [.int .i64 x1, .int .i64 x2, .slice A m k] := by simpa [Value.cells] using e
    show Value.agg cs = Value.agg _
    congr 1
    exact Array.toList_inj.1 (by simpa [stC] using this)
  · exact (cells_each g3 hxm).elim fun y hy => hy.1.1
  · obtain ⟨y, hy, hb2⟩ := cells_each g3 hxm
    have h4 := hy.2.1
    have h5 := hy.2.2.1
    omega
  · exact (cells_each g3 hxm).elim fun y hy => hy.1.2.2.2
end
end Go.Proofs.Ytpibchjkmaghnaa
namespace Go.Proofs.Ytpibchjkmaghnaa
open Go.RowKit Go.Mm
theorem load_few {l : List Ob} (h : loadB l = true) (b s : Int) : (⟨b, s, l⟩ : Hs).Few := fun o ho => by
  have hr := List.all_eq_true.1 h o ho
  rw [refB_eq, Bool.and_eq_true, Bool.and_eq_true] at hr
  have hl := hr.2.1
  unfold limB at hl
  refine ⟨fun h9 => ?_, fun h7 => ?_⟩
  · simp only [h9, show ¬ (9 : Int) = 6 by decide, show ¬ (9 : Int) = 7 by decide, show ¬ (9 : Int) = 8 by decide, if_false, Bool.and_eq_true, decide_eq_true_eq] at hl
    exact hl.1.2
  · simp only [h7, show ¬ (7 : Int) = 6 by decide, if_false, if_true, decide_eq_true_eq] at hl
    exact hl
end Go.Proofs.Ytpibchjkmaghnaa
namespace Go.Proofs.Ytpibchjkmaghnaa
open Go.RowKit Go.Mm
set_option maxHeartbeats 1000000
set_option maxRecDepth 100000
/-- What values name and was not met yet is put behind what was met. -/
def meetL (l : List Ob) : List Nat → List V2 → List Nat
  | out, [] => out
  | out, v :: vs => match nm l v with
    | some i => if i ∈ out then meetL l out vs else meetL l (out ++ [i]) vs
    | none => meetL l out vs
/-- The list of what was met is gone through from number i. -/
def reachL (l : List Ob) : Nat → Nat → List Nat → List Nat
  | 0, _, out => out
  | f + 1, i, out => if i < out.length then reachL l f (i + 1) (meetL l out (l.getD (out.getD i 0) ob0).items) else out
def reachR (l : List Ob) (vs : List V2) : List Nat := reachL l (l.length + 1) 0 (meetL l [] vs)
/-- What is met: each once, each of an object. -/
def MetOk (l : List Ob) (out : List Nat) : Prop := out.Nodup ∧ ∀ i, i ∈ out → i < l.length
theorem nm_lt {l : List Ob} {v : V2} {i : Nat} (h : nm l v = some i) : i < l.length ∧ v.2 = i := by
  unfold nm at h
  split at h
  · rename_i q
    cases h
    obtain ⟨q0, q1, _⟩ := q
    exact ⟨by omega, by omega⟩
  · cases h
theorem meetL_ok (l : List Ob) (vs : List V2) : ∀ (out : List Nat), MetOk l out → MetOk l (meetL l out vs) := by
  induction vs with
  | nil => exact fun out h => h
  | cons v vs ih =>
    intro out h
    unfold meetL
    cases hn : nm l v with
    | none => exact ih out h
    | some i =>
      simp only
      by_cases q : i ∈ out
      · rw [if_pos q]; exact ih out h
      · rw [if_neg q]
        refine ih _ ⟨?_, fun j hj => ?_⟩
        · rw [List.nodup_append]
          exact ⟨h.1, by simp, fun a ha b hb => by simp at hb; subst hb; exact fun e => q (by rw [← e]; exact ha)⟩
        · rcases List.mem_append.1 hj with hj | hj
          · exact h.2 j hj
          · simp at hj; subst hj; exact (nm_lt hn).1
theorem meetL_grow (l : List Ob) (vs : List V2) : ∀ (out : List Nat), out.length ≤ (meetL l out vs).length := by
  induction vs with
  | nil => exact fun out => Nat.le_refl _
  | cons v vs ih =>
    intro out
    unfold meetL
    cases nm l v with
    | none => exact ih out
    | some i =>
      simp only
      split
      · exact ih out
      · have := ih (out ++ [i])
        rw [List.length_append] at this
        simp only [List.length_singleton] at this
        omega
theorem nodup_len : ∀ (n : Nat) (out : List Nat), out.Nodup → (∀ i, i ∈ out → i < n) → out.length ≤ n
  | 0, out, _, h => by
    cases out with
    | nil => exact Nat.le_refl _
    | cons a l => exact absurd (h a (by simp)) (by omega)
  | n + 1, out, hd, h => by
    by_cases q : n ∈ out
    · have h1 := nodup_len n (out.erase n) (hd.erase n) (fun i hi => by
        have h2 := (List.Nodup.mem_erase_iff hd).1 hi
        have h3 := h i h2.2
        have h4 := h2.1
        omega)
      rw [List.length_erase_of_mem q] at h1
      omega
    · have h1 := nodup_len n out hd (fun i hi => by
        have h3 := h i hi
        have h4 : i ≠ n := fun e => q (by rw [← e]; exact hi)
        omega)
      omega
theorem MetOk.len {l : List Ob} {out : List Nat} (h : MetOk l out) : out.length ≤ l.length := nodup_len _ _ h.1 h.2
theorem meetL_snoc (l : List Ob) (vs : List V2) (v : V2) : ∀ (out : List Nat), meetL l out (vs ++ [v]) = match nm l v with | some i => if i ∈ meetL l out vs then meetL l out vs else meetL l out vs ++ [i] | none => meetL l out vs := by
  induction vs with
  | nil =>
    intro out
    show meetL l out [v] = _
    unfold meetL
    cases nm l v <;> rfl
  | cons u vs ih =>
    intro out
    rw [List.cons_append]
    unfold meetL
    cases nm l u with
    | none => exact ih out
    | some j =>
      simp only
      by_cases q : j ∈ out
      · rw [if_pos q, if_pos q]; exact ih out
      · rw [if_neg q, if_neg q]; exact ih _
theorem reachL_step (l : List Ob) (i : Nat) (out : List Nat) (hi : i < out.length) (hl : i < l.length) : reachL l (l.length + 1 - i) i out = reachL l (l.length + 1 - (i + 1)) (i + 1) (meetL l out (l.getD (out.getD i 0) ob0).items) := by
  rw [show l.length + 1 - i = (l.length + 1 - (i + 1)) + 1 by omega]
  conv => lhs; unfold reachL
  rw [if_pos hi]
theorem reachL_end (l : List Ob) (f i : Nat) (out : List Nat) (hi : out.length ≤ i) : reachL l f i out = out := by
  cases f with
  | zero => rfl
  | succ f => unfold reachL; rw [if_neg (by omega)]
theorem reachL_ok (l : List Ob) : ∀ (f i : Nat) (out : List Nat), MetOk l out → MetOk l (reachL l f i out) := by
  intro f
  induction f with
  | zero => exact fun i out h => h
  | succ f ih =>
    intro i out h
    unfold reachL
    split
    · exact ih _ _ (meetL_ok l _ out h)
    · exact h
theorem reachR_ok (l : List Ob) (vs : List V2) : MetOk l (reachR l vs) := reachL_ok l _ _ _ (meetL_ok l vs [] ⟨List.nodup_nil, fun i h => by cases h⟩)
/-- Numbers, as they lie in memory. -/
def outV (out : List Nat) : List Value := nums .i64 (out.map Int.ofNat)
/-- Which of n were met. -/
def metV (n : Nat) (out : List Nat) : List Value := (List.range n).map fun i => .bool (decide (i ∈ out))
theorem metV_len (n : Nat) (out : List Nat) : (metV n out).length = n := by simp [metV]
theorem metV_at (n : Nat) (out : List Nat) (i : Nat) (h : i < n) : (metV n out)[i]? = some (.bool (decide (i ∈ out))) := by simp [metV, h]
theorem metV_one (n : Nat) (out : List Nat) : One (metV n out) := fun u hu => by
  simp only [metV, List.mem_map] at hu
  obtain ⟨i, _, rfl⟩ := hu
  rfl
theorem metV_set (n : Nat) (out : List Nat) (i : Nat) (h : i < n) : (metV n out).take i ++ [.bool true] ++ (metV n out).drop (i + 1) = metV n (out ++ [i]) := by
  have e : (metV n out).take i ++ [.bool true] ++ (metV n out).drop (i + 1) = (metV n out).set i (.bool true) := by
    rw [List.set_eq_take_append_cons_drop, if_pos (by rw [metV_len]; exact h)]
    simp
  rw [e]
  apply List.ext_getElem?
  intro j
  by_cases hj : j < n
  · by_cases q : i = j
    · subst q
      rw [List.getElem?_set_self (by rw [metV_len]; exact h), metV_at n _ i h]
      simp
    · rw [List.getElem?_set_ne q, metV_at n _ j hj, metV_at n _ j hj]
      have : (decide (j ∈ out)) = decide (j ∈ out ++ [i]) := by
        apply decide_eq_decide.2
        simp only [List.mem_append, List.mem_singleton]
        constructor
        · exact .inl
        · rintro (h | h)
          · exact h
          · exact absurd h.symm q
      rw [this]
  · rw [List.getElem?_eq_none (by rw [List.length_set, metV_len]; omega), List.getElem?_eq_none (by rw [metV_len]; omega)]
theorem outV_snoc (out : List Nat) (i : Nat) : outV (out ++ [i]) = outV out ++ [.int .i64 (i : Int)] := by simp [outV, nums]
theorem outV_len (out : List Nat) : (outV out).length = out.length := by simp [outV]
theorem metV_nil (n : Nat) : metV n [] = List.replicate n (.bool false) := by
  apply List.ext_getElem?
  intro j
  by_cases hj : j < n
  · rw [metV_at n [] j hj]; simp [hj]
  · rw [List.getElem?_eq_none (by rw [metV_len]; omega), List.getElem?_eq_none (by simp; omega)]
end Go.Proofs.Ytpibchjkmaghnaa
namespace Go.Proofs.Ytpibchjkmaghnaa
open Go.RowKit Go.Mm
set_option maxHeartbeats 4000000
set_option maxRecDepth 100000
set_option linter.unusedSimpArgs false
theorem inf_int : (Try.prog.info? 3).map (fun i => (i.zero, i.size, i.bytes)) = some (some (.int .i64 0), 1, 8) := by kernel_rfl
theorem inf_bool : (Try.prog.info? 4).map (fun i => (i.zero, i.size, i.bytes)) = some (some (.bool false), 1, 1) := by kernel_rfl
theorem ty_ints : Try.prog.underlying 55 = some (.slice 3) := by kernel_rfl
theorem ty_bools : Try.prog.underlying 68 = some (.slice 4) := by kernel_rfl
theorem nmB_isSome {s : Hs} (hg : s.Good) (v : V2) : nmB s.objs v = (nm s.objs v).isSome := by
  cases hn : nm s.objs v with
  | none => unfold nmB; rw [hn]; simp
  | some i => rw [(nm_good hg hn).1]; rfl
theorem take_snocV (xs : List V2) (k : Nat) (h : k < xs.length) : xs.take (k + 1) = xs.take k ++ [xs.getD k (0, 0)] := by
  rw [List.take_succ_eq_append_getElem h]; simp [h]
theorem refMeet_ok (w0 w : World) (L : List Chunk) (r : Rf) (hh : RfC r ∈ L) (hok : Fact r.Ok) (hg : Fact r.abs.Good) (S : Option Addr) (sc : Nat) (O : Option Addr) (oc : Nat) (out : List Nat) (ho : MetOk r.abs.objs out)
    (hm : Mem w0 w (Own 1 (.slice S r.xs.length sc) (metV r.xs.length out) :: Own 1 (.slice O out.length oc) (outV out) :: L)) (V : Option Addr) (m c : Nat) (vs : List V2) (hvs : Fact (∀ W, Mem w0 W L → RdC W 2 (.slice V m c) (fV vs))) (hmm : m ≤ 16777216) :
    Calls Try.prog 65 #[.slice r.A r.xs.length r.c, .slice S r.xs.length sc, .slice O out.length oc, .slice V m c] w fun e w' => ∃ (O' : Option Addr) (oc' : Nat), e = .returned (.slice O' (meetL r.abs.objs out vs).length oc') ∧ Mem w0 w' (Own 1 (.slice S r.xs.length sc) (metV r.xs.length (meetL r.abs.objs out vs)) :: Own 1 (.slice O' (meetL r.abs.objs out vs).length oc') (outV (meetL r.abs.objs out vs)) :: L) := by
  obtain ⟨iI, hiI, yz0, yz1, yz2⟩ := info_parts inf_int
  have hxl := hok.out.size
  have hvl := Fact.mk (rdV_len (hvs.out w hm.tail.tail))
  have hol := r.abs_len
  have hnames := fun (W : World) (L1 : List Chunk) (h1 : Mem w0 W L1) (h2 : RfC r ∈ L1) (v : V2) => refNames_ok W r.A r.xs.length r.c r.xs ⟨(Rf.read h1 h2).2.2.2⟩ hxl v.1 v.2
  have hiso := fun v => nmB_isSome hg.out v
  rw [show r.xs.map (·.ob) = r.abs.objs from rfl] at hnames
  have hmet := fun k => meetL_ok r.abs.objs (vs.take k) out ho
  have hml := fun k => (hmet k).len
  generalize r.abs.objs = obs at hnames hiso hmet hml hol ho ⊢
  replace hnames := Fact.mk hnames
  replace hiso := Fact.mk hiso
  replace hmet := Fact.mk hmet
  replace hml := Fact.mk hml
  replace hol := Fact.mk hol
  go_enter Try.func65, Try.ntmps65
  go_wp2
  go_loopw [2, 9] (fun s2 s9 W => ∃ (k : Nat) (O1 : Option Addr) (oc1 : Nat) (o1 : List Nat), s9 = .int .i64 k ∧ k ≤ m ∧ Fact (o1 = meetL obs out (vs.take k)) ∧ s2 = .slice O1 o1.length oc1 ∧ Mem w0 W (Own 1 (.slice S r.xs.length sc) (metV r.xs.length o1) :: Own 1 (.slice O1 o1.length oc1) (outV o1) :: L)) (fun _ s9 _ => m - (intOf s9).toNat)
  case atStart => exact ⟨0, O, oc, out, rfl, by omega, ⟨rfl⟩, rfl, hm⟩
  case round =>
    obtain ⟨k, O1, oc1, o1, rfl, hk, ho1, rfl, hmr⟩ := hrel
    clear hm
    have hl1 : o1.length ≤ 16777216 := by have h1 := hml.out k; rw [← ho1.out, hol.out] at h1; omega
    by_cases hlt : k < m
    · obtain ⟨b, o, rfl, g1, g2, _, hkl⟩ := rdV_at (hvs.out wr hmr.tail.tail) k hlt
      have hsn := meetL_snoc obs (vs.take k) (vs.getD k (0, 0)) out
      rw [← take_snocV vs k hkl, ← ho1.out] at hsn
      have hnm := hnames.out wr _ hmr (.tail _ (.tail _ hh)) (vs.getD k (0, 0))
      have his := hiso.out (vs.getD k (0, 0))
      have hcell : ∀ W, Mem w0 W L → W.cell? ⟨b, o + k * 2 + 1, none⟩ = some (.int .i64 (vs.getD k (0, 0)).2) := fun W hW => by
        obtain ⟨b', o', hb', _, k4, _, _⟩ := rdV_at (hvs.out W hW) k hlt
        cases hb'
        exact k4
      generalize vs.getD k (0, 0) = v at g1 g2 hsn hnm his hcell
      replace hcell := Fact.mk hcell
      rw [show ((v.1, v.2) : V2) = v from rfl, his] at hnm
      cases hn : nm obs v with
      | none =>
        rw [hn] at hnm hsn
        simp only [Option.isSome_none] at hnm
        replace hnm := Fact.mk hnm
        replace hsn := Fact.mk hsn
        clear his hn
        go_wp2_with (refine wp_rng rfl 27 _ rfl b (o + k * 2) rfl (cV v) (rng2 g1 g2) row_V sz_V ?_)
        refine hnm.out.mono ?_
        rintro e w2 ⟨rfl, hg2⟩
        go_wp2
        go_roundw
        case rel => exact ⟨k + 1, O1, oc1, o1, by go_num, by omega, ⟨hsn.out.symm⟩, rfl, hmr.gr hg2⟩
        case measure => exact measP_lt hlt
      | some i =>
        obtain ⟨hil, hvi⟩ := nm_lt hn
        rw [hn] at hnm hsn
        simp only [Option.isSome_some] at hnm
        simp only at hsn
        replace hnm := Fact.mk hnm
        have hir : i < r.xs.length := by rw [← hol.out]; exact hil
        have hg2' := g2
        rw [hvi] at hg2'
        replace hvi := Fact.mk hvi
        clear his hn
        go_wp2_with (refine wp_rng rfl 27 _ rfl b (o + k * 2) rfl (cV v) (rng2 g1 g2) row_V sz_V ?_)
        refine hnm.out.mono ?_
        rintro e w2 ⟨rfl, hg2⟩
        have hm2 := hmr.gr hg2
        have k2 := Gr.cell hg2 hg2'
        clear g1 g2 hg2' hmr hg2
        obtain ⟨bs, os, hS⟩ := OwnAt.addr (hm2.ok _ m0) (by have := OwnAt.cap (hm2.ok _ m0); omega)
        have hs1 : w2.cell? ⟨bs, os + i, none⟩ = some (.bool (decide (i ∈ o1))) := by
          obtain ⟨bs', os', c0, hS', h1, h2, _⟩ := (hm2.rd m0).at1 i hir
          rw [hS] at hS'
          cases hS'
          rw [metV_at _ _ i hir] at h2
          rw [h1, h2]
        rw [hS] at hm2
        rw [hS]
        replace hS := Fact.mk hS
        by_cases q : i ∈ o1
        · rw [decide_eq_true q] at hs1
          rw [if_pos q] at hsn
          replace hsn := Fact.mk hsn
          clear q
          go_wp2
          try rw [← hS.out]
          go_roundw
          case rel => exact ⟨k + 1, O1, oc1, o1, by go_num, by omega, ⟨hsn.out.symm⟩, rfl, by rw [hS.out]; exact hm2⟩
          case measure => exact measP_lt hlt
        · rw [decide_eq_false q] at hs1
          rw [if_neg q] at hsn
          replace hsn := Fact.mk hsn
          have hset := metV_set r.xs.length o1 i hir
          replace hset := Fact.mk hset
          have hsl := Fact.mk (show i + [(.bool true : Value)].length ≤ (metV r.xs.length o1).length by rw [metV_len]; simp only [List.length_singleton]; omega)
          have hgl : Fact ((o1 ++ [i]).length = o1.length + 1) := ⟨by simp⟩
          clear q
          go_wp2_with (first | (refine wp_ownat rfl 4 _ _ rfl (os + i) i rfl rfl [.bool true] _ rfl rfl hm2 sz_bool hsl.out (one_one rfl) ?_; intro w4 hm4; have k4 := hcell.out w4 hm4.tail.tail; rw [hvi.out] at k4) | (at_builtin; refine wp_app rfl _ _ _ rfl 3 iI _ 1 8 ty_ints hiI yz0 yz1 yz2 rfl O1 o1.length oc1 _ rfl (hm4.alloc _).pull2 _ 1 1 [.int .i64 (i : Int)] rfl (RdC.lit _ _ _ _ _ rfl (by simp [maxLen]) (one_one rfl)) (by unfold maxLen; omega) (by omega) ?_; intro A5 c5 w5 HM5))
          have hm6 : Mem w0 w5 (Own 1 (.slice S r.xs.length sc) (metV r.xs.length (o1 ++ [i])) :: Own 1 (.slice A5 (o1 ++ [i]).length c5) (outV (o1 ++ [i])) :: L) := by
            rw [hgl.out, ← hset.out, outV_snoc, hS.out]
            exact HM5.drop2.swap
          rw [← hgl.out]
          try rw [← hS.out]
          go_roundw
          case rel => exact ⟨k + 1, A5, c5, o1 ++ [i], by go_num, by omega, ⟨hsn.out.symm⟩, rfl, hm6⟩
          case measure => exact measP_lt hlt
    · obtain rfl : k = m := by omega
      rw [List.take_of_length_le (by rw [hvl.out]; exact Nat.le_refl _)] at ho1
      have e := ho1.out
      subst e
      go_wp2
      go_ret
      exact ⟨O1, oc1, rfl, hmr⟩
theorem Rf.items_at {w0 w : World} {L : List Chunk} {r : Rf} (hm : Mem w0 w L) (hh : RfC r ∈ L) (j : Nat) (hj : j < r.xs.length) :
    ∃ b o, r.A = some ⟨b, o, none⟩ ∧ w.cell? ⟨b, o + j * 6 + 1, none⟩ = some (.slice (r.xs.getD j ro0).A (r.xs.getD j ro0).ob.items.length (r.xs.getD j ro0).c) ∧ RdC w 2 (.slice (r.xs.getD j ro0).A (r.xs.getD j ro0).ob.items.length (r.xs.getD j ro0).c) (fV (r.xs.getD j ro0).ob.items) := by
  obtain ⟨_, _, _, hobs⟩ := Rf.read hm hh
  obtain ⟨b, o, hA, hc, _, hrd⟩ := hobs.at j hj
  exact ⟨b, o, hA, hc 1 _ rfl, hrd.1⟩
theorem outV_at (out : List Nat) (i : Nat) (h : i < out.length) : (outV out)[i]? = some (.int .i64 (out.getD i 0 : Nat)) := by simp [outV, nums, h]
theorem refReach_ok (w0 w : World) (L : List Chunk) (r : Rf) (hm : Mem w0 w L) (hh : RfC r ∈ L) (hok : Fact r.Ok) (hg : Fact r.abs.Good) (V : Option Addr) (m c : Nat) (vs : List V2) (hvs : Fact (∀ W, Mem w0 W L → RdC W 2 (.slice V m c) (fV vs))) (hmm : m ≤ 16777216) :
    Calls Try.prog 26 #[.slice r.A r.xs.length r.c, .slice V m c] w fun e w' => ∃ (O' : Option Addr) (oc' : Nat), e = .returned (.slice O' (reachR r.abs.objs vs).length oc') ∧ Mem w0 w' (Own 1 (.slice O' (reachR r.abs.objs vs).length oc') (outV (reachR r.abs.objs vs)) :: L) := by
  obtain ⟨iB, hiB, yz0, yz1, yz2⟩ := info_parts inf_bool
  have hxl := hok.out.size
  have hol := Fact.mk r.abs_len
  have hszs : Fact (∀ j, j < r.xs.length → (r.xs.getD j ro0).ob.items.length ≤ 1048576) := ⟨fun j hj => (hok.out.each _ (by rw [List.getD_eq_getElem?_getD, List.getElem?_eq_getElem hj]; exact List.getElem_mem _)).1⟩
  have hat : Fact (∀ j, j < r.xs.length → r.abs.objs.getD j ob0 = (r.xs.getD j ro0).ob) := ⟨fun j hj => r.at_abs hj⟩
  have hread := fun (W : World) (L1 : List Chunk) (h1 : Mem w0 W L1) (h2 : RfC r ∈ L1) (j : Nat) (hj : j < r.xs.length) => Rf.items_at h1 h2 j hj
  have hmeet := fun (W : World) (S : Option Addr) (sc : Nat) (O : Option Addr) (oc : Nat) (out : List Nat) (ho : MetOk r.abs.objs out) (h1 : Mem w0 W (Own 1 (.slice S r.xs.length sc) (metV r.xs.length out) :: Own 1 (.slice O out.length oc) (outV out) :: L)) (V : Option Addr) (m c : Nat) (vs : List V2) (h2 : ∀ W, Mem w0 W L → RdC W 2 (.slice V m c) (fV vs)) (h3 : m ≤ 16777216) => refMeet_ok w0 W L r hh hok hg S sc O oc out ho h1 V m c vs ⟨h2⟩ h3
  obtain ⟨F, hF⟩ : ∃ F, reachR r.abs.objs vs = F := ⟨_, rfl⟩
  rw [hF]
  unfold reachR at hF
  generalize r.abs.objs = obs at hmeet hF hol hat
  replace hF := Fact.mk hF
  replace hread := Fact.mk hread
  replace hmeet := Fact.mk hmeet
  go_enter Try.func26, Try.ntmps26
  go_wp2
  go_loopw [5, 6] (fun s5 s6 W => ∃ (k : Nat) (S : Option Addr) (sc : Nat), s6 = .int .i64 k ∧ k ≤ r.xs.length ∧ s5 = .slice S k sc ∧ Mem w0 W (Own 1 (.slice S k sc) (List.replicate k (.bool false)) :: L)) (fun _ s6 _ => r.xs.length - (intOf s6).toNat)
  case atStart => exact ⟨0, none, 0, rfl, by omega, rfl, Mem.nil hm 1 none⟩
  case round =>
    obtain ⟨k, S, sc, rfl, hk, rfl, hmr⟩ := hrel
    clear hm
    by_cases hlt : k < r.xs.length
    · go_wp2_with (at_builtin; refine wp_app rfl _ _ _ rfl 4 iB _ 1 1 ty_bools hiB yz0 yz1 yz2 rfl S k sc _ rfl (hmr.alloc _).swap _ 1 1 [.bool false] rfl (RdC.lit _ _ _ _ _ rfl (by simp [maxLen]) (one_one rfl)) (by unfold maxLen; omega) (by omega) ?_; intro A5 c5 w5 HM5)
      go_roundw
      case rel => exact ⟨k + 1, A5, c5, by go_num, by omega, rfl, by rw [List.replicate_succ']; exact HM5.drop2⟩
      case measure => exact measP_lt hlt
    · obtain rfl : k = r.xs.length := by omega
      rw [← metV_nil] at hmr
      have hst := hmeet.out wr S sc none 0 [] ⟨List.nodup_nil, fun i h => by cases h⟩ ((Mem.nil hmr 1 none).swap) V m c vs hvs.out hmm
      replace hst := Fact.mk hst
      go_wp2_with fail
      refine hst.out.mono ?_
      rintro e w3 ⟨O3, oc3, rfl, hm3⟩
      have hmk0 : MetOk obs (meetL obs [] vs) := meetL_ok obs vs [] ⟨List.nodup_nil, fun i h => by cases h⟩
      obtain ⟨o0, ho0⟩ : ∃ o0, meetL obs [] vs = o0 := ⟨_, rfl⟩
      rw [ho0] at hm3 hmk0 hF ⊢
      rw [hol.out] at hF
      replace hmk0 := Fact.mk hmk0
      clear hst hmr ho0
      go_wp2
      go_loopw [7, 8] (fun s7 s8 W => ∃ (i : Nat) (O1 : Option Addr) (oc1 : Nat) (o1 : List Nat), s8 = .int .i64 i ∧ i ≤ o1.length ∧ Fact (MetOk obs o1) ∧ Fact (reachL obs (r.xs.length + 1 - i) i o1 = F) ∧ s7 = .slice O1 o1.length oc1 ∧ Mem w0 W (Own 1 (.slice S r.xs.length sc) (metV r.xs.length o1) :: Own 1 (.slice O1 o1.length oc1) (outV o1) :: L)) (fun _ s8 _ => r.xs.length - (intOf s8).toNat)
      case atStart => exact ⟨0, O3, oc3, o0, rfl, by omega, ⟨hmk0.out⟩, ⟨hF.out⟩, rfl, hm3⟩
      case round =>
        obtain ⟨i, O1, oc1, o1, rfl, hi, hmk, hrF, rfl, hmq⟩ := hrel
        clear hm3
        have hlen := hmk.out.len
        rw [hol.out] at hlen
        by_cases hit : i < o1.length
        · obtain ⟨bo, oo, c0, hO, h1, h2, _⟩ := (hmq.rd m1).at1 i hit
          have hji : o1.getD i 0 < r.xs.length := by
            have := hmk.out.2 (o1.getD i 0) (by rw [List.getD_eq_getElem?_getD, List.getElem?_eq_getElem hit]; exact List.getElem_mem _)
            rwa [hol.out] at this
          rw [outV_at _ _ hit] at h2
          have hstep := reachL_step obs i o1 hit (by rw [hol.out]; omega)
          rw [hol.out, hrF.out, hat.out _ hji] at hstep
          generalize o1.getD i 0 = j at h2 hji hstep
          cases h2
          obtain ⟨bx, ox, hA, f1, hr1⟩ := hread.out wr _ hmq (.tail _ (.tail _ hh)) j hji
          have hrr := fun (W : World) (h : Mem w0 W L) => hread.out W L h hh j hji
          have hszj := hszs.out j hji
          generalize r.xs.getD j ro0 = x at hstep f1 hr1 hrr hszj
          have hst := hmeet.out wr S sc O1 oc1 o1 hmk.out hmq x.A x.ob.items.length x.c x.ob.items (fun W h => by obtain ⟨_, _, _, _, h5⟩ := hrr W h; exact h5) (by omega)
          have hmk2 := meetL_ok obs x.ob.items o1 hmk.out
          replace hst := Fact.mk hst
          replace hstep := Fact.mk hstep
          replace hmk2 := Fact.mk hmk2
          have hge : i + 1 ≤ (meetL obs o1 x.ob.items).length := by
            have : o1.length ≤ (meetL obs o1 x.ob.items).length := meetL_grow obs x.ob.items o1
            omega
          rw [hO, hA]
          replace hO := Fact.mk hO
          replace hA := Fact.mk hA
          clear hr1 hrr
          go_wp2_with fail
          try rw [← hO.out]
          try rw [← hA.out]
          refine hst.out.mono ?_
          rintro e w4 ⟨O4, oc4, rfl, hm4⟩
          generalize meetL obs o1 x.ob.items = o2 at hm4 hstep hmk2 hge ⊢
          clear hst hmq
          go_wp2
          try rw [← hO.out]
          try rw [← hA.out]
          go_roundw
          case rel => exact ⟨i + 1, O4, oc4, o2, by go_num, hge, ⟨hmk2.out⟩, ⟨hstep.out.symm⟩, rfl, hm4⟩
          case measure => exact measP_lt (by omega)
        · have hil : i = o1.length := by omega
          have hFe : o1 = F := by rw [← hrF.out, reachL_end obs _ _ _ (by omega)]
          have hif : ((i : Int) < (o1.length : Int)) = False := eq_false (by omega)
          subst hFe
          go_wp2
          go_ret
          exact ⟨O1, oc1, rfl, hmq.tail⟩
end Go.Proofs.Ytpibchjkmaghnaa
namespace Go.Proofs.Ytpibchjkmaghnaa
open Go.RowKit Go.Mm
set_option maxHeartbeats 4000000
set_option maxRecDepth 100000
set_option linter.unusedSimpArgs false
/-- What some of these values name. -/
def NamedBy (l : List Ob) (vs : List V2) (n : Nat) : Prop := ∃ v, v ∈ vs ∧ nm l v = some n
theorem meetL_mem (l : List Ob) (vs : List V2) : ∀ (out : List Nat) (n : Nat), n ∈ meetL l out vs ↔ n ∈ out ∨ NamedBy l vs n := by
  induction vs with
  | nil =>
    intro out n
    refine ⟨.inl, fun h => h.elim id (fun ⟨v, hv, _⟩ => by cases hv)⟩
  | cons v vs ih =>
    intro out n
    have hsplit : NamedBy l (v :: vs) n ↔ nm l v = some n ∨ NamedBy l vs n := by
      constructor
      · rintro ⟨u, hu, hn⟩
        rcases List.mem_cons.1 hu with rfl | hu
        · exact .inl hn
        · exact .inr ⟨u, hu, hn⟩
      · rintro (h | ⟨u, hu, hn⟩)
        · exact ⟨v, by simp, h⟩
        · exact ⟨u, .tail _ hu, hn⟩
    rw [hsplit]
    unfold meetL
    cases hv : nm l v with
    | none =>
      simp only
      rw [ih]
      constructor
      · rintro (h | h)
        · exact .inl h
        · exact .inr (.inr h)
      · rintro (h | h | h)
        · exact .inl h
        · cases h
        · exact .inr h
    | some i =>
      simp only
      by_cases q : i ∈ out
      · rw [if_pos q, ih]
        constructor
        · rintro (h | h)
          · exact .inl h
          · exact .inr (.inr h)
        · rintro (h | h | h)
          · exact .inl h
          · cases h; exact .inl q
          · exact .inr h
      · rw [if_neg q, ih]
        simp only [List.mem_append, List.mem_singleton]
        constructor
        · rintro ((h | h) | h)
          · exact .inl h
          · exact .inr (.inl (by rw [h]))
          · exact .inr (.inr h)
        · rintro (h | h | h)
          · exact .inl (.inl h)
          · cases h; exact .inl (.inr rfl)
          · exact .inr h
theorem meetL_pre (l : List Ob) (vs : List V2) : ∀ (out : List Nat), ∃ more, meetL l out vs = out ++ more ∧ ∀ n, n ∈ more → NamedBy l vs n := by
  induction vs with
  | nil => exact fun out => ⟨[], by simp [meetL], fun n h => by cases h⟩
  | cons v vs ih =>
    intro out
    unfold meetL
    cases hv : nm l v with
    | none =>
      simp only
      obtain ⟨more, e, h⟩ := ih out
      exact ⟨more, e, fun n hn => by obtain ⟨u, hu, h1⟩ := h n hn; exact ⟨u, .tail _ hu, h1⟩⟩
    | some i =>
      simp only
      by_cases q : i ∈ out
      · rw [if_pos q]
        obtain ⟨more, e, h⟩ := ih out
        exact ⟨more, e, fun n hn => by obtain ⟨u, hu, h1⟩ := h n hn; exact ⟨u, .tail _ hu, h1⟩⟩
      · rw [if_neg q]
        obtain ⟨more, e, h⟩ := ih (out ++ [i])
        refine ⟨i :: more, by rw [e]; simp, fun n hn => ?_⟩
        rcases List.mem_cons.1 hn with rfl | hn
        · exact ⟨v, by simp, hv⟩
        · obtain ⟨u, hu, h1⟩ := h n hn
          exact ⟨u, .tail _ hu, h1⟩
def itemsOf (l : List Ob) (n : Nat) : List V2 := (l.getD n ob0).items
/-- What holds while the list of what was met is gone through. -/
structure MetInv (l : List Ob) (roots : List V2) (i : Nat) (out : List Nat) : Prop where
  why : ∀ j, j < out.length → NamedBy l roots (out.getD j 0) ∨ ∃ k, k < j ∧ NamedBy l (itemsOf l (out.getD k 0)) (out.getD j 0)
  base : ∀ n, NamedBy l roots n → n ∈ out
  step : ∀ k, k < i → k < out.length → ∀ n, NamedBy l (itemsOf l (out.getD k 0)) n → n ∈ out
theorem getD_pre {l m : List Nat} {k : Nat} (h : k < l.length) : (l ++ m).getD k 0 = l.getD k 0 := by
  rw [List.getD_eq_getElem?_getD, List.getElem?_append_left h, ← List.getD_eq_getElem?_getD]
theorem MetInv.next {l : List Ob} {roots : List V2} {i : Nat} {out : List Nat} (h : MetInv l roots i out) (hi : i < out.length) : MetInv l roots (i + 1) (meetL l out (itemsOf l (out.getD i 0))) := by
  obtain ⟨more, e, hm⟩ := meetL_pre l (itemsOf l (out.getD i 0)) out
  refine ⟨fun j hj => ?_, fun n hn => (meetL_mem l _ out n).2 (.inl (h.base n hn)), fun k hk hk2 n hn => ?_⟩
  · rw [e] at hj ⊢
    by_cases q : j < out.length
    · rw [getD_pre q]
      rcases h.why j q with h1 | ⟨k, hk, h1⟩
      · exact .inl h1
      · exact .inr ⟨k, hk, by rw [getD_pre (by omega)]; exact h1⟩
    · refine .inr ⟨i, by omega, ?_⟩
      rw [getD_pre hi]
      refine hm _ ?_
      rw [List.getD_eq_getElem?_getD, List.getElem?_append_right (by omega)]
      rw [List.length_append] at hj
      rw [List.getElem?_eq_getElem (by omega)]
      exact List.getElem_mem _
  · rw [e] at hk2 hn
    by_cases q : k = i
    · subst q
      rw [getD_pre hi] at hn
      exact (meetL_mem l _ out n).2 (.inr hn)
    · rw [getD_pre (show k < out.length by omega)] at hn
      exact (meetL_mem l _ out n).2 (.inl (h.step k (by omega) (by omega) n hn))
theorem reachL_inv (l : List Ob) (roots : List V2) : ∀ (f i : Nat) (out : List Nat), MetOk l out → MetInv l roots i out → l.length + 1 ≤ f + i → MetInv l roots (reachL l f i out).length (reachL l f i out) := by
  intro f
  induction f with
  | zero =>
    intro i out ho h hf
    have := ho.len
    exact ⟨h.why, h.base, fun k _ hk => h.step k (by have hk' : k < out.length := hk; omega) hk⟩
  | succ f ih =>
    intro i out ho h hf
    unfold reachL
    by_cases q : i < out.length
    · rw [if_pos q]
      exact ih (i + 1) _ (meetL_ok l _ out ho) (h.next q) (by omega)
    · rw [if_neg q]
      exact ⟨h.why, h.base, fun k _ hk => h.step k (by omega) hk⟩
theorem reachR_inv (l : List Ob) (roots : List V2) : MetInv l roots (reachR l roots).length (reachR l roots) := by
  refine reachL_inv l roots _ 0 _ (meetL_ok l roots [] ⟨List.nodup_nil, fun i h => by cases h⟩) ⟨fun j hj => ?_, fun n hn => (meetL_mem l roots [] n).2 (.inr hn), fun k hk => by omega⟩ (by omega)
  refine .inl ?_
  have := (meetL_mem l roots [] ((meetL l [] roots).getD j 0)).1 (by rw [List.getD_eq_getElem?_getD, List.getElem?_eq_getElem hj]; exact List.getElem_mem _)
  rcases this with h | h
  · cases h
  · exact h
/-- The numbers that values name, one by one. -/
def nmL (l : List Ob) (vs : List V2) : List Nat := vs.filterMap (nm l)
theorem nmL_mem (l : List Ob) (vs : List V2) (n : Nat) : n ∈ nmL l vs ↔ NamedBy l vs n := by simp [nmL, NamedBy, List.mem_filterMap]
theorem nmL_snoc (l : List Ob) (vs : List V2) (v : V2) : nmL l (vs ++ [v]) = match nm l v with | some i => nmL l vs ++ [i] | none => nmL l vs := by
  unfold nmL
  rw [List.filterMap_append]
  cases h : nm l v with
  | none => simp [h]
  | some i => simp [h]
/-- What was marked when the first j of what was met were gone through. -/
def inL (l : List Ob) (roots : List V2) (out : List Nat) (j : Nat) : List Nat := nmL l roots ++ (out.take j).flatMap fun n => nmL l (itemsOf l n)
theorem inL_succ (l : List Ob) (roots : List V2) (out : List Nat) (j : Nat) (h : j < out.length) : inL l roots out (j + 1) = inL l roots out j ++ nmL l (itemsOf l (out.getD j 0)) := by
  unfold inL
  rw [List.take_succ_eq_append_getElem h, List.flatMap_append, ← List.append_assoc]
  simp [h]
theorem inL_mem {l : List Ob} {roots : List V2} {out : List Nat} {j n : Nat} : n ∈ inL l roots out j ↔ NamedBy l roots n ∨ ∃ k, k < j ∧ k < out.length ∧ NamedBy l (itemsOf l (out.getD k 0)) n := by
  unfold inL
  rw [List.mem_append, nmL_mem, List.mem_flatMap]
  constructor
  · rintro (h | ⟨m, hm, h⟩)
    · exact .inl h
    · rw [nmL_mem] at h
      obtain ⟨k, hk, e⟩ := List.mem_take_iff_getElem.1 hm
      refine .inr ⟨k, by omega, by omega, ?_⟩
      rw [List.getD_eq_getElem?_getD, List.getElem?_eq_getElem (by omega)]
      simp only [Option.getD_some]
      rw [e]
      exact h
  · rintro (h | ⟨k, hk, hk2, h⟩)
    · exact .inl h
    · refine .inr ⟨out.getD k 0, ?_, (nmL_mem _ _ _).2 h⟩
      rw [List.getD_eq_getElem?_getD, List.getElem?_eq_getElem hk2]
      exact List.mem_take_iff_getElem.2 ⟨k, by omega, rfl⟩
theorem reach_why (l : List Ob) (roots : List V2) (j : Nat) (h : j < (reachR l roots).length) : (reachR l roots).getD j 0 ∈ inL l roots (reachR l roots) j := by
  rw [inL_mem]
  rcases (reachR_inv l roots).why j h with h1 | ⟨k, hk, h1⟩
  · exact .inl h1
  · exact .inr ⟨k, hk, by omega, h1⟩
theorem reach_all (l : List Ob) (roots : List V2) (n : Nat) : n ∈ inL l roots (reachR l roots) (reachR l roots).length ↔ n ∈ reachR l roots := by
  rw [inL_mem]
  constructor
  · rintro (h | ⟨k, hk, _, h⟩)
    · exact (reachR_inv l roots).base n h
    · exact (reachR_inv l roots).step k hk hk n h
  · intro h
    obtain ⟨j, hj, e⟩ := List.getElem_of_mem h
    have e' : (reachR l roots).getD j 0 = n := by rw [List.getD_eq_getElem?_getD, List.getElem?_eq_getElem hj]; exact e
    rcases (reachR_inv l roots).why j hj with h1 | ⟨k, hk, h1⟩
    · rw [e'] at h1
      exact .inl h1
    · rw [e'] at h1
      exact .inr ⟨k, by omega, by omega, h1⟩
theorem metV_congr (n : Nat) (a b : List Nat) (h : ∀ i, i ∈ a ↔ i ∈ b) : metV n a = metV n b := by
  unfold metV
  refine List.map_congr_left fun i _ => ?_
  rw [decide_eq_decide.2 (h i)]
end Go.Proofs.Ytpibchjkmaghnaa
namespace Go.Proofs.Ytpibchjkmaghnaa
open Go.RowKit Go.Mm
set_option maxHeartbeats 4000000
set_option maxRecDepth 100000
set_option linter.unusedSimpArgs false
theorem itemsA_ok (g : Nat) (v : Value) (w : World) (h : w.cell? ⟨g, 0, none⟩ = some v) : Calls Try.prog 137 #[.pointer (some ⟨g, 0, none⟩)] w fun e w' => e = .returned v ∧ w' = w := by
  go_enter Try.func137, Try.ntmps137
  go_wp2
  go_ret
  exact ⟨rfl, rfl⟩
theorem itemsR_ok (g : Nat) (v : Value) (w : World) (h : w.cell? ⟨g, 1, none⟩ = some v) : Calls Try.prog 141 #[.pointer (some ⟨g, 0, none⟩)] w fun e w' => e = .returned v ∧ w' = w := by
  go_enter Try.func141, Try.ntmps141
  go_wp2
  go_ret
  exact ⟨rfl, rfl⟩
theorem itemsB_ok (g : Nat) (v : Value) (w : World) (h : w.cell? ⟨g, 1, none⟩ = some v) : Calls Try.prog 146 #[.pointer (some ⟨g, 0, none⟩)] w fun e w' => e = .returned v ∧ w' = w := by
  go_enter Try.func146, Try.ntmps146
  go_wp2
  go_ret
  exact ⟨rfl, rfl⟩
theorem itemsC_ok (g : Nat) (v : Value) (w : World) (h : w.cell? ⟨g, 1, none⟩ = some v) : Calls Try.prog 132 #[.pointer (some ⟨g, 0, none⟩)] w fun e w' => e = .returned v ∧ w' = w := by
  go_enter Try.func132, Try.ntmps132
  go_wp2
  go_ret
  exact ⟨rfl, rfl⟩
theorem mitA (a : Addr) (w : World) : (callMethod (.iface 104 (.pointer (some a))) "portage/heap.items" #[]).run Try.prog w = .ok (.enter 137 #[.pointer (some a)]) w := by kernel_rfl
theorem mitR (a : Addr) (w : World) : (callMethod (.iface 107 (.pointer (some a))) "portage/heap.items" #[]).run Try.prog w = .ok (.enter 141 #[.pointer (some a)]) w := by kernel_rfl
theorem mitB (a : Addr) (w : World) : (callMethod (.iface 145 (.pointer (some a))) "portage/heap.items" #[]).run Try.prog w = .ok (.enter 146 #[.pointer (some a)]) w := by kernel_rfl
theorem mitC (a : Addr) (w : World) : (callMethod (.iface 95 (.pointer (some a))) "portage/heap.items" #[]).run Try.prog w = .ok (.enter 132 #[.pointer (some a)]) w := by kernel_rfl
theorem itemsI_ok (w : World) (t : Th) (ht : t.Ok) (hc : ∀ c, c ∈ t.chunks → c.ok w) : ICalls Try.prog t.val "portage/heap.items" #[] w fun e w' => e = .returned (.slice t.A t.ob.items.length t.c) ∧ w' = w := by
  obtain ⟨h0, hx, hk⟩ := Th.reads hc
  have hl := rdV_len hx
  rw [hl]
  rcases t.val_of ht.kind with ⟨hkd, hv⟩ | ⟨hkd, hv⟩ | ⟨hkd, hv⟩ | ⟨hkd, hv⟩ <;> rw [hv] <;> simp only [Th.cells, hkd] at h0
  · exact ⟨_, _, mitA _ w, itemsA_ok t.g _ w (h0 0 _ rfl)⟩
  · exact ⟨_, _, mitR _ w, itemsR_ok t.g _ w (h0 1 _ rfl)⟩
  · exact ⟨_, _, mitB _ w, itemsB_ok t.g _ w (h0 1 _ rfl)⟩
  · exact ⟨_, _, mitC _ w, itemsC_ok t.g _ w (h0 1 _ rfl)⟩
/-- The variables that the closure captured. -/
def capC (h : Hp) (gh gm go : Nat) (S : Option Addr) (sc : Nat) (O : Option Addr) (oc : Nat) (out : List Nat) : List Chunk :=
  [Own 1 (.slice S h.ths.length sc) (metV h.ths.length out), Own 1 (.slice O out.length oc) (outV out), Blk gh (.cells [.pointer (some ⟨h.g, 0, none⟩)].toArray 24), Blk gm (.cells [.slice S h.ths.length sc].toArray 68), Blk go (.cells [.slice O out.length oc].toArray 55)]
theorem meetC_ok (w0 w : World) (L : List Chunk) (h : Hp) (hh : HpC h ∈ L) (hok : Fact h.Ok) (gh gm go : Nat) (S : Option Addr) (sc : Nat) (O : Option Addr) (oc : Nat) (out : List Nat) (ho : MetOk h.objs out)
    (hm : Mem w0 w (capC h gh gm go S sc O oc out ++ L)) (V : Option Addr) (m c : Nat) (vs : List V2) (hvs : Fact (∀ W, Mem w0 W L → RdC W 2 (.slice V m c) (fV vs))) (hmm : m ≤ 16777216) :
    Calls Try.prog 66 #[.slice V m c, .pointer (some ⟨gh, 0, none⟩), .pointer (some ⟨gm, 0, none⟩), .pointer (some ⟨go, 0, none⟩)] w fun e w' => e = .returned (.tuple #[]) ∧ ∃ (O' : Option Addr) (oc' : Nat), Mem w0 w' (capC h gh gm go S sc O' oc' (meetL h.objs out vs) ++ L) := by
  obtain ⟨iI, hiI, yz0, yz1, yz2⟩ := info_parts inf_int
  have hxl := hok.out.size
  have hvl := Fact.mk (rdV_len (hvs.out w (hm.sub (List.sublist_append_right _ _))))
  have hol : Fact (h.objs.length = h.ths.length) := ⟨h.abs_len⟩
  have hmet := fun k => meetL_ok h.objs (vs.take k) out ho
  have hml := fun k => (hmet k).len
  unfold capC at hm ⊢
  simp only [List.cons_append, List.nil_append] at hm ⊢
  have hnamed := fun (W : World) (L1 : List Chunk) (h1 : Mem w0 W L1) (h2 : HpC h ∈ L1) (v : V2) => named_ok w0 W L1 h h1 h2 hok v.1 v.2
  have hnv : ∀ v : V2, (nm h.objs v = none ∧ namedV h v = .nilIface) ∨ ∃ i T g, nm h.objs v = some i ∧ namedV h v = .iface T (.pointer (some ⟨g, 0, none⟩)) := fun v => by
    unfold namedV
    cases hn : nm h.objs v with
    | none => exact .inl ⟨rfl, rfl⟩
    | some i => exact .inr ⟨i, _, _, rfl, rfl⟩
  generalize h.objs = obs at hmet hml hol ho hnv ⊢
  replace hnamed := Fact.mk hnamed
  replace hnv := Fact.mk hnv
  replace hmet := Fact.mk hmet
  replace hml := Fact.mk hml
  go_enter Try.func66, Try.ntmps66
  go_wp2
  go_loopw [9] (fun s9 W => ∃ (k : Nat) (O1 : Option Addr) (oc1 : Nat) (o1 : List Nat), s9 = .int .i64 k ∧ k ≤ m ∧ Fact (o1 = meetL obs out (vs.take k)) ∧ Mem w0 W (Own 1 (.slice S h.ths.length sc) (metV h.ths.length o1) :: Own 1 (.slice O1 o1.length oc1) (outV o1) :: Blk gh (.cells [.pointer (some ⟨h.g, 0, none⟩)].toArray 24) :: Blk gm (.cells [.slice S h.ths.length sc].toArray 68) :: Blk go (.cells [.slice O1 o1.length oc1].toArray 55) :: L)) (fun s9 _ => m - (intOf s9).toNat)
  case atStart => exact ⟨0, O, oc, out, rfl, by omega, ⟨rfl⟩, hm⟩
  case round =>
    obtain ⟨k, O1, oc1, o1, rfl, hk, ho1, hmr⟩ := hrel
    clear hm
    have hl1 : o1.length ≤ 16777216 := by have h1 := hml.out k; rw [← ho1.out, hol.out] at h1; omega
    by_cases hlt : k < m
    · obtain ⟨b, o, rfl, g1, g2, _, hkl⟩ := rdV_at (hvs.out wr (hmr.sub (List.sublist_append_right [_, _, _, _, _] _))) k hlt
      have hsn := meetL_snoc obs (vs.take k) (vs.getD k (0, 0)) out
      rw [← take_snocV vs k hkl, ← ho1.out] at hsn
      have hnmv := hnv.out (vs.getD k (0, 0))
      generalize vs.getD k (0, 0) = v at g1 g2 hsn hnmv
      have hs := hmr.alloc (.cells [.int .i64 0, .int .i64 0].toArray 27)
      go_upto_region 3 with (first | (refine wp_rng rfl 27 _ rfl b (o + k * 2) rfl (cV v) (rng2 g1 g2) row_V sz_V ?_) | (refine wp_setrow rfl 27 _ _ rfl wr.heap.size rfl 27 _ (cV v) rfl hs sz_V rfl (cV_one v) ?_; intro w5 hm5))
      generalize wr.heap.size = g6 at hm5 ⊢
      clear hmr hs g1 g2
      have c1 := hm5.cell m3 0 rfl
      have hnam := hnamed.out w5 _ hm5 (.tail _ (.tail _ (.tail _ (.tail _ (.tail _ (.tail _ hh)))))) v
      rw [show ((v.1, v.2) : V2) = v from rfl] at hnam
      replace hnam := Fact.mk hnam
      go_wp2_with (refine wp_rng rfl 27 _ rfl g6 0 rfl (cV v) (rng_blk hm5 m0) row_V sz_V ?_)
      refine hnam.out.mono ?_
      rintro e w6 ⟨rfl, hg6⟩
      have hm6 := hm5.gr hg6
      clear hm5 hg6 c1 hnam
      rcases hnmv with ⟨hn, hnv1⟩ | ⟨i, T, g, hn, hnv1⟩
      · rw [hn] at hsn
        replace hsn := Fact.mk hsn
        rw [hnv1]
        clear hn hnv1
        go_wp2
        go_roundw
        case rel => exact ⟨k + 1, O1, oc1, o1, by go_num, by omega, ⟨hsn.out.symm⟩, hm6.tail⟩
        case measure => exact measP_lt hlt
      · obtain ⟨hil, hvi⟩ := nm_lt hn
        rw [hn] at hsn
        simp only at hsn
        rw [hnv1]
        have hir : i < h.ths.length := by rw [← hol.out]; exact hil
        have k2 := hm6.cell m0 1 rfl
        rw [hvi] at k2
        have s2 := hm6.cell m4 0 rfl
        clear hn hnv1
        replace hvi := Fact.mk hvi
        replace hm6 := hm6.swap
        obtain ⟨bs, os, hS⟩ := OwnAt.addr (hm6.ok _ m0) (by have := OwnAt.cap (hm6.ok _ m0); omega)
        have hs1 : w6.cell? ⟨bs, os + i, none⟩ = some (.bool (decide (i ∈ o1))) := by
          obtain ⟨bs', os', c0, hS', h1, h2, _⟩ := (hm6.rd m0).at1 i hir
          rw [hS] at hS'
          cases hS'
          rw [metV_at _ _ i hir] at h2
          rw [h1, h2]
        have hS' := Fact.mk hS
        rw [hS] at s2
        by_cases q : i ∈ o1
        · rw [decide_eq_true q] at hs1
          rw [if_pos q] at hsn
          replace hsn := Fact.mk hsn
          clear q hS
          go_wp2
          go_roundw
          case rel => exact ⟨k + 1, O1, oc1, o1, by go_num, by omega, ⟨hsn.out.symm⟩, hm6.swap.tail⟩
          case measure => exact measP_lt hlt
        · rw [decide_eq_false q] at hs1
          rw [if_neg q] at hsn
          replace hsn := Fact.mk hsn
          have hset := metV_set h.ths.length o1 i hir
          replace hset := Fact.mk hset
          have hsl := Fact.mk (show i + [(.bool true : Value)].length ≤ (metV h.ths.length o1).length by rw [metV_len]; simp only [List.length_singleton]; omega)
          have hgl : Fact ((o1 ++ [i]).length = o1.length + 1) := ⟨by simp⟩
          rw [hS] at hm6
          clear q
          go_wp2_with (first | (refine wp_ownat rfl 4 _ _ rfl (os + i) i rfl rfl [.bool true] _ rfl rfl hm6 sz_bool hsl.out (one_one rfl) ?_; intro w7 hm7; have k7 := hm7.cell m1 1 rfl; rw [hvi.out] at k7; have s7 := hm7.cell m5 0 rfl) | (at_builtin; refine wp_app rfl _ _ _ rfl 3 iI _ 1 8 ty_ints hiI yz0 yz1 yz2 rfl O1 o1.length oc1 _ rfl (hm7.alloc _).pull3 _ 1 1 [.int .i64 (i : Int)] rfl (RdC.lit _ _ _ _ _ rfl (by simp [maxLen]) (one_one rfl)) (by unfold maxLen; omega) (by omega) ?_; intro A8 c8 w8 hm8) | (refine wp_setat rfl 55 _ _ rfl go 0 rfl 55 [.slice O1 o1.length oc1] [.slice A8 (o1.length + 1) c8] [.slice A8 (o1.length + 1) c8] _ rfl rfl hm8.pull6 sz_ints (by simp) (one_one rfl) rfl ?_; intro w9 hm9))
          have hmX := ((((hm9.sub (.cons_cons _ (.cons_cons _ (.cons _ (.cons_cons _ (.cons _ (.refl _))))))).pull4).pull4).pull3).pull4
          have hmY : Mem w0 w9 (Own 1 (.slice S h.ths.length sc) (metV h.ths.length (o1 ++ [i])) :: Own 1 (.slice A8 (o1 ++ [i]).length c8) (outV (o1 ++ [i])) :: Blk gh (.cells [.pointer (some ⟨h.g, 0, none⟩)].toArray 24) :: Blk gm (.cells [.slice S h.ths.length sc].toArray 68) :: Blk go (.cells [.slice A8 (o1 ++ [i]).length c8].toArray 55) :: L) := by
            rw [hgl.out, ← hset.out, outV_snoc, hS]
            exact hmX
          go_roundw
          case rel => exact ⟨k + 1, A8, c8, o1 ++ [i], by go_num, by omega, ⟨hsn.out.symm⟩, hmY⟩
          case measure => exact measP_lt hlt
    · obtain rfl : k = m := by omega
      rw [List.take_of_length_le (by rw [hvl.out]; exact Nat.le_refl _)] at ho1
      have e := ho1.out
      subst e
      go_wp2
      go_end0
      exact ⟨rfl, O1, oc1, hmr⟩
theorem sz_bools : (Try.prog.info? 68).map (·.size) = some 1 := by kernel_rfl
theorem fnReach (s p q r : Value) (w : World) : (callFunc 66 #[s, p, q, r]).run Try.prog w = .ok (.enter 66 #[s, p, q, r]) w := by kernel_rfl
theorem bools_none : ∀ (n : Nat), (List.replicate n ()).flatMap (fun _ => [(.bool false : Value)]) = List.replicate n (.bool false)
  | 0 => rfl
  | n + 1 => by rw [List.replicate_succ, List.replicate_succ, List.flatMap_cons, bools_none n]; rfl
theorem reach_ok (w0 w : World) (L : List Chunk) (h : Hp) (hh : HpC h ∈ L) (hok : Fact h.Ok) (hm : Mem w0 w L) (V : Option Addr) (m c : Nat) (vs : List V2) (hvs : Fact (∀ W, Mem w0 W L → RdC W 2 (.slice V m c) (fV vs))) (hmm : m ≤ 16777216) :
    Calls Try.prog 28 #[.pointer (some ⟨h.g, 0, none⟩), .slice V m c] w fun e w' => ∃ (O' : Option Addr) (oc' : Nat), e = .returned (.slice O' (reachR h.objs vs).length oc') ∧ Mem w0 w' (Own 1 (.slice O' (reachR h.objs vs).length oc') (outV (reachR h.objs vs)) :: L) := by
  obtain ⟨iB, hiB, yz0, yz1, yz2⟩ := info_parts inf_bool
  have hxl := hok.out.size
  have hol : Fact (h.objs.length = h.ths.length) := ⟨h.abs_len⟩
  have hms := fun (W : World) (gh gm go : Nat) (S : Option Addr) (sc : Nat) (O : Option Addr) (oc : Nat) (out : List Nat) (ho : MetOk h.objs out) (h1 : Mem w0 W (capC h gh gm go S sc O oc out ++ L)) (V : Option Addr) (m c : Nat) (vs : List V2) (h2 : ∀ W, Mem w0 W L → RdC W 2 (.slice V m c) (fV vs)) (h3 : m ≤ 16777216) => meetC_ok w0 W L h hh hok gh gm go S sc O oc out ho h1 V m c vs ⟨h2⟩ h3
  replace hms := Fact.mk hms
  obtain ⟨F, hF⟩ : ∃ F, reachR h.objs vs = F := ⟨_, rfl⟩
  rw [hF]
  unfold reachR at hF
  replace hF := Fact.mk hF
  have hm1 := hm.alloc (.cells [.pointer (some ⟨h.g, 0, none⟩)].toArray 24)
  go_enter Try.func28, Try.ntmps28
  go_upto_region 1 with (fail)
  generalize hgb : w.heap.size = gh at hm1 ⊢
  generalize hw1 : w.alloc (.cells [.pointer (some ⟨h.g, 0, none⟩)].toArray 24) = w1 at hm1
  try refine wp_world hw1 ?_
  clear hw1 hgb
  obtain ⟨_, _, c2, _, _, _⟩ := Hp.read hm1 (.tail _ hh)
  have d0 := hm1.cell m0 0 rfl
  go_upto_region 2 with (first | (at_make; refine wp_make (fun _ : Unit => [(.bool false : Value)]) () 1 1 (by omega) (fun _ => rfl) (fun _ => one_one rfl) rfl _ _ _ 4 rfl ty_bools iB _ hiB yz0 yz1 yz2 rfl _ h.ths.length rfl rfl rfl (by omega) (by unfold maxLen; omega) hm1 ?_; intro gS w2 hm2; have hs2 := hm2.alloc (.cells [.slice none 0 0].toArray 68)) | (refine wp_setat rfl 68 _ _ rfl w2.heap.size 0 rfl 68 [.slice none 0 0] [.slice (some ⟨gS, 0, none⟩) h.ths.length h.ths.length] [.slice (some ⟨gS, 0, none⟩) h.ths.length h.ths.length] _ rfl rfl hs2 sz_bools (by simp) (one_one rfl) rfl ?_; intro w3 hm3))
  rw [bools_none, ← metV_nil] at hm3
  generalize w2.heap.size = gm at hm3 ⊢
  clear hs2 hm2 hm1 c2 d0
  have hm4 := hm3.alloc (.cells [.slice none 0 0].toArray 55)
  go_upto_region 3 with (fail)
  generalize hgb : w3.heap.size = go at hm4 ⊢
  generalize hw1 : w3.alloc (.cells [.slice none 0 0].toArray 55) = w4 at hm4
  try refine wp_world hw1 ?_
  clear hw1 hgb hm3
  have hm5 := (Mem.nil hm4.swap.pull3.pull3 1 none).swap
  obtain ⟨S, hS⟩ : ∃ S, (some ⟨gS, 0, none⟩ : Option Addr) = S := ⟨_, rfl⟩
  rw [hS] at hm5
  rw [hS]
  clear hS hm4
  have hst := hms.out w4 gh gm go S h.ths.length none 0 [] ⟨List.nodup_nil, fun i h => by cases h⟩ hm5 V m c vs hvs.out hmm
  have hvc : VCalls Try.prog (.func (.func 66) #[] #[.pointer (some ⟨gh, 0, none⟩), .pointer (some ⟨gm, 0, none⟩), .pointer (some ⟨go, 0, none⟩)]) [.slice V m c] w4 _ := ⟨_, _, _, _, rfl, fnReach _ _ _ _ _, hst⟩
  replace hvc := Fact.mk hvc
  clear hst
  go_wp2_with (refine wp_fnv rfl _ _ _ rfl (.func (.func 66) #[] #[.pointer (some ⟨gh, 0, none⟩), .pointer (some ⟨gm, 0, none⟩), .pointer (some ⟨go, 0, none⟩)]) (by rfl) [.slice V m c] (by rfl) (hvc.out.mono ?_); rintro e w5 ⟨rfl, O3, oc3, hm6⟩; refine ⟨_, rfl, ?_⟩)
  clear hvc hm5
  go_loopw [8] (fun s8 W => ∃ (i : Nat) (O1 : Option Addr) (oc1 : Nat) (o1 : List Nat), s8 = .int .i64 i ∧ i ≤ o1.length ∧ Fact (MetOk h.objs o1) ∧ Fact (reachL h.objs (h.ths.length + 1 - i) i o1 = F) ∧ Mem w0 W (capC h gh gm go S h.ths.length O1 oc1 o1 ++ L)) (fun s8 _ => h.ths.length - (intOf s8).toNat)
  case atStart => exact ⟨0, O3, oc3, _, rfl, by omega, ⟨meetL_ok h.objs vs [] ⟨List.nodup_nil, fun i h => by cases h⟩⟩, ⟨by rw [← hF.out, hol.out]; rfl⟩, hm6⟩
  case round =>
    obtain ⟨i, O1, oc1, o1, rfl, hi, hmk, hrF, hmq⟩ := hrel
    clear hm6
    have hlen := hmk.out.len
    rw [hol.out] at hlen
    have hmq1 : Mem w0 wr (Own 1 (.slice S h.ths.length h.ths.length) (metV h.ths.length o1) :: Own 1 (.slice O1 o1.length oc1) (outV o1) :: Blk gh (.cells [.pointer (some ⟨h.g, 0, none⟩)].toArray 24) :: Blk gm (.cells [.slice S h.ths.length h.ths.length].toArray 68) :: Blk go (.cells [.slice O1 o1.length oc1].toArray 55) :: L) := hmq
    have e2 := hmq1.cell m2 0 rfl
    have e4 := hmq1.cell m4 0 rfl
    by_cases hit : i < o1.length
    · obtain ⟨bo, oo, c0, hO, h1, h2, _⟩ := (hmq1.rd m1).at1 i hit
      have hji : o1.getD i 0 < h.ths.length := by
        have := hmk.out.2 (o1.getD i 0) (by rw [List.getD_eq_getElem?_getD, List.getElem?_eq_getElem hit]; exact List.getElem_mem _)
        rwa [hol.out] at this
      rw [outV_at _ _ hit] at h2
      have hstep := reachL_step h.objs i o1 hit (by rw [hol.out]; omega)
      rw [hol.out, hrF.out, ob_at hji] at hstep
      generalize o1.getD i 0 = j at h2 hji hstep
      cases h2
      obtain ⟨_, _, c2, _, _, hat⟩ := Hp.read hmq1 (.tail _ (.tail _ (.tail _ (.tail _ (.tail _ hh)))))
      obtain ⟨b3, o3, hA, r1, _⟩ := hat j hji
      have htj := th_ok hok.out hji
      have hrd := fun (W : World) (L1 : List Chunk) (h1 : Mem w0 W L1) (h2 : HpC h ∈ L1) => ((Hp.read h1 h2).2.2.2.2.2 j hji)
      have hrr : ∀ (W : World) (L1 : List Chunk), Mem w0 W L1 → HpC h ∈ L1 → ∀ c, c ∈ (h.ths.getD j th0).chunks → c.ok W := fun W L1 h1 h2 => by obtain ⟨_, _, _, _, h5⟩ := hrd W L1 h1 h2; exact h5
      clear hrd hat
      generalize h.ths.getD j th0 = t at r1 htj hstep hrr
      have hit2 := fun (W : World) (h1 : Mem w0 W (capC h gh gm go S h.ths.length O1 oc1 o1 ++ L)) => itemsI_ok W t htj (hrr W _ h1 (List.mem_append_right _ hh))
      have hvsj : ∀ (W : World), Mem w0 W L → RdC W 2 (.slice t.A t.ob.items.length t.c) (fV t.ob.items) := fun W h1 => by
        obtain ⟨_, h3, _⟩ := Th.reads (hrr W L h1 hh)
        rw [rdV_len h3]
        exact h3
      have hszj : t.ob.items.length ≤ 16777216 := by have := htj.size; omega
      have hst := fun (W : World) (h1 : Mem w0 W (capC h gh gm go S h.ths.length O1 oc1 o1 ++ L)) => hms.out W gh gm go S h.ths.length O1 oc1 o1 hmk.out h1 t.A t.ob.items.length t.c t.ob.items hvsj hszj
      have hmk2 := meetL_ok h.objs t.ob.items o1 hmk.out
      have hge : i + 1 ≤ (meetL h.objs o1 t.ob.items).length := by
        have : o1.length ≤ (meetL h.objs o1 t.ob.items).length := meetL_grow h.objs t.ob.items o1
        omega
      have hv : ∃ T p, t.val = .iface T (.pointer (some ⟨p, 0, none⟩)) := ⟨_, _, rfl⟩
      obtain ⟨T, p, hv⟩ := hv
      rw [hv] at r1 hit2
      rw [hO] at e4
      rw [hA] at c2
      replace hO := Fact.mk hO
      replace hA := Fact.mk hA
      replace hit2 := Fact.mk hit2
      replace hst := Fact.mk hst
      replace hstep := Fact.mk hstep
      replace hmk2 := Fact.mk hmk2
      clear hv hrr hvsj
      go_upto_region 8 with (fail)
      have hmd := hmq.drew
      go_region_law (first | (refine step_inv rfl _ _ _ _ (by rfl) (.iface T (.pointer (some ⟨p, 0, none⟩))) (by rfl) [] (by rfl) ((hit2.out _ hmd).mono ?_); rintro e w2 ⟨rfl, rfl⟩; refine ⟨_, rfl, ?_⟩) | (refine step_fnv rfl _ _ _ (by rfl) (.func (.func 66) #[] #[.pointer (some ⟨gh, 0, none⟩), .pointer (some ⟨gm, 0, none⟩), .pointer (some ⟨go, 0, none⟩)]) (by rfl) [.slice t.A t.ob.items.length t.c] (by rfl) (VCalls.mono ⟨_, _, _, _, rfl, fnReach _ _ _ _ _, hst.out _ hmd⟩ ?_); rintro e w9 ⟨rfl, O9, oc9, hm9⟩; refine ⟨_, rfl, ?_⟩))
      all_goals
        have hmz := hm9
        go_wp2
        go_roundw
        case rel => exact ⟨i + 1, O9, oc9, _, by go_num, hge, ⟨hmk2.out⟩, ⟨hstep.out.symm⟩, hmz⟩
        case measure => exact measP_lt (by omega)
    · have hil : i = o1.length := by omega
      have hFe : o1 = F := by rw [← hrF.out, reachL_end h.objs _ _ _ (by omega)]
      have hif : ((i : Int) < (o1.length : Int)) = False := eq_false (by omega)
      clear hF hrF
      subst hFe
      go_wp2
      go_ret
      exact ⟨O1, oc1, rfl, hmq1.tail.sub ((List.sublist_append_right [_, _, _] L).cons_cons _)⟩
end Go.Proofs.Ytpibchjkmaghnaa
namespace Go.Proofs.Ytpibchjkmaghnaa
open Go.RowKit Go.Mm
set_option maxHeartbeats 4000000
set_option maxRecDepth 100000
set_option linter.unusedSimpArgs false
def reachSd (s : Hs) (o : HOp) : Sd := ⟨(0, 0), 0, 0, false, ob0, (reachR s.objs o.items).map Int.ofNat⟩
theorem askReach_ok (w0 w : World) (L : List Chunk) (h : Hp) (hm : Mem w0 w (HpC h :: L)) (hok : Fact h.Ok) (o : HOp) (hx : Fact (RdC w0 2 (.slice o.A o.n o.c) (fV o.items))) (hn : o.n ≤ 1048576) :
    Calls Try.prog 47 #[.pointer (some ⟨h.g, 0, none⟩), .int .i64 19, .agg (cHO o).toArray] w fun e w' => ∃ v, e = .returned (.tuple #[v, .bool true]) ∧ AskQ w0 L h.g h.abs (reachSd h.abs o) v w' := by
  have hil := Fact.mk (rdV_len hx.out)
  go_enter Try.func47, Try.ntmps47
  go_upto_region 1 with (fail)
  have hm1 := (hm.alloc (.cells (cHO o).toArray 32)).alloc (.cells (sC 0 0 0 0 false 0 none 0 0 none 0 0 0 0 false none 0 0).toArray 84)
  simp only [World.size_alloc] at hm1
  generalize hgb : w.heap.size = g at hm1 ⊢
  generalize hw1 : (w.alloc (.cells (cHO o).toArray 32)).alloc (.cells (sC 0 0 0 0 false 0 none 0 0 none 0 0 0 0 false none 0 0).toArray 84) = w1 at hm1
  try refine wp_world hw1 ?_
  clear hw1 hgb hm
  have x8 := hm1.cell m1 8 rfl
  go_wp2_with fail
  refine (lentValues_ok w1 o.A o.n o.c o.items ⟨hx.out.gr hm1.below⟩ (by omega)).mono ?_
  rintro e w2 ⟨B, d, rfl, hn2⟩
  have hm2 := hm1.new hn2
  clear hm1 x8 hn2
  have hcap := OwnAt.cap (hm2.ok _ m0)
  have hcap1 : o.n ≤ d := by omega
  obtain ⟨bg, bo, hB⟩ := OwnAt.addr (hm2.ok _ m0) (by omega)
  subst hB
  have x8 := hm2.cell m2 8 rfl
  go_upto_region 4 with (fail)
  have hm3 := hm2.alloc (.cells (sC 0 0 0 0 false 0 none 0 0 none 0 0 0 0 false none 0 0).toArray 84)
  generalize hgb : w2.heap.size = g3 at hm3 ⊢
  generalize hw1 : w2.alloc (.cells (sC 0 0 0 0 false 0 none 0 0 none 0 0 0 0 false none 0 0).toArray 84) = w3 at hm3
  try refine wp_world hw1 ?_
  clear hw1 hgb hm2 x8
  have hm4 := hm3.pull4
  go_wp2_with fail
  refine (reach_ok w0 w3 _ h m0 hok hm4 (some ⟨bg, bo, none⟩) o.n d o.items ⟨fun W hW => rd_pre cV_len (hW.rd m2) hil.out⟩ (by omega)).mono ?_
  rintro e w4 ⟨RA, rc, rfl, hm5⟩
  obtain ⟨ls, hls, hlen⟩ : ∃ ls : List Int, ls = (reachR h.abs.objs o.items).map Int.ofNat ∧ (reachR h.objs o.items).length = ls.length := ⟨_, rfl, (List.length_map _).symm⟩
  rw [hlen, show outV (reachR h.objs o.items) = nums .i64 ls by rw [hls]; rfl] at hm5
  rw [hlen]
  replace hls := Fact.mk hls
  clear hlen
  go_wp2_with (refine wp_setat rfl 55 _ _ rfl g3 11 rfl 84 _ [.slice RA ls.length rc] (sC 0 0 0 0 false 0 none 0 0 none 0 0 0 0 false RA ls.length rc) (.slice RA ls.length rc) rfl rfl hm5.pull2 sz_ints (by simp [sC]) (one_one rfl) rfl ?_; intro w6 hs6; have hm6 := (Mem.nil (Mem.nil hs6 1 none) 2 none).pull2; have x8 := hm6.cell m7 8 rfl)
  refine (keptValues_ok w6 (some ⟨bg, bo, none⟩) o.n d o.A o.c o.items ⟨hm6.rd m5⟩ ⟨hx.out.gr hm6.below⟩ (by omega)).mono ?_
  rintro e w7 ⟨rfl, hg7⟩
  have hm7 := (hm6.gr hg7).pull5
  clear hm6 x8 hg7
  obtain ⟨C0, hC0⟩ : ∃ C0, C0 = fV (o.items ++ marksV 64) := ⟨_, rfl⟩
  have hCl : C0.length = (o.n + 64) * 2 := by rw [hC0]; exact OwnAt.len (hm7.ok _ m0)
  rw [← hC0] at hm7
  clear hC0
  go_wp2
  go_loopw [12] (fun s12 W => ∃ (k : Nat) (C : List Value), s12 = .int .i64 k ∧ k ≤ o.n + 64 ∧ C.length = (o.n + 64) * 2 ∧ Mem w0 W (Own 2 (.slice (some ⟨bg, bo, none⟩) (o.n + 64) d) C :: Blk g3 (.cells (sC 0 0 0 0 false 0 none 0 0 none 0 0 0 0 false RA ls.length rc).toArray 84) :: Own 2 (.slice none 0 0) [] :: Own 1 (.slice none 0 0) [] :: Own 1 (.slice RA ls.length rc) (nums .i64 ls) :: HpC h :: Blk (g + 1) (.cells (sC 0 0 0 0 false 0 none 0 0 none 0 0 0 0 false none 0 0).toArray 84) :: Blk g (.cells (cHO o).toArray 32) :: L)) (fun s12 _ => o.n + 64 - (intOf s12).toNat)
  case atStart => exact ⟨0, C0, rfl, by omega, hCl, hm7⟩
  case round =>
    obtain ⟨k, C, rfl, hk, hC, hmr⟩ := hrel
    clear hm7 hCl
    by_cases hlt : k < o.n + 64
    · have wrapk : wrap64 ((k : Int) + 1) = (k : Int) + 1 := IntWalk.wrap64_in _ (by omega)
      have hC' : (C.take (k * 2) ++ [(.int .i64 77 : Value), .int .i64 (k : Int)] ++ C.drop (k * 2 + 2)).length = (o.n + 64) * 2 := by simp only [List.length_append, List.length_take, List.length_drop, List.length_cons, List.length_nil, hC]; omega
      replace hC' := Fact.mk hC'
      replace hC := Fact.mk hC
      go_wp2_with (refine wp_ownrow rfl 27 _ _ rfl (bo + k * 2) (k * 2) rfl rfl [.int .i64 77, .int .i64 (k : Int)] rfl hmr sz_V (by rw [hC.out]; simp; omega) (cV_one (77, (k : Int))) ?_; intro w9 hm9)
      go_roundw
      case rel => exact ⟨k + 1, _, by go_num, by omega, hC'.out, hm9⟩
      case measure => exact measP_lt hlt
    · obtain rfl : k = o.n + 64 := by omega
      go_wp2_with (first | (refine wp_rng rfl 84 _ rfl g3 0 rfl (sC 0 0 0 0 false 0 none 0 0 none 0 0 0 0 false RA ls.length rc) (rng_blk hmr m1) row_S sz_S ?_) | (refine wp_setrow rfl 84 _ _ rfl (g + 1) rfl 84 _ (sC 0 0 0 0 false 0 none 0 0 none 0 0 0 0 false RA ls.length rc) rfl hmr.pull6 sz_S rfl (sC_one _ _ _ _ _ _ _ _ _ _ _ _ _ _ _ _ _ _) ?_; intro w9 hm9))
      have hz := (hm9.tail.tail.tail).sub (List.Sublist.cons_cons _ (List.Sublist.cons_cons _ (List.Sublist.cons_cons _ (List.Sublist.cons_cons _ (List.sublist_cons_self _ _)))))
      refine bodyPost_ret (Mm.res_cell_tmp rfl _ (g + 1) 84 (sC 0 0 0 0 false 0 none 0 0 none 0 0 0 0 false RA ls.length rc) (0, 0) rfl hm9 m0 row_S sz_S) rfl ⟨_, rfl, h, rfl, rfl, hok.out, ?_⟩
      rw [show reachSd h.abs o = ⟨(0, 0), 0, 0, false, ob0, ls⟩ by rw [hls.out]; rfl]
      exact ⟨none, 0, none, 0, RA, rc, rfl, hz⟩
theorem tellM_reach (w0 w : World) (L : List Chunk) (h : Rf) (hm : Mem w0 w (RfC h :: L)) (hok : Fact h.Ok) (o : HOp) (hg : Fact h.abs.Good) (hx : Fact (RdC w0 2 (.slice o.A o.n o.c) (fV o.items))) (hn : o.n ≤ 1048576) :
    Calls Try.prog 96 #[.pointer (some ⟨h.g, 0, none⟩), .int .i64 19, .agg (cHO o).toArray] w fun e w' => ∃ v, e = .returned v ∧ TellQ w0 L h.g h.abs (reachSd h.abs o) v w' := by
  go_enter Try.func96, Try.ntmps96
  go_upto_region 2 with (fail)
  have hm1 := ((hm.alloc (.cells (cHO o).toArray 32)).alloc (.cells (sC 0 0 0 0 false 0 none 0 0 none 0 0 0 0 false none 0 0).toArray 84)).alloc (.cells (sC 0 0 0 0 false 0 none 0 0 none 0 0 0 0 false none 0 0).toArray 84)
  simp only [World.size_alloc] at hm1
  generalize hgb : w.heap.size = g at hm1 ⊢
  generalize hw1 : ((w.alloc (.cells (cHO o).toArray 32)).alloc (.cells (sC 0 0 0 0 false 0 none 0 0 none 0 0 0 0 false none 0 0).toArray 84)).alloc (.cells (sC 0 0 0 0 false 0 none 0 0 none 0 0 0 0 false none 0 0).toArray 84) = w1 at hm1
  try refine wp_world hw1 ?_
  clear hw1 hgb
  replace hm1 := hm1.pull3
  have x8 := hm1.cell m3 8 rfl
  obtain ⟨_, _, c2, _⟩ := Rf.read hm1 m0
  have hmd := hm1.drew
  go_upto_region 20 with (fail)
  go_still_tail 6, (by kernel_rfl)
  change wpList _ _ _ _ _ w1.drew
  generalize w1.drew = w1 at hmd ⊢
  go_wp2_with fail
  refine (refReach_ok w0 w1 _ h hmd m0 hok hg o.A o.n o.c o.items ⟨fun W hW => hx.out.gr hW.below⟩ (by omega)).mono ?_
  rintro e w2 ⟨RA, rc, rfl, hm2⟩
  clear hm1 x8 c2 hmd
  obtain ⟨ls, hls, hlen⟩ : ∃ ls : List Int, ls = (reachR h.abs.objs o.items).map Int.ofNat ∧ (reachR h.abs.objs o.items).length = ls.length := ⟨_, rfl, (List.length_map _).symm⟩
  rw [hlen, show outV (reachR h.abs.objs o.items) = nums .i64 ls by rw [hls]; rfl] at hm2
  rw [hlen]
  replace hls := Fact.mk hls
  clear hlen
  go_wp2_with (first | (refine wp_setat rfl 55 _ _ rfl (g + 1 + 1) 11 rfl 84 _ [.slice RA ls.length rc] (sC 0 0 0 0 false 0 none 0 0 none 0 0 0 0 false RA ls.length rc) (.slice RA ls.length rc) rfl rfl hm2.pull2 sz_ints (by simp [sC, obC]) (one_one rfl) rfl ?_; intro w3 hs3) | (refine wp_rng rfl 84 _ rfl (g + 1 + 1) 0 rfl (sC 0 0 0 0 false 0 none 0 0 none 0 0 0 0 false RA ls.length rc) (rng_blk hs3 m0) row_S sz_S ?_) | (refine wp_setrow rfl 84 _ _ rfl (g + 1) rfl 84 _ (sC 0 0 0 0 false 0 none 0 0 none 0 0 0 0 false RA ls.length rc) rfl hs3.pull3 sz_S rfl (sC_one _ _ _ _ _ _ _ _ _ _ _ _ _ _ _ _ _ _) ?_; intro w4 hs4))
  have hz := Mem.nil (Mem.nil ((hs4.tail.tail).sub (List.Sublist.cons_cons _ (List.Sublist.cons_cons _ (List.sublist_cons_self _ _)))) 1 none) 2 none
  refine bodyPost_ret (Mm.res_cell rfl _ (g + 1) 84 (sC 0 0 0 0 false 0 none 0 0 none 0 0 0 0 false RA ls.length rc) (0, 0) rfl hs4 m0 row_S sz_S) rfl ⟨_, rfl, h, rfl, rfl, hok.out, ?_⟩
  rw [show reachSd h.abs o = ⟨(0, 0), 0, 0, false, ob0, ls⟩ by rw [hls.out]; rfl]
  exact ⟨none, 0, none, 0, RA, rc, rfl, hz⟩
end Go.Proofs.Ytpibchjkmaghnaa
namespace Go.Proofs.Ytpibchjkmaghnaa
open Go.RowKit Go.Mm
set_option maxHeartbeats 4000000
set_option maxRecDepth 100000
set_option linter.unusedSimpArgs false
def allR (c : Nat) (s : Hs) (o : HOp) : Sd := if c = 19 then reachSd s o else callR c s o
theorem mem_19 {c : Nat} (h : c ∈ [0, 1, 2, 3, 4, 5, 6, 7, 8, 9, 10, 11, 12, 13, 14, 15, 16, 17, 18, 19]) (h' : c ≠ 19) : c ∈ [0, 1, 2, 3, 4, 5, 6, 7, 8, 9, 10, 11, 12, 13, 14, 15, 16, 17, 18] := by
  simp only [List.mem_cons, List.not_mem_nil, or_false] at h ⊢
  omega
theorem reachSd_size {h : Hp} (hok : h.Ok) (o : HOp) : (reachSd h.abs o).ob.items.length ≤ 16777216 ∧ (reachSd h.abs o).ob.keys.length ≤ 16777216 ∧ (reachSd h.abs o).list.length ≤ 16777216 := by
  refine ⟨by simp [reachSd, ob0], by simp [reachSd, ob0], ?_⟩
  have h1 := (reachR_ok h.abs.objs o.items).len
  have h2 := hok.size
  have h3 := h.abs_len'
  simp only [reachSd, List.length_map]
  omega
theorem all_play (w0 : World) : PlayG w0 [0, 1, 2, 3, 4, 5, 6, 7, 8, 9, 10, 11, 12, 13, 14, 15, 16, 17, 18, 19] callS allR := by
  refine ⟨fun c hc r w L o hm hok hg hx hn hw hl => ?_, fun c hc h w L o hm hok hf hx hn hw hl => ?_, fun c hc s o => callS_grow c s o, fun c hc s o h => callS_few c s o h, fun c hc h o hok hn => ?_⟩
  · by_cases q : c = 19
    · subst q
      exact told_more w0 w L r hm 19 (by omega) (by omega) _ _ o ⟨fun w1 L1 hm1 => tellM_reach w0 w1 L1 r hm1 ⟨hok⟩ o ⟨hg⟩ ⟨hx⟩ hn⟩
    · rw [allR, if_neg q]
      exact (calls_play w0).told c (mem_19 hc q) r w L o hm hok hg hx hn hw hl
  · by_cases q : c = 19
    · subst q
      exact askReach_ok w0 w L h hm ⟨hok⟩ o ⟨hx⟩ hn
    · rw [allR, if_neg q]
      exact (calls_play w0).ask c (mem_19 hc q) h w L o hm hok hf hx hn hw hl
  · by_cases q : c = 19
    · subst q
      exact reachSd_size hok o
    · rw [allR, if_neg q]
      exact (calls_play w0).size c (mem_19 hc q) h o hok hn
theorem mem20 {j : Nat} (h : j < 20) : j ∈ [0, 1, 2, 3, 4, 5, 6, 7, 8, 9, 10, 11, 12, 13, 14, 15, 16, 17, 18, 19] := by
  simp only [List.mem_cons, List.not_mem_nil, or_false]
  omega
structure TwGood (h : Hp) (r : Rf) (k : Nat) : Prop where
  ok : h.Ok
  few : h.abs.Few
  rok : r.Ok
  abs : r.abs = h.abs
  len : h.ths.length ≤ 2097152 + k
end Go.Proofs.Ytpibchjkmaghnaa
namespace Go.Proofs.Ytpibchjkmaghnaa
open Go.RowKit Go.Mm
set_option maxHeartbeats 4000000
set_option maxRecDepth 100000
set_option linter.unusedSimpArgs false
/-- Did the call answer that it has changed nothing? -/
def refuB (c : Nat) (r : Sd) : Bool :=
  if c = 1 ∨ c = 2 ∨ c = 7 ∨ c = 10 ∨ c = 11 ∨ c = 13 ∨ c = 19 then true
  else if c = 8 ∨ c = 14 ∨ c = 18 then decide (r.trap ≠ 0)
  else if c = 9 ∨ c = 12 ∨ c = 15 then decide (r.trap ≠ 0) || !r.ok
  else !r.ok
theorem put_same (s : Hs) (i : Nat) (o : Ob) (h : o = s.objs.getD i ob0) : s.put i o = s := by
  subst h
  unfold Hs.put
  have : s.objs.set i (s.objs.getD i ob0) = s.objs := by
    apply List.ext_getElem?
    intro j
    by_cases q : i = j
    · subst q
      by_cases h : i < s.objs.length
      · rw [List.getElem?_set_self h, List.getD_eq_getElem?_getD, List.getElem?_eq_getElem h]; rfl
      · rw [List.getElem?_eq_none (by rw [List.length_set]; omega), List.getElem?_eq_none (by omega)]
    · rw [List.getElem?_set_ne q]
  rw [this]
theorem make_no {s : Hs} {may : Bool} {n k : Int} {o : Ob} (h : (s.makeV may n k).ok = false) : s.make may n o = s := by
  unfold Hs.makeV at h
  unfold Hs.make
  cases q : may && s.room n
  · rfl
  · rw [q] at h; cases h
theorem still_S (c : Nat) (s : Hs) (o : HOp) (h : refuB c (allR c s o) = true) : callS c s o = s := by
  by_cases q19 : c = 19
  · subst q19; rfl
  rw [allR, if_neg q19] at h
  unfold callS callR at *
  split
  · simp only [refuB, mkR, mkS, sdV] at h ⊢
    simp only [show ¬ ((0 : Nat) = 1) by decide, show ¬ ((0 : Nat) = 2) by decide, show ¬ ((0 : Nat) = 7) by decide, show ¬ ((0 : Nat) = 10) by decide, show ¬ ((0 : Nat) = 11) by decide, show ¬ ((0 : Nat) = 13) by decide, show ¬ ((0 : Nat) = 19) by decide, show ¬ ((0 : Nat) = 8) by decide, show ¬ ((0 : Nat) = 14) by decide, show ¬ ((0 : Nat) = 18) by decide, show ¬ ((0 : Nat) = 9) by decide, show ¬ ((0 : Nat) = 12) by decide, show ¬ ((0 : Nat) = 15) by decide, or_self, if_false] at h
    have : s.room o.M = false := by simpa using h
    unfold Hs.spend
    rw [this]
  · exact make_no (k := 6) (by simpa [refuB, mkR] using h)
  · exact make_no (k := 7) (by simpa [refuB, mkR] using h)
  · exact make_no (k := 8) (by simpa [refuB, mkR] using h)
  · exact make_no (k := 9) (by simpa [refuB, mkR] using h)
  · have h : ¬ getT s o.v o.I = 0 := by simpa [refuB, sdV] using h
    unfold getT at h
    unfold setS
    split
    · rfl
    · rename_i i hi
      rw [hi] at h
      simp only at h
      split
      · rename_i q; rw [if_pos q] at h; exact absurd rfl h
      · rfl
  · have h : ¬ pushT s o.v = 0 ∨ pushB s o.v = false := by simpa [refuB, sdV] using h
    unfold pushT pushB at h
    unfold pushS
    split
    · rfl
    · rename_i i hi
      rw [hi] at h
      simp only at h
      split
      · rfl
      · rename_i q
        rw [if_neg q, if_neg q] at h
        have : s.room 1 = false := by simpa using h
        rw [this]
  · have h : ¬ setFT s o.v o.I = 0 ∨ setFB s o.v o.I = false := by simpa [refuB, sdV] using h
    unfold setFT setFB at h
    unfold setFS
    split
    · rfl
    · rename_i i hi
      rw [hi] at h
      simp only at h
      split
      · rename_i j hj
        rw [hj] at h
        simp at h
      · rename_i hj
        rw [hj] at h
        simp only at h
        split
        · rfl
        · rename_i q
          rw [if_neg q, if_neg q] at h
          have : s.room 2 = false := by simpa using h
          rw [this]
  · have h : ¬ delT s o.v o.I = 0 := by simpa [refuB, sdV] using h
    unfold delT at h
    unfold delS
    split
    · rfl
    · rename_i i hi
      rw [hi] at h
      simp only at h
      split
      · rename_i j hj
        rw [hj] at h
        exact absurd rfl h
      · rfl
  · have h : ¬ (keysW s o.v).trap = 0 ∨ (keysW s o.v).ok = false := by simpa [refuB, sdV] using h
    unfold keysW at h
    unfold keysS
    split
    · rfl
    · rename_i i hi
      rw [hi] at h
      simp only at h
      have ht : (s.makeV true (2 + ((s.objs.getD i ob0).keys.length : Int)) 6).trap = 0 := by
        unfold Hs.makeV
        split <;> rfl
      rcases h with h | h
      · exact absurd ht h
      · exact make_no (k := 6) h
  · have h : sendB s o.v = false := by simpa [refuB, sdV] using h
    unfold sendB at h
    unfold sendS
    split
    · rfl
    · rename_i i hi
      rw [hi] at h
      simp only at h
      refine put_same s i _ ?_
      unfold sendO
      by_cases q : (s.objs.getD i ob0).shut = true
      · rw [if_pos q]
      · rw [if_neg q] at h
        rw [if_neg q, if_neg (of_decide_eq_false h)]
  · have h : recvB s o.v = false := by simpa [refuB, sdV] using h
    unfold recvB at h
    unfold recvS
    split
    · rfl
    · rename_i i hi
      rw [hi] at h
      simp only at h
      refine put_same s i _ ?_
      by_cases q : (s.objs.getD i ob0).items = []
      · rw [q]
        conv => rhs; rw [show s.objs.getD i ob0 = { s.objs.getD i ob0 with items := (s.objs.getD i ob0).items } from rfl, q]
        rfl
      · rw [if_neg q] at h; cases h
  · have h : ¬ shutT s o.v = 0 := by simpa [refuB, sdV] using h
    unfold shutT shutR at h
    unfold shutS
    split
    · rfl
    · rename_i i hi
      rw [hi] at h
      simp only at h
      refine put_same s i _ ?_
      by_cases q : (s.objs.getD i ob0).shut = true
      · rw [show s.objs.getD i ob0 = { s.objs.getD i ob0 with shut := (s.objs.getD i ob0).shut } from rfl, q]
      · rw [if_neg q] at h; exact absurd rfl h
  · rfl
/-- The same, but with more room. -/
structure Hs.Wid (s t : Hs) : Prop where
  bud : s.budget ≤ t.budget
  spe : s.spent = t.spent
  obj : s.objs = t.objs
theorem Hs.Wid.room {s t : Hs} (h : s.Wid t) (n : Int) : s.room n = t.room n ∨ (s.room n = false ∧ t.room n = true ∧ s.budget < t.spent + n) := by
  have h1 := h.bud
  have h2 := h.spe
  unfold Hs.room
  by_cases q0 : 0 ≤ n
  · by_cases q1 : n ≤ s.budget - s.spent
    · left; rw [decide_eq_true q1, decide_eq_true (show n ≤ t.budget - t.spent by omega)]
    · by_cases q2 : n ≤ t.budget - t.spent
      · right; rw [decide_eq_true q0, decide_eq_false q1, decide_eq_true q2]; exact ⟨rfl, rfl, by omega⟩
      · left; rw [decide_eq_false q1, decide_eq_false q2]
  · left; rw [decide_eq_false q0]; simp
/-- What a call does with more room. -/
def WidQ (c : Nat) (s t s' t' : Hs) (x y : Sd) : Prop := (x = y ∧ s'.Wid t') ∨ (refuB c x = true ∧ x.trap = 0 ∧ x.ok = false ∧ refuB c y = false ∧ y.ok = true ∧ s.budget < t'.spent ∧ x.n = y.n ∧ x.trap = y.trap)
theorem Hs.Wid.put {s t : Hs} (h : s.Wid t) (i : Nat) (o : Ob) : (s.put i o).Wid (t.put i o) := ⟨h.bud, h.spe, by simp [Hs.put, h.obj]⟩
theorem Hs.Wid.spend {s t : Hs} (h : s.Wid t) {n : Int} (hs : s.room n = true) (ht : t.room n = true) : (s.spend n).Wid (t.spend n) := by
  unfold Hs.spend
  rw [hs, ht]
  exact ⟨h.bud, by simp [h.spe], h.obj⟩
theorem Hs.Wid.make {s t : Hs} (h : s.Wid t) (may : Bool) (n k : Int) (o : Ob) :
    (s.makeV may n k = t.makeV may n k ∧ (s.make may n o).Wid (t.make may n o)) ∨ ((s.makeV may n k) = sdV (0, 0) 0 0 false ∧ (t.makeV may n k) = sdV (k, t.objs.length) 0 0 true ∧ s.budget < (t.make may n o).spent) := by
  unfold Hs.makeV Hs.make
  cases may
  · left; exact ⟨rfl, h⟩
  · rcases h.room n with q | ⟨q1, q2, q3⟩
    · left
      rw [q]
      cases t.room n
      · exact ⟨rfl, h⟩
      · exact ⟨by simp [h.obj], h.bud, by simp [h.spe], by simp [h.obj]⟩
    · right
      rw [q1, q2]
      exact ⟨rfl, rfl, q3⟩
theorem wider_S (c : Nat) (s t : Hs) (o : HOp) (h : s.Wid t) : WidQ c s t (callS c s o) (callS c t o) (allR c s o) (allR c t o) := by
  have hob := h.obj
  by_cases q19 : c = 19
  · subst q19
    left
    exact ⟨by simp [allR, reachSd, hob], h⟩
  rw [allR, allR, if_neg q19, if_neg q19]
  have hat : ∀ (v : V2) (k : Int), s.obAt v k = t.obAt v k := fun v k => by unfold Hs.obAt; rw [hob]
  unfold callS callR
  split
  · simp only [mkS, mkR]
    rcases h.room o.M with q | ⟨q1, q2, q3⟩
    · left
      unfold Hs.spend
      rw [q]
      cases t.room o.M
      · exact ⟨rfl, h⟩
      · exact ⟨rfl, h.bud, by simp [h.spe], hob⟩
    · right
      unfold Hs.spend
      rw [q1, q2]
      exact ⟨rfl, rfl, rfl, rfl, rfl, q3, rfl, rfl⟩
  · rcases h.make (decide (o.n ≤ 4096)) (2 + o.n) 6 ⟨6, o.items, [], 0, 0, false⟩ with q | ⟨q1, q2, q3⟩
    · exact .inl q
    · exact .inr ⟨by simp only [mkR]; rw [q1]; rfl, by simp only [mkR]; rw [q1]; rfl, by simp only [mkR]; rw [q1]; rfl, by simp only [mkR]; rw [q2]; rfl, by simp only [mkR]; rw [q2]; rfl, q3, by simp only [mkR]; rw [q1, q2]; rfl, by simp only [mkR]; rw [q1, q2]; rfl⟩
  · rcases h.make true 2 7 ⟨7, [], [], 0, 0, false⟩ with q | ⟨q1, q2, q3⟩
    · exact .inl q
    · exact .inr ⟨by simp only [mkR]; rw [q1]; rfl, by simp only [mkR]; rw [q1]; rfl, by simp only [mkR]; rw [q1]; rfl, by simp only [mkR]; rw [q2]; rfl, by simp only [mkR]; rw [q2]; rfl, q3, by simp only [mkR]; rw [q1, q2]; rfl, by simp only [mkR]; rw [q1, q2]; rfl⟩
  · rcases h.make (decide (0 ≤ o.M) && decide (o.n ≤ 4096)) (2 + o.n) 8 ⟨8, o.items, [], o.M, 0, false⟩ with q | ⟨q1, q2, q3⟩
    · exact .inl q
    · exact .inr ⟨by simp only [mkR]; rw [q1]; rfl, by simp only [mkR]; rw [q1]; rfl, by simp only [mkR]; rw [q1]; rfl, by simp only [mkR]; rw [q2]; rfl, by simp only [mkR]; rw [q2]; rfl, q3, by simp only [mkR]; rw [q1, q2]; rfl, by simp only [mkR]; rw [q1, q2]; rfl⟩
  · rcases h.make (decide (1 ≤ o.M) && decide (o.M ≤ 64)) (2 + o.M) 9 ⟨9, [], [], 0, o.M, false⟩ with q | ⟨q1, q2, q3⟩
    · exact .inl q
    · exact .inr ⟨by simp only [mkR]; rw [q1]; rfl, by simp only [mkR]; rw [q1]; rfl, by simp only [mkR]; rw [q1]; rfl, by simp only [mkR]; rw [q2]; rfl, by simp only [mkR]; rw [q2]; rfl, q3, by simp only [mkR]; rw [q1, q2]; rfl, by simp only [mkR]; rw [q1, q2]; rfl⟩
  · left
    simp only [getT, setS, hat, hob]
    refine ⟨trivial, ?_⟩
    split
    · exact h
    · split
      · exact h.put _ _
      · exact h
  · simp only [pushT, pushB, pushS, hat, hob]
    split
    · exact .inl ⟨rfl, h⟩
    · split
      · exact .inl ⟨rfl, h⟩
      · rename_i i _ q4
        rcases h.room 1 with q | ⟨q1, q2, q3⟩
        · left
          rw [q]
          cases q' : t.room 1
          · exact ⟨rfl, h⟩
          · exact ⟨rfl, (h.spend (by rw [q, q']) q').put _ _⟩
        · right
          rw [q1, q2]
          refine ⟨rfl, rfl, rfl, rfl, rfl, ?_, rfl, rfl⟩
          unfold Hs.put Hs.spend
          rw [q2]
          exact q3
  · simp only [setFT, setFB, setFS, hat, hob]
    split
    · exact .inl ⟨rfl, h⟩
    · split
      · exact .inl ⟨rfl, h.put _ _⟩
      · split
        · exact .inl ⟨rfl, h⟩
        · rcases h.room 2 with q | ⟨q1, q2, q3⟩
          · left
            rw [q]
            cases q' : t.room 2
            · exact ⟨rfl, h⟩
            · exact ⟨rfl, (h.spend (by rw [q, q']) q').put _ _⟩
          · right
            rw [q1, q2]
            refine ⟨rfl, rfl, rfl, rfl, rfl, ?_, rfl, rfl⟩
            unfold Hs.put Hs.spend
            rw [q2]
            exact q3
  · left
    simp only [delT, delS, hat, hob]
    refine ⟨trivial, ?_⟩
    split
    · exact h
    · split
      · exact h.put _ _
      · exact h
  · simp only [keysW, keysS, hat, hob]
    split
    · exact .inl ⟨rfl, h⟩
    · rename_i i _
      rcases h.make true (2 + ((t.objs.getD i ob0).keys.length : Int)) 6 ⟨6, texts (t.objs.getD i ob0).keys, [], 0, 0, false⟩ with ⟨q1, q2⟩ | ⟨q1, q2, q3⟩
      · exact .inl ⟨by rw [q1], q2⟩
      · exact .inr ⟨by rw [q1]; rfl, by rw [q1]; rfl, by rw [q1]; rfl, by rw [q2]; rfl, by rw [q2]; rfl, q3, by rw [q1, q2]; rfl, by rw [q1, q2]; rfl⟩
  · left
    simp only [sendB, sendT, sendS, hat, hob]
    refine ⟨trivial, ?_⟩
    split
    · exact h
    · exact h.put _ _
  · left
    simp only [recvV, recvB, recvT, recvS, hat, hob]
    refine ⟨trivial, ?_⟩
    split
    · exact h
    · exact h.put _ _
  · left
    simp only [shutT, shutS, hat, hob]
    refine ⟨trivial, ?_⟩
    split
    · exact h
    · exact h.put _ _
  · left
    refine ⟨?_, h⟩
    split <;> simp_all [mkR, getV, getT, sizeN, sizeT, fieldV, fieldT, hasB, hasT, Hs.is, Hs.at, h.spe]
/-- The first object stays of its kind. -/
def Hs.First (s : Hs) : Prop := 0 < s.objs.length ∧ (s.objs.getD 0 ob0).kind = 7
theorem Hs.First.put {s : Hs} (h : s.First) (i : Nat) {o : Ob} (ho : o.kind = (s.objs.getD i ob0).kind) : (s.put i o).First := by
  refine ⟨by simpa [Hs.put] using h.1, ?_⟩
  by_cases q : i = 0
  · subst q
    simp only [Hs.put]
    rw [List.getD_eq_getElem?_getD, List.getElem?_set_self h.1]
    simpa [ho] using h.2
  · simp only [Hs.put]
    rw [List.getD_eq_getElem?_getD, List.getElem?_set_ne q, ← List.getD_eq_getElem?_getD]
    exact h.2
theorem Hs.First.spend {s : Hs} (h : s.First) (n : Int) : (s.spend n).First := by unfold Hs.First; rw [spend_objs]; exact h
theorem Hs.First.make {s : Hs} (h : s.First) (may : Bool) (n : Int) (o : Ob) : (s.make may n o).First := by
  unfold Hs.make
  split
  · refine ⟨by simp, ?_⟩
    show ((s.objs ++ [o]).getD 0 ob0).kind = 7
    rw [List.getD_eq_getElem?_getD, List.getElem?_append_left h.1, ← List.getD_eq_getElem?_getD]
    exact h.2
  · exact h
theorem first_S (c : Nat) (s : Hs) (o : HOp) (h : s.First) : (callS c s o).First := by
  unfold callS
  split
  · exact h.spend _
  · exact h.make _ _ _
  · exact h.make _ _ _
  · exact h.make _ _ _
  · exact h.make _ _ _
  · unfold setS
    split
    · exact h
    · split
      · exact h.put _ rfl
      · exact h
  · unfold pushS
    split
    · exact h
    · split
      · exact h
      · split
        · exact (h.spend 1).put _ (by rw [spend_objs])
        · exact h
  · unfold setFS
    split
    · exact h
    · split
      · exact h.put _ rfl
      · split
        · exact h
        · split
          · exact (h.spend 2).put _ (by rw [spend_objs])
          · exact h
  · unfold delS
    split
    · exact h
    · split
      · exact h.put _ rfl
      · exact h
  · unfold keysS
    split
    · exact h
    · exact h.make _ _ _
  · unfold sendS
    split
    · exact h
    · exact h.put _ rfl
  · unfold recvS
    split
    · exact h
    · exact h.put _ rfl
  · unfold shutS
    split
    · exact h
    · exact h.put _ rfl
  · exact h
theorem spend_bud (s : Hs) (n : Int) : (s.spend n).budget = s.budget := by unfold Hs.spend; split <;> rfl
theorem make_bud (s : Hs) (may : Bool) (n : Int) (o : Ob) : (s.make may n o).budget = s.budget := by unfold Hs.make; split <;> rfl
theorem bud_S (c : Nat) (s : Hs) (o : HOp) : (callS c s o).budget = s.budget := by
  unfold callS
  split
  · exact spend_bud _ _
  · exact make_bud _ _ _ _
  · exact make_bud _ _ _ _
  · exact make_bud _ _ _ _
  · exact make_bud _ _ _ _
  · unfold setS
    split
    · rfl
    · split <;> rfl
  · unfold pushS
    split
    · rfl
    · split
      · rfl
      · split
        · exact spend_bud _ _
        · rfl
  · unfold setFS
    split
    · rfl
    · split
      · rfl
      · split
        · rfl
        · split
          · exact spend_bud _ _
          · rfl
  · unfold delS
    split
    · rfl
    · split <;> rfl
  · unfold keysS
    split
    · rfl
    · exact make_bud _ _ _ _
  · unfold sendS
    split <;> rfl
  · unfold recvS
    split <;> rfl
  · unfold shutS
    split <;> rfl
  · rfl
end Go.Proofs.Ytpibchjkmaghnaa
namespace Go.Proofs.Ytpibchjkmaghnaa
open Go.RowKit Go.Mm
set_option maxHeartbeats 4000000
set_option maxRecDepth 100000
set_option linter.unusedSimpArgs false
def kindsOf (l : List Ob) : List Int := l.map (·.kind)
theorem kindsOf_len (l : List Ob) : (kindsOf l).length = l.length := by simp [kindsOf]
theorem kindsOf_at (l : List Ob) (i : Nat) : (kindsOf l).getD i 0 = (l.getD i ob0).kind := by
  unfold kindsOf
  by_cases h : i < l.length
  · simp [h]
  · simp [List.getElem?_eq_none (show l.length ≤ i by omega), ob0]
/-- The number that a value names, among objects of these kinds. -/
def nmKs (ks : List Int) (v : V2) : Option Nat := if 0 ≤ v.2 ∧ v.2 < ks.length ∧ ks.getD v.2.toNat 0 = v.1 then some v.2.toNat else none
theorem nm_ks (l : List Ob) (v : V2) : nm l v = nmKs (kindsOf l) v := by
  unfold nm nmKs
  rw [kindsOf_len, kindsOf_at]
theorem rightV_ks {l m : List Ob} (h : kindsOf l = kindsOf m) (v : V2) : rightV l v = rightV m v := by
  unfold rightV nmB
  rw [nm_ks, nm_ks, h]
theorem nm_app {l : List Ob} (m : List Ob) {v : V2} {i : Nat} (h : nm l v = some i) : nm (l ++ m) v = some i := by
  unfold nm at h ⊢
  split at h
  · rename_i q
    obtain ⟨q0, q1, q2⟩ := q
    rw [if_pos]
    · exact h
    · refine ⟨q0, by rw [List.length_append]; omega, ?_⟩
      rw [List.getD_eq_getElem?_getD, List.getElem?_append_left (by omega), ← List.getD_eq_getElem?_getD]
      exact q2
  · cases h
theorem rightV_app {l : List Ob} (m : List Ob) {v : V2} (h : rightV l v = true) : rightV (l ++ m) v = true := by
  unfold rightV at h ⊢
  cases hf : flatB v with
  | some b => rw [hf] at h; exact h
  | none =>
    rw [hf] at h
    simp only [Option.getD_none] at h ⊢
    unfold nmB at h ⊢
    cases hn : nm l v with
    | none => rw [hn] at h; simp at h
    | some i =>
      rw [hn] at h
      rw [nm_app m hn]
      exact h
theorem refB_app {l : List Ob} (m : List Ob) {o : Ob} (h : refB l o = true) : refB (l ++ m) o = true := by
  unfold refB at h ⊢
  rw [Bool.and_eq_true] at h ⊢
  exact ⟨List.all_eq_true.2 fun v hv => rightV_app m (List.all_eq_true.1 h.1 v hv), h.2⟩
theorem loadB_app {l : List Ob} {o : Ob} (h : loadB l = true) (hi : ∀ v, v ∈ o.items → rightV l v = true) (ht : tabB o = true) : loadB (l ++ [o]) = true := by
  unfold loadB at h ⊢
  rw [List.all_eq_true] at h ⊢
  intro u hu
  rcases List.mem_append.1 hu with hu | hu
  · exact refB_app _ (h u hu)
  · simp only [List.mem_singleton] at hu
    subst hu
    unfold refB
    rw [Bool.and_eq_true]
    exact ⟨List.all_eq_true.2 fun v hv => rightV_app _ (hi v hv), ht⟩
theorem refB_ks {l m : List Ob} (h : kindsOf l = kindsOf m) (o : Ob) : refB l o = refB m o := by
  unfold refB
  congr 2
  funext v
  exact rightV_ks h v
theorem kindsOf_set {l : List Ob} {i : Nat} {o : Ob} (hk : o.kind = (l.getD i ob0).kind) : kindsOf (l.set i o) = kindsOf l := by
  unfold kindsOf
  apply List.ext_getElem?
  intro j
  rw [List.getElem?_map, List.getElem?_map]
  by_cases q : i = j
  · subst q
    by_cases h : i < l.length
    · rw [List.getElem?_set_self h, List.getElem?_eq_getElem h]
      simp only [Option.map_some]
      rw [hk]
      simp [h]
    · rw [List.getElem?_eq_none (by rw [List.length_set]; omega), List.getElem?_eq_none (by omega)]
  · rw [List.getElem?_set_ne q]
theorem loadB_set {l : List Ob} {i : Nat} {o : Ob} (h : loadB l = true) (hk : o.kind = (l.getD i ob0).kind) (hi : ∀ v, v ∈ o.items → rightV l v = true) (ht : tabB o = true) : loadB (l.set i o) = true := by
  unfold loadB at h ⊢
  rw [List.all_eq_true] at h ⊢
  intro u hu
  rw [refB_ks (kindsOf_set hk)]
  rcases List.mem_or_eq_of_mem_set hu with hu | rfl
  · exact h u hu
  · unfold refB
    rw [Bool.and_eq_true]
    exact ⟨List.all_eq_true.2 hi, ht⟩
theorem loadB_at {l : List Ob} (h : loadB l = true) {i : Nat} (hi : i < l.length) : (∀ v, v ∈ (l.getD i ob0).items → rightV l v = true) ∧ tabB (l.getD i ob0) = true := by
  unfold loadB at h
  have := List.all_eq_true.1 h (l.getD i ob0) (by rw [List.getD_eq_getElem?_getD, List.getElem?_eq_getElem hi]; exact List.getElem_mem _)
  unfold refB at this
  rw [Bool.and_eq_true] at this
  exact ⟨List.all_eq_true.1 this.1, this.2⟩
theorem tabB_kind {o : Ob} (h : tabB o = true) : o.kind = 6 ∨ o.kind = 7 ∨ o.kind = 8 ∨ o.kind = 9 := by
  unfold tabB at h
  split at h
  · omega
  · split at h
    · omega
    · split at h
      · omega
      · split at h
        · omega
        · cases h
/-- A value that is right among objects of these kinds. -/
def aimV (ks : List Int) (v : V2) : V2 := if v.1 < 6 ∨ 9 < v.1 ∨ ks.length = 0 then (2, v.2) else (ks.getD (pickF v.2 ks.length).toNat 0, pickF v.2 ks.length)
theorem aimV_right {l : List Ob} (h : loadB l = true) (v : V2) : rightV l (aimV (kindsOf l) v) = true := by
  unfold aimV
  split
  · rfl
  · rename_i q
    simp only [not_or] at q
    obtain ⟨_, _, q2⟩ := q
    have hp := pickF_rng v.2 (kindsOf l).length (by omega)
    have hi : (pickF v.2 (kindsOf l).length).toNat < l.length := by rw [kindsOf_len] at hp ⊢; omega
    have hk := tabB_kind (loadB_at h hi).2
    rw [kindsOf_at]
    generalize hK : (l.getD (pickF v.2 (kindsOf l).length).toNat ob0).kind = K at hk ⊢
    have hnm : nm l (K, pickF v.2 (kindsOf l).length) = some (pickF v.2 (kindsOf l).length).toNat := by
      unfold nm
      rw [if_pos]
      refine ⟨hp.1, ?_, hK⟩
      show pickF v.2 (kindsOf l).length < (l.length : Int)
      omega
    unfold rightV nmB
    rw [hnm]
    rcases hk with rfl | rfl | rfl | rfl <;> rfl
/-- A heap that is being filled. -/
structure Lay (s : Hs) : Prop where
  load : loadB s.objs = true
  bud : s.budget = 1048576
theorem Lay.few {s : Hs} (h : s.objs.length ≤ 16777216) (hl : Lay s) : s.Few := load_few hl.load s.budget s.spent
theorem make_two (s : Hs) (may : Bool) (n k : Int) (o : Ob) :
    (s.makeR may n k = .tuple #[.agg #[.int .i64 k, .int .i64 s.objs.length], .bool true] ∧ s.make may n o = ⟨s.budget, s.spent + n, s.objs ++ [o]⟩ ∧ may = true) ∨ (s.makeR may n k = .tuple #[.agg #[.int .i64 0, .int .i64 0], .bool false] ∧ s.make may n o = s ∧ (may = false ∨ s.room n = false)) := by
  unfold Hs.makeR Hs.make
  cases may
  · exact .inr ⟨rfl, rfl, .inl rfl⟩
  · cases hr : s.room n
    · exact .inr ⟨rfl, rfl, .inr rfl⟩
    · exact .inl ⟨rfl, rfl, rfl⟩
theorem obAt_lt {s : Hs} {v : V2} {k : Int} {i : Nat} (h : s.obAt v k = some i) : i < s.objs.length ∧ (s.objs.getD i ob0).kind = k := by
  unfold Hs.obAt at h
  split at h
  · rename_i j hn
    split at h
    · rename_i q
      cases h
      exact ⟨(nm_lt hn).1, q⟩
    · cases h
  · cases h
theorem Lay.push {s : Hs} (h : Lay s) (v x : V2) (hx : rightV s.objs x = true) : Lay (pushS s v x) ∧ kindsOf (pushS s v x).objs = kindsOf s.objs := by
  unfold pushS
  split
  · exact ⟨h, rfl⟩
  · rename_i i hi
    obtain ⟨hil, hk⟩ := obAt_lt hi
    obtain ⟨h1, h2⟩ := loadB_at h.load hil
    split
    · exact ⟨h, rfl⟩
    · rename_i q
      split
      · refine ⟨⟨?_, spend_bud s 1 ▸ h.bud⟩, ?_⟩
        · show loadB ((s.spend 1).objs.set i _) = true
          rw [spend_objs]
          refine loadB_set h.load rfl (fun u hu => ?_) ?_
          · rcases List.mem_append.1 hu with hu | hu
            · exact h1 u hu
            · simp only [List.mem_singleton] at hu
              subst hu
              exact hx
          · unfold tabB at h2 ⊢
            simp only [hk, if_true] at h2 ⊢
            simp only [Bool.and_eq_true, decide_eq_true_eq, List.length_append, List.length_singleton] at h2 ⊢
            exact ⟨⟨⟨by omega, h2.1.1.2⟩, h2.1.2⟩, h2.2⟩
        · show kindsOf ((s.spend 1).objs.set i _) = _
          rw [spend_objs]
          exact kindsOf_set rfl
      · exact ⟨h, rfl⟩
theorem Lay.setF {s : Hs} (h : Lay s) (v : V2) (key : Int) (x : V2) (hx : rightV s.objs x = true) (hkey : 0 ≤ key) : Lay (setFS s v key x) ∧ kindsOf (setFS s v key x).objs = kindsOf s.objs := by
  unfold setFS
  split
  · exact ⟨h, rfl⟩
  · rename_i i hi
    obtain ⟨hil, hk⟩ := obAt_lt hi
    obtain ⟨h1, h2⟩ := loadB_at h.load hil
    split
    · rename_i j hj
      refine ⟨⟨?_, h.bud⟩, kindsOf_set rfl⟩
      refine loadB_set h.load rfl (fun u hu => ?_) ?_
      · rcases List.mem_or_eq_of_mem_set hu with hu | rfl
        · exact h1 u hu
        · exact hx
      · unfold tabB at h2 ⊢
        simp only [hk, show ¬ (7 : Int) = 6 by decide, show ¬ (7 : Int) = 8 by decide, show ¬ (7 : Int) = 9 by decide, if_false, if_true, List.length_set] at h2 ⊢
        exact h2
    · rename_i hj
      split
      · exact ⟨h, rfl⟩
      · rename_i q
        split
        · refine ⟨⟨?_, spend_bud s 2 ▸ h.bud⟩, ?_⟩
          · show loadB ((s.spend 2).objs.set i _) = true
            rw [spend_objs]
            refine loadB_set h.load rfl (fun u hu => ?_) ?_
            · rcases List.mem_append.1 hu with hu | hu
              · exact h1 u hu
              · simp only [List.mem_singleton] at hu
                subst hu
                exact hx
            · unfold tabB rightKeysB at h2 ⊢
              simp only [hk, show ¬ (7 : Int) = 6 by decide, show ¬ (7 : Int) = 8 by decide, show ¬ (7 : Int) = 9 by decide, if_false, if_true] at h2 ⊢
              simp only [Bool.and_eq_true, decide_eq_true_eq, List.length_append, List.length_singleton, List.all_append, List.all_cons, List.all_nil, beq_iff_eq] at h2 ⊢
              obtain ⟨⟨⟨⟨⟨a1, a2⟩, a3⟩, a4⟩, a5⟩, a6⟩ := h2
              refine ⟨⟨⟨⟨⟨by omega, a2, hkey, trivial⟩, ?_⟩, by omega⟩, a5⟩, a6⟩
              rw [List.nodup_append]
              refine ⟨a3, by simp, fun a ha b hb => ?_⟩
              simp only [List.mem_singleton] at hb
              subst hb
              intro e
              subst e
              rw [List.idxOf?_eq_none_iff] at hj
              exact hj ha
          · show kindsOf ((s.spend 2).objs.set i _) = _
            rw [spend_objs]
            exact kindsOf_set rfl
        · exact ⟨h, rfl⟩
theorem Lay.send {s : Hs} (h : Lay s) (v x : V2) (hx : rightV s.objs x = true) : Lay (sendS s v x) ∧ kindsOf (sendS s v x).objs = kindsOf s.objs := by
  unfold sendS
  split
  · exact ⟨h, rfl⟩
  · rename_i i hi
    obtain ⟨hil, hk⟩ := obAt_lt hi
    obtain ⟨h1, h2⟩ := loadB_at h.load hil
    refine ⟨⟨?_, h.bud⟩, kindsOf_set rfl⟩
    refine loadB_set h.load rfl (fun u hu => ?_) ?_
    · have hu' : u ∈ sendO (s.objs.getD i ob0) x := hu
      unfold sendO at hu'
      split at hu'
      · exact h1 u hu'
      · split at hu'
        · rcases List.mem_append.1 hu' with hu | hu
          · exact h1 u hu
          · simp only [List.mem_singleton] at hu
            subst hu
            exact hx
        · exact h1 u hu'
    · have hle : ((sendO (s.objs.getD i ob0) x).length : Int) ≤ (s.objs.getD i ob0).cap ∨ (sendO (s.objs.getD i ob0) x).length = (s.objs.getD i ob0).items.length := by
        unfold sendO
        split
        · exact .inr rfl
        · split
          · left; simp only [List.length_append, List.length_singleton]; omega
          · exact .inr rfl
      unfold tabB at h2 ⊢
      simp only [hk, show ¬ (9 : Int) = 6 by decide, show ¬ (9 : Int) = 8 by decide, if_false, if_true] at h2 ⊢
      simp only [Bool.and_eq_true, decide_eq_true_eq] at h2 ⊢
      obtain ⟨⟨⟨⟨a1, a2⟩, a3⟩, a4⟩, a5⟩ := h2
      exact ⟨⟨⟨⟨a1, a2⟩, by rcases hle with h | h <;> omega⟩, a4⟩, a5⟩
theorem Lay.add {s : Hs} (h : Lay s) (n : Int) (o : Ob) (hi : ∀ v, v ∈ o.items → rightV s.objs v = true) (ht : tabB o = true) : Lay ⟨s.budget, s.spent + n, s.objs ++ [o]⟩ ∧ kindsOf (s.objs ++ [o]) = kindsOf s.objs ++ [o.kind] :=
  ⟨⟨loadB_app h.load hi ht, h.bud⟩, by simp [kindsOf]⟩
end Go.Proofs.Ytpibchjkmaghnaa
namespace Go.Proofs.Ytpibchjkmaghnaa
open Go.RowKit Go.Mm
set_option maxHeartbeats 4000000
set_option maxRecDepth 100000
set_option linter.unusedSimpArgs false
theorem plainM_ok (w : World) (n : Int) : Calls Try.prog 73 #[.int .i64 n] w fun e w' => e = .returned (.agg #[.int .i64 2, .int .i64 n]) ∧ Gr w w' := by
  go_enter Try.func73, Try.ntmps73
  go_wp2_with (refine wp_setrow rfl 27 _ _ rfl w.heap.size rfl 27 _ [.int .i64 2, .int .i64 n] rfl ((Mem.start w).alloc _) sz_V rfl (cV_one (2, n)) ?_; intro w9 hm9)
  refine bodyPost_ret (Mm.res_cell rfl _ w.heap.size 27 [.int .i64 2, .int .i64 n] (0, 0) rfl hm9 m0 row_V sz_V) rfl ⟨rfl, hm9.below⟩
theorem aim_ok (w : World) (K : Option Addr) (n c : Nat) (ks : List Int) (hk : Fact (RdC w 1 (.slice K n c) (nums .i64 ks))) (hn : n ≤ 1048577) (v : V2) :
    Calls Try.prog 67 #[.slice K n c, .agg #[.int .i64 v.1, .int .i64 v.2]] w fun e w' => e = .returned (.agg #[.int .i64 (aimV ks v).1, .int .i64 (aimV ks v).2]) ∧ Gr w w' := by
  have hl := hk.out.nlen
  have hm1 := ((Mem.start w).alloc (.cells [.int .i64 v.1, .int .i64 v.2].toArray 27)).alloc (.cells [.int .i64 0, .int .i64 0].toArray 27)
  simp only [World.size_alloc] at hm1
  obtain ⟨r, hr⟩ : ∃ r, r = aimV ks v := ⟨_, rfl⟩
  rw [← hr]
  unfold aimV at hr
  rw [hl] at hr
  replace hr := Fact.mk hr
  go_enter Try.func67, Try.ntmps67
  go_upto_region 1 with (fail)
  generalize hgb : w.heap.size = g at hm1 ⊢
  generalize hw1 : (w.alloc (.cells [.int .i64 v.1, .int .i64 v.2].toArray 27)).alloc (.cells [.int .i64 0, .int .i64 0].toArray 27) = w1 at hm1
  try refine wp_world hw1 ?_
  clear hw1 hgb
  have x0 := hm1.cell m1 0 rfl
  have x1 := hm1.cell m1 1 rfl
  by_cases q : v.1 < 6 ∨ 9 < v.1 ∨ n = 0
  · have hr2 : Fact (r = (2, v.2)) := ⟨by rw [hr.out, if_pos q]⟩
    clear hr
    have hfin : ∀ (w2 : World), Gr w1 w2 → Mem w w2 (Blk (g + 1) (.cells [.int .i64 0, .int .i64 0].toArray 27) :: []) := fun w2 hg => (hm1.gr hg).sub (.cons_cons _ (List.nil_sublist _))
    replace hfin := Fact.mk hfin
    have q' : v.1 < 6 ∨ (¬ v.1 < 6 ∧ v.1 > 9) ∨ (¬ v.1 < 6 ∧ ¬ v.1 > 9 ∧ n = 0) := by omega
    clear q
    rcases q' with q | ⟨qa, q⟩ | ⟨qa, qb, q⟩
    all_goals
      first | (have q1 : decide (v.1 < 6) = true := decide_eq_true q; clear q) | (have q1 : decide (v.1 > 9) = true := decide_eq_true q; have q2 : decide (v.1 < 6) = false := decide_eq_false qa; clear q qa) | (subst q; have q1 : decide (v.1 > 9) = false := decide_eq_false qb; have q2 : decide (v.1 < 6) = false := decide_eq_false qa; clear qa qb)
      go_wp2_with fail
      refine (plainM_ok w1 v.2).mono ?_
      rintro e w2 ⟨rfl, hg2⟩
      have hm2 := hfin.out w2 hg2
      go_wp2_with (refine wp_setrow rfl 27 _ _ rfl (g + 1) rfl 27 _ [.int .i64 2, .int .i64 v.2] rfl hm2 sz_V rfl (cV_one (2, v.2)) ?_; intro w9 hm9)
      refine bodyPost_ret (Mm.res_cell rfl _ (g + 1) 27 [.int .i64 2, .int .i64 v.2] (0, 0) rfl hm9 m0 row_V sz_V) rfl ⟨by rw [hr2.out], hm9.below⟩
  · have hr2 : r = (ks.getD (pickF v.2 n).toNat 0, pickF v.2 n) := by rw [hr.out, if_neg q]
    clear hr
    have hp := pickF_rng v.2 n (by omega)
    obtain ⟨j, hj⟩ := Int.eq_ofNat_of_zero_le hp.1
    have hpk := pickF_ok w1 v.2 n n rfl hn (by omega)
    rw [hj] at hpk hp hr2
    have hjn : j < n := by omega
    obtain ⟨b, o, hK, g1, _⟩ := hk.out.num j hjn
    have g2 := Gr.cell hm1.below g1
    rw [show ((j : Int)).toNat = j from rfl] at hr2
    generalize ks.getD j 0 = u at g1 g2 hr2
    replace hr2 := Fact.mk hr2
    replace hpk := Fact.mk hpk
    subst hK
    have q1 : decide (v.1 < 6) = false := decide_eq_false (by omega)
    have q2 : decide (v.1 > 9) = false := decide_eq_false (by omega)
    have q3 : decide ((n : Int) = 0) = false := decide_eq_false (by omega)
    have q4 : ((n : Int) == 0) = false := beq_eq_false_iff_ne.2 (by omega)
    clear hj q g1
    go_wp2_with fail
    refine hpk.out.mono ?_
    rintro e w2 ⟨rfl, rfl⟩
    go_wp2_with (refine wp_setrow rfl 27 _ _ rfl (g + 1) rfl 27 _ [.int .i64 u, .int .i64 (j : Int)] rfl hm1 sz_V rfl (cV_one (u, (j : Int))) ?_; intro w9 hm9)
    refine bodyPost_ret (Mm.res_cell rfl _ (g + 1) 27 [.int .i64 u, .int .i64 (j : Int)] (0, 0) rfl hm9 m0 row_V sz_V) rfl ⟨by rw [hr2.out], hm9.below⟩
def nmI (ks : List Int) (v : V2) : Int := match nmKs ks v with | some i => (i : Int) | none => -1
theorem names_ok (w : World) (K : Option Addr) (n c : Nat) (ks : List Int) (hk : Fact (RdC w 1 (.slice K n c) (nums .i64 ks))) (hkk : ∀ k, k ∈ ks → 6 ≤ k ∧ k ≤ 9) (hn : n ≤ 1048577) (v : V2) :
    Calls Try.prog 36 #[.slice K n c, .agg #[.int .i64 v.1, .int .i64 v.2]] w fun e w' => e = .returned (.int .i64 (nmI ks v)) ∧ Gr w w' := by
  have hl := hk.out.nlen
  have hm1 := (Mem.start w).alloc (.cells [.int .i64 v.1, .int .i64 v.2].toArray 27)
  obtain ⟨r, hr⟩ : ∃ r, r = nmI ks v := ⟨_, rfl⟩
  rw [← hr]
  unfold nmI nmKs at hr
  rw [hl] at hr
  replace hr := Fact.mk hr
  go_enter Try.func36, Try.ntmps36
  go_upto_region 1 with (fail)
  generalize hgb : w.heap.size = g at hm1 ⊢
  generalize hw1 : w.alloc (.cells [.int .i64 v.1, .int .i64 v.2].toArray 27) = w1 at hm1
  try refine wp_world hw1 ?_
  clear hw1 hgb
  have x0 := hm1.cell m0 0 rfl
  have x1 := hm1.cell m0 1 rfl
  have hb := Fact.mk hm1.below
  by_cases q1 : v.1 < 6
  · have hz : Fact (r = -1) := ⟨by rw [hr.out, if_neg (fun h => by
      obtain ⟨h0, h1, h2⟩ := h
      have := (hkk (ks.getD v.2.toNat 0) (List.mem_of_getElem? (getD_some ks 0 v.2.toNat (by omega)))).1
      omega)]⟩
    have q1' : decide (v.1 < 6) = true := decide_eq_true q1
    clear hm1
    go_quiet (fail)
    go_wp2
    go_ret
    exact ⟨by have e := hz.out; subst e; rfl, Gr.drewN hb.out _⟩
  · have q1' : decide (v.1 < 6) = false := decide_eq_false q1
    by_cases q2 : v.1 > 9
    · have hz : Fact (r = -1) := ⟨by rw [hr.out, if_neg (fun h => by
        obtain ⟨h0, h1, h2⟩ := h
        have := (hkk (ks.getD v.2.toNat 0) (List.mem_of_getElem? (getD_some ks 0 v.2.toNat (by omega)))).2
        omega)]⟩
      have q2' : decide (v.1 > 9) = true := decide_eq_true q2
      clear hm1
      go_quiet (fail)
      go_wp2
      go_ret
      exact ⟨by have e := hz.out; subst e; rfl, Gr.drewN hb.out _⟩
    · have q2' : decide (v.1 > 9) = false := decide_eq_false q2
      by_cases q3 : v.2 < 0
      · have hz : Fact (r = -1) := ⟨by rw [hr.out, if_neg (fun h => by omega)]⟩
        have q3' : decide (v.2 < 0) = true := decide_eq_true q3
        clear hm1
        go_quiet (fail)
        go_wp2
        go_ret
        exact ⟨by have e := hz.out; subst e; rfl, Gr.drewN hb.out _⟩
      · have q3' : decide (v.2 < 0) = false := decide_eq_false q3
        by_cases q4 : v.2 ≥ n
        · have hz : Fact (r = -1) := ⟨by rw [hr.out, if_neg (fun h => by omega)]⟩
          have q4' : decide (v.2 ≥ (n : Int)) = true := decide_eq_true q4
          clear hm1
          go_quiet (fail)
          go_wp2
          go_ret
          exact ⟨by have e := hz.out; subst e; rfl, Gr.drewN hb.out _⟩
        · have q4' : decide (v.2 ≥ (n : Int)) = false := decide_eq_false q4
          obtain ⟨j, hj⟩ := Int.eq_ofNat_of_zero_le (show 0 ≤ v.2 by omega)
          have hr2 := hr.out
          rw [hj] at x1 q3' q4' hr2
          rw [show ((j : Int)).toNat = j from rfl] at hr2
          have hjn : j < n := by omega
          obtain ⟨b, o, hK, g1, _⟩ := hk.out.num j hjn
          have g2 := Gr.cell hm1.below g1
          generalize ks.getD j 0 = u at g1 g2 hr2
          subst hK
          clear hj q3 q4
          by_cases q5 : u = v.1
          · have hz : Fact (r = (j : Int)) := ⟨by rw [hr2, if_pos ⟨by omega, by omega, q5⟩]⟩
            have q5' : (u != v.1) = false := by simp [q5]
            clear hm1 q5 hr2
            go_quiet (fail)
            have x1' := Gr.cell (Gr.drewN (Gr.refl w1) nq) x1
            go_wp2
            go_ret
            exact ⟨by have e := hz.out; subst e; rfl, Gr.drewN hb.out _⟩
          · have hz : Fact (r = -1) := ⟨by rw [hr2, if_neg (fun h => q5 h.2.2)]⟩
            have q5' : (u != v.1) = true := by simp [q5]
            clear hm1 q5 hr2
            go_quiet (fail)
            go_wp2
            go_ret
            exact ⟨by have e := hz.out; subst e; rfl, Gr.drewN hb.out _⟩
end Go.Proofs.Ytpibchjkmaghnaa
namespace Go.Proofs.Ytpibchjkmaghnaa
open Go.RowKit Go.Mm
set_option maxHeartbeats 16000000
set_option maxRecDepth 100000
set_option linter.unusedSimpArgs false
theorem perm_l {α : Type} {l m : List α} (h : ∀ (_ : DecidableEq α) (x : α), l.count x = m.count x) : l.Perm m := by
  classical
  exact List.perm_iff_count.2 fun x => h inferInstance x
theorem wf_100 {n : Int} (h : 0 ≤ n ∧ n < (100 : Nat)) : (Lit.int .i64 n).wf = true := by
  simp [Lit.wf, IntKind.has, IntKind.min, IntKind.max, IntKind.signed, IntKind.bits]
  omega
theorem _root_.Go.Mm.Mem.pull7 {w0 w : World} {a b c d e f g h : Chunk} {L : List Chunk} (hm : Mem w0 w (a :: b :: c :: d :: e :: f :: g :: h :: L)) : Mem w0 w (h :: a :: b :: c :: d :: e :: f :: g :: L) := hm.perm (perm_front (a :: b :: c :: d :: e :: f :: g :: h :: L) 7 (by simp))
structure LayRel (W : World) (L : List Chunk) (g n : Nat) (K : Option Addr) (c : Nat) (h : Hp) (w : World) : Prop where
  g : h.g = g
  ok : h.Ok
  lay : Lay h.abs
  len : h.ths.length ≤ n
  mem : Mem W w (Own 1 (.slice K h.ths.length c) (nums .i64 (kindsOf h.objs)) :: HpC h :: L)
theorem lay_add {h h' : Hp} {n : Int} {o : Ob} (hl : Lay h.abs) (ha : h'.abs = ⟨h.abs.budget, h.abs.spent + n, h.abs.objs ++ [o]⟩) (hi : ∀ v, v ∈ o.items → rightV h.objs v = true) (ht : tabB o = true) : Lay h'.abs ∧ h'.ths.length = h.ths.length + 1 ∧ kindsOf h'.objs = kindsOf h.objs ++ [o.kind] := by
  obtain ⟨h1, h2⟩ := hl.add n o hi ht
  refine ⟨by rw [ha]; exact h1, by rw [← h'.abs_len', ha, List.length_append, h.abs_len']; rfl, ?_⟩
  rw [show h'.objs = h'.abs.objs from rfl, ha]
  exact h2
theorem lay_keep {h h' : Hp} {s : Hs} (ha : h'.abs = s) (hk : kindsOf s.objs = kindsOf h.objs) : h'.ths.length = h.ths.length ∧ kindsOf h'.objs = kindsOf h.objs := by
  have e : h'.objs = s.objs := by rw [← ha]; rfl
  refine ⟨?_, by rw [e]; exact hk⟩
  have := congrArg List.length hk
  rw [kindsOf_len, kindsOf_len] at this
  rw [← h'.abs_len, e, this, h.abs_len]
theorem tab_arr {xs : List V2} (h : xs.length ≤ 4096) : tabB ⟨6, xs, [], 0, 0, false⟩ = true := by
  unfold tabB
  simp only [if_true]
  rw [decide_eq_true (show (xs.length : Int) ≤ 4096 by omega)]
  rfl
theorem tab_bound {xs : List V2} {fn : Int} (h : xs.length ≤ 4096) (hf : 0 ≤ fn) : tabB ⟨8, xs, [], fn, 0, false⟩ = true := by
  unfold tabB
  simp only [show ¬ (8 : Int) = 6 by decide, if_false, if_true]
  rw [decide_eq_true (show (xs.length : Int) ≤ 4096 by omega), decide_eq_true hf]
  rfl
theorem tab_rec : tabB ⟨7, [], [], 0, 0, false⟩ = true := by kernel_rfl
theorem tab_chan {n : Int} (h1 : 1 ≤ n) (h2 : n ≤ 64) : tabB ⟨9, [], [], 0, n, false⟩ = true := by
  unfold tabB
  simp only [show ¬ (9 : Int) = 6 by decide, show ¬ (9 : Int) = 8 by decide, if_false, if_true]
  rw [decide_eq_true h1, decide_eq_true h2, decide_eq_true (show (([] : List V2).length : Int) ≤ n by simp; omega)]
  rfl
theorem lay_ok (W w : World) (L : List Chunk) (h0 : Hp) (hm0 : Mem W w (HpC h0 :: L)) (hok0 : h0.Ok) (ha0 : h0.abs = ⟨1048576, 0, []⟩) (A : Option Addr) (m ac : Nat) (ops : List HOp) (hs : Fact (RdC W 9 (.slice A m ac) (ops.flatMap cHO))) (hit : Fact (OpsOk W ops)) (hmm : m ≤ 1048576) :
    Calls Try.prog 35 #[.pointer (some ⟨h0.g, 0, none⟩), .slice A m ac] w fun e w' => ∃ (K : Option Addr) (c : Nat) (h : Hp), e = .returned (.slice K h.ths.length c) ∧ LayRel W L h0.g m K c h w' := by
  obtain ⟨iV, hiV, hz0, hz1, hz2⟩ := info_parts inf_V
  obtain ⟨iI, hiI, yz0, yz1, yz2⟩ := info_parts inf_int
  have hpk := fun w k => pickF_ok w k 7 7 rfl (by omega) (by omega)
  have hpr := fun k => pickF_rng k 7 (by omega)
  have hpk100 := fun w k => pickF_ok w k 100 100 rfl (by omega) (by omega)
  have hpr100 := fun k => pickF_rng k 100 (by omega)
  have hpk64 := fun w k => pickF_ok w k 64 64 rfl (by omega) (by omega)
  have hpr64 := fun k => pickF_rng k 64 (by omega)
  replace hpk := Fact.mk hpk
  replace hpr := Fact.mk hpr
  replace hpk100 := Fact.mk hpk100
  replace hpr100 := Fact.mk hpr100
  replace hpk64 := Fact.mk hpk64
  replace hpr64 := Fact.mk hpr64
  have hl0 : h0.ths.length = 0 := by rw [← h0.abs_len', ha0]; rfl
  have hobj0 : h0.objs = [] := congrArg Hs.objs ha0
  have hstart : Fact (∃ (K : Option Addr) (c : Nat) (h : Hp), (.slice none 0 0 : Value) = .slice K h.ths.length c ∧ LayRel W L h0.g 0 K c h w) := ⟨⟨none, 0, h0, by rw [hl0], ⟨rfl, hok0, ⟨by rw [ha0]; rfl, by rw [ha0]⟩, by omega, by rw [hl0, hobj0]; exact hm0.nil 1 none⟩⟩⟩
  clear hm0 hok0 ha0 hl0 hobj0
  generalize h0.g = hg at hstart ⊢
  go_enter Try.func35, Try.ntmps35
  go_wp2
  go_loopw [5, 6] (fun s5 s6 w' => ∃ (k : Nat), s6 = .int .i64 k ∧ k ≤ m ∧ ∃ (K : Option Addr) (c : Nat) (h : Hp), s5 = .slice K h.ths.length c ∧ LayRel W L hg k K c h w') (fun _ s6 _ => m - (intOf s6).toNat)
  case atStart => exact ⟨0, rfl, by omega, hstart.out⟩
  case round =>
    obtain ⟨k, rfl, hk, K, c, h, rfl, hgg, hok, hlay, hlen, hmr⟩ := hrel
    clear hstart
    subst hgg
    replace hok := Fact.mk hok
    replace hlay := Fact.mk hlay
    by_cases hlt : k < m
    · obtain ⟨b, o, rfl, hc, hkm⟩ := rdHO_at hs.out k hlt
      have hxm : ops.getD k hop0 ∈ ops := by rw [List.getD_eq_getElem?_getD, List.getElem?_eq_getElem hkm]; exact List.getElem_mem hkm
      generalize ops.getD k hop0 = x at hc hxm
      obtain ⟨hxr, hxn, hxw⟩ := hit.out x hxm
      have hxr := Fact.mk hxr
      have hc := Fact.mk hc
      clear hxm hkm hxw
      have wrapk : wrap64 ((k : Int) + 1) = (k : Int) + 1 := IntWalk.wrap64_in _ (by omega)
      have haim := fun (w1 : World) (L1 : List Chunk) (h1 : Mem W w1 L1) (h2 : Own 1 (.slice K h.ths.length c) (nums .i64 (kindsOf h.objs)) ∈ L1) (v : V2) => aim_ok w1 K h.ths.length c (kindsOf h.objs) ⟨h1.rd h2⟩ (by omega) v
      have hright := fun (v : V2) => aimV_right hlay.out.load v
      rw [show h.abs.objs = h.objs from rfl] at hright
      replace haim := Fact.mk haim
      replace hright := Fact.mk hright
      go_upto_region 6 with (first | (refine wp_rng rfl 32 _ rfl b (o + k * 9) rfl (cHO x) (rng_gr hc.out hmr.below) row_HO sz_HO ?_) | (refine wp_setrow rfl 32 _ _ rfl wr.heap.size rfl 32 _ (cHO x) rfl (hmr.alloc _) sz_HO rfl (cHO_one x) ?_; intro w5 hm5))
      generalize wr.heap.size = g7 at hm5 ⊢
      clear hmr
      have x2 := hm5.cell m0 2 rfl
      have x3 := hm5.cell m0 3 rfl
      go_wp2_with (refine wp_rng rfl 27 _ rfl g7 2 rfl (cV x.v) (rng2 x2 x3) row_V sz_V ?_)
      refine (haim.out w5 _ hm5 m1 x.v).mono ?_
      rintro e w6 ⟨rfl, hg6⟩
      have hm6 := hm5.gr hg6
      have hra := hright.out x.v
      generalize aimV (kindsOf h.objs) x.v = a at hra ⊢
      replace hra := Fact.mk hra
      clear hm5 hg6 x2 x3
      go_upto_region 7 with (refine wp_setrow rfl 27 _ _ rfl w6.heap.size rfl 27 _ [.int .i64 a.1, .int .i64 a.2] rfl (hm6.alloc _) sz_V rfl (cV_one a) ?_; intro w7 hm7)
      generalize w6.heap.size = g8 at hm7 ⊢
      clear hm6
      have x4 := hm7.cell m1 4 rfl
      have x5 := hm7.cell m1 5 rfl
      go_wp2_with (refine wp_rng rfl 27 _ rfl g7 4 rfl (cV x.x) (rng2 x4 x5) row_V sz_V ?_)
      refine (haim.out w7 _ hm7 m2 x.x).mono ?_
      rintro e w8 ⟨rfl, hg8⟩
      have hm8 := hm7.gr hg8
      have hrb := hright.out x.x
      generalize aimV (kindsOf h.objs) x.x = v9 at hrb ⊢
      replace hrb := Fact.mk hrb
      clear hm7 hg8 x4 x5
      go_upto_region 8 with (refine wp_setrow rfl 27 _ _ rfl w8.heap.size rfl 27 _ [.int .i64 v9.1, .int .i64 v9.2] rfl (hm8.alloc _) sz_V rfl (cV_one v9) ?_; intro w9 hm9)
      generalize w8.heap.size = g9 at hm9 ⊢
      clear hm8
      have hxl := Fact.mk (rdV_len hxr.out)
      go_wp2
      go_loopw [10, 11] (fun s10 s11 w' => ∃ (j : Nat) (I : Option Addr) (ic : Nat) (its : List V2), s11 = .int .i64 j ∧ j ≤ x.n ∧ j ≤ 300 ∧ s10 = .slice I j ic ∧ Fact (its.length = j ∧ ∀ v, v ∈ its → rightV h.objs v = true) ∧ Mem W w' (Own 2 (.slice I j ic) (fV its) :: Blk g9 (.cells [.int .i64 v9.1, .int .i64 v9.2].toArray 27) :: Blk g8 (.cells [.int .i64 a.1, .int .i64 a.2].toArray 27) :: Blk g7 (.cells (cHO x).toArray 32) :: Own 1 (.slice K h.ths.length c) (nums .i64 (kindsOf h.objs)) :: HpC h :: L)) (fun _ s11 _ => 300 - (intOf s11).toNat)
      case atStart => exact ⟨0, none, 0, [], rfl, by omega, by omega, rfl, ⟨rfl, fun v hv => by cases hv⟩, hm9.nil 2 none⟩
      case round =>
        clear hm9
        obtain ⟨j, I, ic, its, rfl, hj, hj300, rfl, hits, hmq⟩ := hrel
        have x8 := hmq.cell m3 8 rfl
        by_cases hin : j < x.n ∧ j < 300
        · obtain ⟨hj1, hj2⟩ := hin
          obtain ⟨b8, o8, hA8, g1, g2, _, _⟩ := rdV_at (hxr.out.gr hmq.below) j hj1
          generalize x.items.getD j (0, 0) = u at g1 g2
          rw [hA8] at x8
          clear hA8
          go_wp2_with (refine wp_rng rfl 27 _ rfl b8 (o8 + j * 2) rfl (cV u) (rng2 g1 g2) row_V sz_V ?_)
          refine (haim.out wr _ hmq m4 u).mono ?_
          rintro e w10 ⟨rfl, hg10⟩
          have hm10 := hmq.gr hg10
          have hru := hright.out u
          generalize aimV (kindsOf h.objs) u = u' at hru ⊢
          replace hru := Fact.mk hru
          clear hmq hg10 g1 g2 x8
          go_wp2_with (at_builtin; refine wp_app rfl _ _ _ rfl 27 iV _ 2 16 ty_Vs hiV hz0 hz1 hz2 rfl I j ic _ rfl (hm10.alloc _).swap _ 1 1 [.int .i64 u'.1, .int .i64 u'.2] rfl (RdC.lit _ _ _ _ _ rfl (by simp [maxLen]) (cV_one u')) (by unfold maxLen; omega) (by omega) ?_; intro I5 ic5 w11 hm11)
          go_roundw
          case rel =>
            refine ⟨j + 1, I5, ic5, its ++ [u'], by go_num, by omega, by omega, rfl, ⟨by rw [List.length_append, hits.out.1]; rfl, fun v hv => ?_⟩, by rw [fV_app]; exact hm11.drop2⟩
            rcases List.mem_append.1 hv with hv | hv
            · exact hits.out.2 v hv
            · simp only [List.mem_singleton] at hv
              subst hv
              exact hru.out
          case measure => exact measP_lt hj2
        · have hjn : j = x.n ∨ (j < x.n ∧ j = 300) := by omega
          rcases hjn with hjn | ⟨hjn, hj3⟩
          · have d1 : ((j : Int) < (x.n : Int)) = False := eq_false (by omega)
            clear hin hj
            replace hjn := Fact.mk hjn
            go_upto_region 15 with (refine wp_setrow rfl 27 _ _ rfl wr.heap.size rfl 27 _ [.int .i64 0, .int .i64 0] rfl (hmq.alloc _) sz_V rfl (cV_one (0, 0)) ?_; intro w12 hm12)
            generalize wr.heap.size = g12 at hm12 ⊢
            have y1 := hm12.cell m4 1 rfl
            have y7 := hm12.cell m4 7 rfl
            clear hmq x8
            go_wp2_with fail
            refine (hpk.out w12 x.kd).mono ?_
            rintro e w13 ⟨rfl, rfl⟩
            have hp := hpr.out x.kd
            obtain ⟨pk, hpe⟩ := Int.eq_ofNat_of_zero_le hp.1
            rw [hpe] at hp ⊢
            have hp7 : pk = 0 ∨ pk = 1 ∨ pk = 2 ∨ pk = 3 ∨ pk = 4 ∨ pk = 5 ∨ pk = 6 := by omega
            clear hp hpe y1
            rcases hp7 with rfl | rfl | rfl | rfl | rfl | rfl | rfl
            · skip
              go_wp2_with fail
              have hc0 := array_ok W w13 _ h hm12.pull6 hok I j ic its ⟨hm12.rd m1⟩ (by omega) (by omega)
              rcases make_two h.abs (decide (j ≤ 4096)) (2 + (j : Int)) 6 ⟨6, its, [], 0, 0, false⟩ with ⟨e1, e2, e3⟩ | ⟨e1, e2, _⟩
              · rw [e1, e2] at hc0
                clear e1 e2
                replace hc0 := Fact.mk hc0
                refine hc0.out.mono ?_
                rintro e w14 ⟨rfl, h', hg', ha', ho', hm14⟩
                clear hc0
                obtain ⟨hl', hln', hkn'⟩ := lay_add hlay.out ha' (hits.out.2) (tab_arr (by rw [hits.out.1]; omega))
                replace hl' := Fact.mk hl'
                replace hln' := Fact.mk hln'
                replace hkn' := Fact.mk hkn'
                replace ho' := Fact.mk ho'
                replace hg' := Fact.mk hg'
                have hms := hm14.swap
                clear ha' hm14 hm12 y7
                go_wp2_with (first | (refine wp_setrow rfl 27 _ _ rfl g12 rfl 27 _ [.int .i64 6, .int .i64 h.abs.objs.length] rfl hms sz_V rfl (cV_one (6, (h.abs.objs.length : Int))) ?_; intro w15 hm15; have x0 := hm15.cell m0 0 rfl) | (at_builtin; refine wp_app rfl _ _ _ rfl 3 iI _ 1 8 ty_ints hiI yz0 yz1 yz2 rfl K h.ths.length c _ rfl (hm15.alloc _).pull7 _ 1 1 [.int .i64 6] rfl (RdC.lit _ _ _ _ _ rfl (by simp [maxLen]) (one_one rfl)) (by unfold maxLen; omega) (by omega) ?_; intro K5 c5 w16 hm16))
                go_roundw
                case rel =>
                  refine ⟨k + 1, by go_num, by omega, K5, c5, h', by rw [hln'.out], hg'.out, ho'.out, hl'.out, by have := hln'.out; omega, ?_⟩
                  rw [hln'.out, hkn'.out, nums_append]
                  exact hm16.sub (.cons_cons _ (.cons _ (.cons _ (.cons_cons _ (.cons _ (.cons _ (.cons _ (.cons _ (.refl _)))))))))
                case measure => first | exact measP_lt hlt | exact measN_lt hlt wrapk
              · rw [e1, e2] at hc0
                clear e1 e2
                replace hc0 := Fact.mk hc0
                refine hc0.out.mono ?_
                rintro e w14 ⟨rfl, h', hg', ha', ho', hm14⟩
                clear hc0
                obtain ⟨hln', hkn'⟩ := lay_keep ha' rfl
                have hl' : Lay h'.abs := by rw [ha']; exact hlay.out
                replace hl' := Fact.mk hl'
                replace hln' := Fact.mk hln'
                replace hkn' := Fact.mk hkn'
                replace ho' := Fact.mk ho'
                replace hg' := Fact.mk hg'
                have hms := hm14.swap
                clear ha' hm14 hm12 y7
                go_wp2_with (refine wp_setrow rfl 27 _ _ rfl g12 rfl 27 _ [.int .i64 0, .int .i64 0] rfl hms sz_V rfl (cV_one (0, 0)) ?_; intro w15 hm15)
                have hz : Mem W w15 (Own 1 (.slice K h'.ths.length c) (nums .i64 (kindsOf h'.objs)) :: HpC h' :: L) := by
                  rw [hln'.out, hkn'.out]
                  exact (hm15.sub (.cons _ (.cons_cons _ (.cons _ (.cons _ (.cons _ (.cons _ (.cons_cons _ (.refl _))))))))).swap
                rw [← hln'.out]
                go_roundw
                case rel => exact ⟨k + 1, by go_num, by omega, K, c, h', rfl, hg'.out, ho'.out, hl'.out, by have := hln'.out; omega, hz⟩
                case measure => first | exact measP_lt hlt | exact measN_lt hlt wrapk
            · skip
              go_wp2_with fail
              have hc0 := record_ok W w13 _ h hm12.pull6 hok (by omega)
              rcases make_two h.abs (true) (2) 7 ⟨7, [], [], 0, 0, false⟩ with ⟨e1, e2, e3⟩ | ⟨e1, e2, _⟩
              · rw [e1, e2] at hc0
                clear e1 e2
                replace hc0 := Fact.mk hc0
                refine hc0.out.mono ?_
                rintro e w14 ⟨rfl, h', hg', ha', ho', hm14⟩
                clear hc0
                obtain ⟨hl', hln', hkn'⟩ := lay_add hlay.out ha' (fun v hv => by cases hv) (tab_rec)
                replace hl' := Fact.mk hl'
                replace hln' := Fact.mk hln'
                replace hkn' := Fact.mk hkn'
                replace ho' := Fact.mk ho'
                replace hg' := Fact.mk hg'
                have hms := hm14.swap
                clear ha' hm14 hm12 y7
                go_wp2_with (first | (refine wp_setrow rfl 27 _ _ rfl g12 rfl 27 _ [.int .i64 7, .int .i64 h.abs.objs.length] rfl hms sz_V rfl (cV_one (7, (h.abs.objs.length : Int))) ?_; intro w15 hm15; have x0 := hm15.cell m0 0 rfl) | (at_builtin; refine wp_app rfl _ _ _ rfl 3 iI _ 1 8 ty_ints hiI yz0 yz1 yz2 rfl K h.ths.length c _ rfl (hm15.alloc _).pull7 _ 1 1 [.int .i64 7] rfl (RdC.lit _ _ _ _ _ rfl (by simp [maxLen]) (one_one rfl)) (by unfold maxLen; omega) (by omega) ?_; intro K5 c5 w16 hm16))
                go_roundw
                case rel =>
                  refine ⟨k + 1, by go_num, by omega, K5, c5, h', by rw [hln'.out], hg'.out, ho'.out, hl'.out, by have := hln'.out; omega, ?_⟩
                  rw [hln'.out, hkn'.out, nums_append]
                  exact hm16.sub (.cons_cons _ (.cons _ (.cons _ (.cons_cons _ (.cons _ (.cons _ (.cons _ (.cons _ (.refl _)))))))))
                case measure => first | exact measP_lt hlt | exact measN_lt hlt wrapk
              · rw [e1, e2] at hc0
                clear e1 e2
                replace hc0 := Fact.mk hc0
                refine hc0.out.mono ?_
                rintro e w14 ⟨rfl, h', hg', ha', ho', hm14⟩
                clear hc0
                obtain ⟨hln', hkn'⟩ := lay_keep ha' rfl
                have hl' : Lay h'.abs := by rw [ha']; exact hlay.out
                replace hl' := Fact.mk hl'
                replace hln' := Fact.mk hln'
                replace hkn' := Fact.mk hkn'
                replace ho' := Fact.mk ho'
                replace hg' := Fact.mk hg'
                have hms := hm14.swap
                clear ha' hm14 hm12 y7
                go_wp2_with (refine wp_setrow rfl 27 _ _ rfl g12 rfl 27 _ [.int .i64 0, .int .i64 0] rfl hms sz_V rfl (cV_one (0, 0)) ?_; intro w15 hm15)
                have hz : Mem W w15 (Own 1 (.slice K h'.ths.length c) (nums .i64 (kindsOf h'.objs)) :: HpC h' :: L) := by
                  rw [hln'.out, hkn'.out]
                  exact (hm15.sub (.cons _ (.cons_cons _ (.cons _ (.cons _ (.cons _ (.cons _ (.cons_cons _ (.refl _))))))))).swap
                rw [← hln'.out]
                go_roundw
                case rel => exact ⟨k + 1, by go_num, by omega, K, c, h', rfl, hg'.out, ho'.out, hl'.out, by have := hln'.out; omega, hz⟩
                case measure => first | exact measP_lt hlt | exact measN_lt hlt wrapk
            · skip
              go_wp2_with fail
              refine (hpk100.out w13 x.M).mono ?_
              rintro e wp ⟨rfl, rfl⟩
              have hfr := hpr100.out x.M
              generalize pickF x.M 100 = fn at hfr ⊢
              replace hfr := Fact.mk hfr
              go_wp2_with fail
              have hc0 := bound_ok W wp _ h hm12.pull6 hok fn I j ic its ⟨hm12.rd m1⟩ (by omega) (by omega)
              rcases make_two h.abs (decide (0 ≤ fn) && decide (j ≤ 4096)) (2 + (j : Int)) 8 ⟨8, its, [], fn, 0, false⟩ with ⟨e1, e2, e3⟩ | ⟨e1, e2, _⟩
              · rw [e1, e2] at hc0
                clear e1 e2
                replace hc0 := Fact.mk hc0
                refine hc0.out.mono ?_
                rintro e w14 ⟨rfl, h', hg', ha', ho', hm14⟩
                clear hc0
                obtain ⟨hl', hln', hkn'⟩ := lay_add hlay.out ha' (hits.out.2) (tab_bound (by rw [hits.out.1]; omega) hfr.out.1)
                replace hl' := Fact.mk hl'
                replace hln' := Fact.mk hln'
                replace hkn' := Fact.mk hkn'
                replace ho' := Fact.mk ho'
                replace hg' := Fact.mk hg'
                have hms := hm14.swap
                clear ha' hm14 hm12 y7
                go_wp2_with (first | (refine wp_setrow rfl 27 _ _ rfl g12 rfl 27 _ [.int .i64 8, .int .i64 h.abs.objs.length] rfl hms sz_V rfl (cV_one (8, (h.abs.objs.length : Int))) ?_; intro w15 hm15; have x0 := hm15.cell m0 0 rfl) | (at_builtin; refine wp_app rfl _ _ _ rfl 3 iI _ 1 8 ty_ints hiI yz0 yz1 yz2 rfl K h.ths.length c _ rfl (hm15.alloc _).pull7 _ 1 1 [.int .i64 8] rfl (RdC.lit _ _ _ _ _ rfl (by simp [maxLen]) (one_one rfl)) (by unfold maxLen; omega) (by omega) ?_; intro K5 c5 w16 hm16))
                go_roundw
                case rel =>
                  refine ⟨k + 1, by go_num, by omega, K5, c5, h', by rw [hln'.out], hg'.out, ho'.out, hl'.out, by have := hln'.out; omega, ?_⟩
                  rw [hln'.out, hkn'.out, nums_append]
                  exact hm16.sub (.cons_cons _ (.cons _ (.cons _ (.cons_cons _ (.cons _ (.cons _ (.cons _ (.cons _ (.refl _)))))))))
                case measure => first | exact measP_lt hlt | exact measN_lt hlt wrapk
              · rw [e1, e2] at hc0
                clear e1 e2
                replace hc0 := Fact.mk hc0
                refine hc0.out.mono ?_
                rintro e w14 ⟨rfl, h', hg', ha', ho', hm14⟩
                clear hc0
                obtain ⟨hln', hkn'⟩ := lay_keep ha' rfl
                have hl' : Lay h'.abs := by rw [ha']; exact hlay.out
                replace hl' := Fact.mk hl'
                replace hln' := Fact.mk hln'
                replace hkn' := Fact.mk hkn'
                replace ho' := Fact.mk ho'
                replace hg' := Fact.mk hg'
                have hms := hm14.swap
                clear ha' hm14 hm12 y7
                go_wp2_with (refine wp_setrow rfl 27 _ _ rfl g12 rfl 27 _ [.int .i64 0, .int .i64 0] rfl hms sz_V rfl (cV_one (0, 0)) ?_; intro w15 hm15)
                have hz : Mem W w15 (Own 1 (.slice K h'.ths.length c) (nums .i64 (kindsOf h'.objs)) :: HpC h' :: L) := by
                  rw [hln'.out, hkn'.out]
                  exact (hm15.sub (.cons _ (.cons_cons _ (.cons _ (.cons _ (.cons _ (.cons _ (.cons_cons _ (.refl _))))))))).swap
                rw [← hln'.out]
                go_roundw
                case rel => exact ⟨k + 1, by go_num, by omega, K, c, h', rfl, hg'.out, ho'.out, hl'.out, by have := hln'.out; omega, hz⟩
                case measure => first | exact measP_lt hlt | exact measN_lt hlt wrapk
            · skip
              go_wp2_with fail
              refine (hpk64.out w13 x.M).mono ?_
              rintro e wp ⟨rfl, rfl⟩
              have hfr := hpr64.out x.M
              generalize pickF x.M 64 = fn at hfr ⊢
              replace hfr := Fact.mk hfr
              have hfb : 0 ≤ fn ∧ fn < 64 := by have := hfr.out; omega
              go_wp2_with fail
              have hc0 := chan_ok W wp _ h hm12.pull6 hok (1 + fn) (by omega)
              rcases make_two h.abs (decide (1 ≤ 1 + fn) && decide (1 + fn ≤ 64)) (2 + (1 + fn)) 9 ⟨9, [], [], 0, 1 + fn, false⟩ with ⟨e1, e2, e3⟩ | ⟨e1, e2, _⟩
              · rw [e1, e2] at hc0
                clear e1 e2
                replace hc0 := Fact.mk hc0
                refine hc0.out.mono ?_
                rintro e w14 ⟨rfl, h', hg', ha', ho', hm14⟩
                clear hc0
                obtain ⟨hl', hln', hkn'⟩ := lay_add hlay.out ha' (fun v hv => by cases hv) (tab_chan (by have := hfr.out; omega) (by have := hfr.out; omega))
                replace hl' := Fact.mk hl'
                replace hln' := Fact.mk hln'
                replace hkn' := Fact.mk hkn'
                replace ho' := Fact.mk ho'
                replace hg' := Fact.mk hg'
                have hms := hm14.swap
                clear ha' hm14 hm12 y7
                go_wp2_with (first | (refine wp_setrow rfl 27 _ _ rfl g12 rfl 27 _ [.int .i64 9, .int .i64 h.abs.objs.length] rfl hms sz_V rfl (cV_one (9, (h.abs.objs.length : Int))) ?_; intro w15 hm15; have x0 := hm15.cell m0 0 rfl) | (at_builtin; refine wp_app rfl _ _ _ rfl 3 iI _ 1 8 ty_ints hiI yz0 yz1 yz2 rfl K h.ths.length c _ rfl (hm15.alloc _).pull7 _ 1 1 [.int .i64 9] rfl (RdC.lit _ _ _ _ _ rfl (by simp [maxLen]) (one_one rfl)) (by unfold maxLen; omega) (by omega) ?_; intro K5 c5 w16 hm16))
                go_roundw
                case rel =>
                  refine ⟨k + 1, by go_num, by omega, K5, c5, h', by rw [hln'.out], hg'.out, ho'.out, hl'.out, by have := hln'.out; omega, ?_⟩
                  rw [hln'.out, hkn'.out, nums_append]
                  exact hm16.sub (.cons_cons _ (.cons _ (.cons _ (.cons_cons _ (.cons _ (.cons _ (.cons _ (.cons _ (.refl _)))))))))
                case measure => first | exact measP_lt hlt | exact measN_lt hlt wrapk
              · rw [e1, e2] at hc0
                clear e1 e2
                replace hc0 := Fact.mk hc0
                refine hc0.out.mono ?_
                rintro e w14 ⟨rfl, h', hg', ha', ho', hm14⟩
                clear hc0
                obtain ⟨hln', hkn'⟩ := lay_keep ha' rfl
                have hl' : Lay h'.abs := by rw [ha']; exact hlay.out
                replace hl' := Fact.mk hl'
                replace hln' := Fact.mk hln'
                replace hkn' := Fact.mk hkn'
                replace ho' := Fact.mk ho'
                replace hg' := Fact.mk hg'
                have hms := hm14.swap
                clear ha' hm14 hm12 y7
                go_wp2_with (refine wp_setrow rfl 27 _ _ rfl g12 rfl 27 _ [.int .i64 0, .int .i64 0] rfl hms sz_V rfl (cV_one (0, 0)) ?_; intro w15 hm15)
                have hz : Mem W w15 (Own 1 (.slice K h'.ths.length c) (nums .i64 (kindsOf h'.objs)) :: HpC h' :: L) := by
                  rw [hln'.out, hkn'.out]
                  exact (hm15.sub (.cons _ (.cons_cons _ (.cons _ (.cons _ (.cons _ (.cons _ (.cons_cons _ (.refl _))))))))).swap
                rw [← hln'.out]
                go_roundw
                case rel => exact ⟨k + 1, by go_num, by omega, K, c, h', rfl, hg'.out, ho'.out, hl'.out, by have := hln'.out; omega, hz⟩
                case measure => first | exact measP_lt hlt | exact measN_lt hlt wrapk
            · skip
              go_wp2_with (first | (refine wp_rng rfl 27 _ rfl g8 0 rfl [.int .i64 a.1, .int .i64 a.2] (rng_blk hm12 m3) row_V sz_V ?_) | (refine wp_rng rfl 27 _ rfl g9 0 rfl [.int .i64 v9.1, .int .i64 v9.2] (rng_blk hm12 m2) row_V sz_V ?_))
              refine (push_any W w13 _ h hm12.pull6 hok a.1 a.2 v9.1 v9.2).mono ?_
              rintro e w14 ⟨rfl, h', hg', ha', ho', hm14⟩
              obtain ⟨hl', hk'⟩ := hlay.out.push (a.1, a.2) (v9.1, v9.2) hrb.out
              rw [← ha'] at hl'
              obtain ⟨hln', hkn'⟩ := lay_keep ha' hk'
              replace hl' := Fact.mk hl'
              replace hln' := Fact.mk hln'
              replace hkn' := Fact.mk hkn'
              replace ho' := Fact.mk ho'
              replace hg' := Fact.mk hg'
              clear ha' hk' hm12 y7
              go_wp2_with fail
              have hz : Mem W w14 (Own 1 (.slice K h'.ths.length c) (nums .i64 (kindsOf h'.objs)) :: HpC h' :: L) := by
                rw [hln'.out, hkn'.out]
                exact (hm14.sub (.cons_cons _ (.cons _ (.cons _ (.cons _ (.cons _ (.cons _ (.cons_cons _ (.refl _))))))))).swap
              rw [← hln'.out]
              go_roundw
              case rel => exact ⟨k + 1, by go_num, by omega, K, c, h', rfl, hg'.out, ho'.out, hl'.out, by have := hln'.out; omega, hz⟩
              case measure => first | exact measP_lt hlt | exact measN_lt hlt wrapk
            · skip
              go_upto_region 28 with (fail)
              have hm13 := hm12.drew
              have hS : w13.drew.cell? ⟨g8, 0, none⟩ = some (.int .i64 a.1) ∧ w13.drew.cell? ⟨g8, 1, none⟩ = some (.int .i64 a.2) ∧ w13.drew.cell? ⟨g9, 0, none⟩ = some (.int .i64 v9.1) ∧ w13.drew.cell? ⟨g9, 1, none⟩ = some (.int .i64 v9.2) ∧ w13.drew.cell? ⟨g7, 7, none⟩ = some (.int .i64 x.M) := ⟨hm13.cell m3 0 rfl, hm13.cell m3 1 rfl, hm13.cell m2 0 rfl, hm13.cell m2 1 rfl, hm13.cell m4 7 rfl⟩
              refine wp_region_until (S := fun W => W.cell? ⟨g8, 0, none⟩ = some (.int .i64 a.1) ∧ W.cell? ⟨g8, 1, none⟩ = some (.int .i64 a.2) ∧ W.cell? ⟨g9, 0, none⟩ = some (.int .i64 v9.1) ∧ W.cell? ⟨g9, 1, none⟩ = some (.int .i64 v9.2) ∧ W.cell? ⟨g7, 7, none⟩ = some (.int .i64 x.M)) 6 (by kernel_rfl) ?_
              generalize w13.drew = wd at hm13 hS ⊢
              clear hm12 y7
              refine wpAnyU_take 0 (v := ?vs5b0) rfl (by kernel_rfl) (by kernel_rfl) (fun _ _ _ h => h) hS (Or.inl ⟨rfl, ?ys5b0⟩) ?rs5b0
              case ys5b0 =>
                intro W hW
                obtain ⟨hW0, hW1, hW2, hW3, hW4⟩ := hW
                go_simp
                try with_reducible rfl
              try simp only [Act.put, List.getElem_toArray, List.getElem_cons_succ, List.getElem_cons_zero, List.setIfInBounds_toArray, List.set_cons_zero, List.set_cons_succ]
              refine wpAnyU_take 1 (v := ?vs5b1) rfl (by kernel_rfl) (by kernel_rfl) (fun _ _ _ h => h) hS (Or.inl ⟨rfl, ?ys5b1⟩) ?rs5b1
              case ys5b1 =>
                intro W hW
                obtain ⟨hW0, hW1, hW2, hW3, hW4⟩ := hW
                go_simp
                try with_reducible rfl
              try simp only [Act.put, List.getElem_toArray, List.getElem_cons_succ, List.getElem_cons_zero, List.setIfInBounds_toArray, List.set_cons_zero, List.set_cons_succ]
              refine wpAnyU_take 2 (v := ?vs5b2) rfl (by kernel_rfl) (by kernel_rfl) (fun _ _ _ h => h) hS (Or.inl ⟨rfl, ?ys5b2⟩) ?rs5b2
              case ys5b2 =>
                intro W hW
                obtain ⟨hW0, hW1, hW2, hW3, hW4⟩ := hW
                go_simp
                try with_reducible rfl
              try simp only [Act.put, List.getElem_toArray, List.getElem_cons_succ, List.getElem_cons_zero, List.setIfInBounds_toArray, List.set_cons_zero, List.set_cons_succ]
              refine wpAnyU_take 3 (v := ?vs5b3) rfl (by kernel_rfl) (by kernel_rfl) (fun _ _ _ h => h) hS (Or.inl ⟨rfl, ?ys5b3⟩) ?rs5b3
              case ys5b3 =>
                intro W hW
                obtain ⟨hW0, hW1, hW2, hW3, hW4⟩ := hW
                go_simp
                try with_reducible rfl
              try simp only [Act.put, List.getElem_toArray, List.getElem_cons_succ, List.getElem_cons_zero, List.setIfInBounds_toArray, List.set_cons_zero, List.set_cons_succ]
              refine wpAnyU_take 5 (v := ?vs5b5) rfl (by kernel_rfl) (by kernel_rfl) (fun _ _ _ h => h) hS (Or.inl ⟨rfl, ?ys5b5⟩) ?rs5b5
              case ys5b5 =>
                intro W hW
                obtain ⟨hW0, hW1, hW2, hW3, hW4⟩ := hW
                go_simp
                try with_reducible rfl
              try simp only [Act.put, List.getElem_toArray, List.getElem_cons_succ, List.getElem_cons_zero, List.setIfInBounds_toArray, List.set_cons_zero, List.set_cons_succ]
              refine wpAnyU_one 4 (by kernel_rfl) rfl (fun K0 hK => ?_)
              refine step_call rfl 12 Try.f12 Try.func12 (by kernel_rfl) (by kernel_rfl) _ _ rfl #[.int .i64 x.M, .int .i64 100] (by simp [Act.eval]) ?_
              refine (hpk100.out wd x.M).mono ?_
              rintro e wp ⟨rfl, rfl⟩
              have hfr := hpr100.out x.M
              generalize pickF x.M 100 = fn at hfr ⊢
              refine ⟨_, rfl, ?_⟩
              refine hK _ _ (fun _ => hS) ?_
              clear hK K0
              try simp only [Act.put, List.getElem_toArray, List.getElem_cons_succ, List.getElem_cons_zero, List.setIfInBounds_toArray, List.set_cons_zero, List.set_cons_succ]
              refine wpAnyU_one 6 (by kernel_rfl) rfl (fun K0 hK => ?_)
              refine step_call rfl 24 Try.f24 Try.func24 (by kernel_rfl) (by kernel_rfl) _ _ rfl #[.pointer (some ⟨h.g, 0, none⟩), .agg #[.int .i64 a.1, .int .i64 a.2], .int .i64 fn, .agg #[.int .i64 v9.1, .int .i64 v9.2]] (by simp [Act.eval]) ?_
              refine (setF_any W wp _ h hm13.pull6 hok a.1 a.2 fn ⟨wf_100 hfr⟩ v9.1 v9.2).mono ?_
              rintro e w14 ⟨rfl, h', hg', ha', ho', hm14⟩
              refine ⟨_, rfl, ?_⟩
              refine hK _ _ (fun h => absurd h (by decide)) ?_
              clear hK K0 hS
              try simp only [Act.put, List.getElem_toArray, List.getElem_cons_succ, List.getElem_cons_zero, List.setIfInBounds_toArray, List.set_cons_zero, List.set_cons_succ]
              refine wpAnyU_done (by kernel_rfl) ?_ _
              obtain ⟨hl', hk'⟩ := hlay.out.setF (a.1, a.2) fn (v9.1, v9.2) hrb.out hfr.1
              rw [← ha'] at hl'
              obtain ⟨hln', hkn'⟩ := lay_keep ha' hk'
              replace hl' := Fact.mk hl'
              replace hln' := Fact.mk hln'
              replace hkn' := Fact.mk hkn'
              replace ho' := Fact.mk ho'
              replace hg' := Fact.mk hg'
              clear ha' hk' hm13
              go_wp2_with fail
              have hz : Mem W w14 (Own 1 (.slice K h'.ths.length c) (nums .i64 (kindsOf h'.objs)) :: HpC h' :: L) := by
                rw [hln'.out, hkn'.out]
                exact (hm14.sub (.cons_cons _ (.cons _ (.cons _ (.cons _ (.cons _ (.cons _ (.cons_cons _ (.refl _))))))))).swap
              rw [← hln'.out]
              go_roundw
              case rel => exact ⟨k + 1, by go_num, by omega, K, c, h', rfl, hg'.out, ho'.out, hl'.out, by have := hln'.out; omega, hz⟩
              case measure => first | exact measP_lt hlt | exact measN_lt hlt wrapk
            · skip
              go_wp2_with (first | (refine wp_rng rfl 27 _ rfl g8 0 rfl [.int .i64 a.1, .int .i64 a.2] (rng_blk hm12 m3) row_V sz_V ?_) | (refine wp_rng rfl 27 _ rfl g9 0 rfl [.int .i64 v9.1, .int .i64 v9.2] (rng_blk hm12 m2) row_V sz_V ?_))
              refine (send_any W w13 _ h hm12.pull6 hok (Lay.few (by rw [h.abs_len']; omega) hlay.out) a.1 a.2 v9.1 v9.2).mono ?_
              rintro e w14 ⟨rfl, h', hg', ha', ho', hm14⟩
              obtain ⟨hl', hk'⟩ := hlay.out.send (a.1, a.2) (v9.1, v9.2) hrb.out
              rw [← ha'] at hl'
              obtain ⟨hln', hkn'⟩ := lay_keep ha' hk'
              replace hl' := Fact.mk hl'
              replace hln' := Fact.mk hln'
              replace hkn' := Fact.mk hkn'
              replace ho' := Fact.mk ho'
              replace hg' := Fact.mk hg'
              clear ha' hk' hm12 y7
              go_wp2_with fail
              have hz : Mem W w14 (Own 1 (.slice K h'.ths.length c) (nums .i64 (kindsOf h'.objs)) :: HpC h' :: L) := by
                rw [hln'.out, hkn'.out]
                exact (hm14.sub (.cons_cons _ (.cons _ (.cons _ (.cons _ (.cons _ (.cons _ (.cons_cons _ (.refl _))))))))).swap
              rw [← hln'.out]
              go_roundw
              case rel => exact ⟨k + 1, by go_num, by omega, K, c, h', rfl, hg'.out, ho'.out, hl'.out, by have := hln'.out; omega, hz⟩
              case measure => first | exact measP_lt hlt | exact measN_lt hlt wrapk
          · have d1 : ((j : Int) < (x.n : Int)) = True := eq_true (by omega)
            have d2 : ((j : Int) < 300) = False := eq_false (by omega)
            clear hin hjn hj
            replace hj3 := Fact.mk hj3
            go_upto_region 15 with (refine wp_setrow rfl 27 _ _ rfl wr.heap.size rfl 27 _ [.int .i64 0, .int .i64 0] rfl (hmq.alloc _) sz_V rfl (cV_one (0, 0)) ?_; intro w12 hm12)
            generalize wr.heap.size = g12 at hm12 ⊢
            have y1 := hm12.cell m4 1 rfl
            have y7 := hm12.cell m4 7 rfl
            clear hmq x8
            go_wp2_with fail
            refine (hpk.out w12 x.kd).mono ?_
            rintro e w13 ⟨rfl, rfl⟩
            have hp := hpr.out x.kd
            obtain ⟨pk, hpe⟩ := Int.eq_ofNat_of_zero_le hp.1
            rw [hpe] at hp ⊢
            have hp7 : pk = 0 ∨ pk = 1 ∨ pk = 2 ∨ pk = 3 ∨ pk = 4 ∨ pk = 5 ∨ pk = 6 := by omega
            clear hp hpe y1
            rcases hp7 with rfl | rfl | rfl | rfl | rfl | rfl | rfl
            · skip
              go_wp2_with fail
              have hc0 := array_ok W w13 _ h hm12.pull6 hok I j ic its ⟨hm12.rd m1⟩ (by omega) (by omega)
              rcases make_two h.abs (decide (j ≤ 4096)) (2 + (j : Int)) 6 ⟨6, its, [], 0, 0, false⟩ with ⟨e1, e2, e3⟩ | ⟨e1, e2, _⟩
              · rw [e1, e2] at hc0
                clear e1 e2
                replace hc0 := Fact.mk hc0
                refine hc0.out.mono ?_
                rintro e w14 ⟨rfl, h', hg', ha', ho', hm14⟩
                clear hc0
                obtain ⟨hl', hln', hkn'⟩ := lay_add hlay.out ha' (hits.out.2) (tab_arr (by rw [hits.out.1]; omega))
                replace hl' := Fact.mk hl'
                replace hln' := Fact.mk hln'
                replace hkn' := Fact.mk hkn'
                replace ho' := Fact.mk ho'
                replace hg' := Fact.mk hg'
                have hms := hm14.swap
                clear ha' hm14 hm12 y7
                go_wp2_with (first | (refine wp_setrow rfl 27 _ _ rfl g12 rfl 27 _ [.int .i64 6, .int .i64 h.abs.objs.length] rfl hms sz_V rfl (cV_one (6, (h.abs.objs.length : Int))) ?_; intro w15 hm15; have x0 := hm15.cell m0 0 rfl) | (at_builtin; refine wp_app rfl _ _ _ rfl 3 iI _ 1 8 ty_ints hiI yz0 yz1 yz2 rfl K h.ths.length c _ rfl (hm15.alloc _).pull7 _ 1 1 [.int .i64 6] rfl (RdC.lit _ _ _ _ _ rfl (by simp [maxLen]) (one_one rfl)) (by unfold maxLen; omega) (by omega) ?_; intro K5 c5 w16 hm16))
                go_roundw
                case rel =>
                  refine ⟨k + 1, by go_num, by omega, K5, c5, h', by rw [hln'.out], hg'.out, ho'.out, hl'.out, by have := hln'.out; omega, ?_⟩
                  rw [hln'.out, hkn'.out, nums_append]
                  exact hm16.sub (.cons_cons _ (.cons _ (.cons _ (.cons_cons _ (.cons _ (.cons _ (.cons _ (.cons _ (.refl _)))))))))
                case measure => first | exact measP_lt hlt | exact measN_lt hlt wrapk
              · rw [e1, e2] at hc0
                clear e1 e2
                replace hc0 := Fact.mk hc0
                refine hc0.out.mono ?_
                rintro e w14 ⟨rfl, h', hg', ha', ho', hm14⟩
                clear hc0
                obtain ⟨hln', hkn'⟩ := lay_keep ha' rfl
                have hl' : Lay h'.abs := by rw [ha']; exact hlay.out
                replace hl' := Fact.mk hl'
                replace hln' := Fact.mk hln'
                replace hkn' := Fact.mk hkn'
                replace ho' := Fact.mk ho'
                replace hg' := Fact.mk hg'
                have hms := hm14.swap
                clear ha' hm14 hm12 y7
                go_wp2_with (refine wp_setrow rfl 27 _ _ rfl g12 rfl 27 _ [.int .i64 0, .int .i64 0] rfl hms sz_V rfl (cV_one (0, 0)) ?_; intro w15 hm15)
                have hz : Mem W w15 (Own 1 (.slice K h'.ths.length c) (nums .i64 (kindsOf h'.objs)) :: HpC h' :: L) := by
                  rw [hln'.out, hkn'.out]
                  exact (hm15.sub (.cons _ (.cons_cons _ (.cons _ (.cons _ (.cons _ (.cons _ (.cons_cons _ (.refl _))))))))).swap
                rw [← hln'.out]
                go_roundw
                case rel => exact ⟨k + 1, by go_num, by omega, K, c, h', rfl, hg'.out, ho'.out, hl'.out, by have := hln'.out; omega, hz⟩
                case measure => first | exact measP_lt hlt | exact measN_lt hlt wrapk
            · skip
              go_wp2_with fail
              have hc0 := record_ok W w13 _ h hm12.pull6 hok (by omega)
              rcases make_two h.abs (true) (2) 7 ⟨7, [], [], 0, 0, false⟩ with ⟨e1, e2, e3⟩ | ⟨e1, e2, _⟩
              · rw [e1, e2] at hc0
                clear e1 e2
                replace hc0 := Fact.mk hc0
                refine hc0.out.mono ?_
                rintro e w14 ⟨rfl, h', hg', ha', ho', hm14⟩
                clear hc0
                obtain ⟨hl', hln', hkn'⟩ := lay_add hlay.out ha' (fun v hv => by cases hv) (tab_rec)
                replace hl' := Fact.mk hl'
                replace hln' := Fact.mk hln'
                replace hkn' := Fact.mk hkn'
                replace ho' := Fact.mk ho'
                replace hg' := Fact.mk hg'
                have hms := hm14.swap
                clear ha' hm14 hm12 y7
                go_wp2_with (first | (refine wp_setrow rfl 27 _ _ rfl g12 rfl 27 _ [.int .i64 7, .int .i64 h.abs.objs.length] rfl hms sz_V rfl (cV_one (7, (h.abs.objs.length : Int))) ?_; intro w15 hm15; have x0 := hm15.cell m0 0 rfl) | (at_builtin; refine wp_app rfl _ _ _ rfl 3 iI _ 1 8 ty_ints hiI yz0 yz1 yz2 rfl K h.ths.length c _ rfl (hm15.alloc _).pull7 _ 1 1 [.int .i64 7] rfl (RdC.lit _ _ _ _ _ rfl (by simp [maxLen]) (one_one rfl)) (by unfold maxLen; omega) (by omega) ?_; intro K5 c5 w16 hm16))
                go_roundw
                case rel =>
                  refine ⟨k + 1, by go_num, by omega, K5, c5, h', by rw [hln'.out], hg'.out, ho'.out, hl'.out, by have := hln'.out; omega, ?_⟩
                  rw [hln'.out, hkn'.out, nums_append]
                  exact hm16.sub (.cons_cons _ (.cons _ (.cons _ (.cons_cons _ (.cons _ (.cons _ (.cons _ (.cons _ (.refl _)))))))))
                case measure => first | exact measP_lt hlt | exact measN_lt hlt wrapk
              · rw [e1, e2] at hc0
                clear e1 e2
                replace hc0 := Fact.mk hc0
                refine hc0.out.mono ?_
                rintro e w14 ⟨rfl, h', hg', ha', ho', hm14⟩
                clear hc0
                obtain ⟨hln', hkn'⟩ := lay_keep ha' rfl
                have hl' : Lay h'.abs := by rw [ha']; exact hlay.out
                replace hl' := Fact.mk hl'
                replace hln' := Fact.mk hln'
                replace hkn' := Fact.mk hkn'
                replace ho' := Fact.mk ho'
                replace hg' := Fact.mk hg'
                have hms := hm14.swap
                clear ha' hm14 hm12 y7
                go_wp2_with (refine wp_setrow rfl 27 _ _ rfl g12 rfl 27 _ [.int .i64 0, .int .i64 0] rfl hms sz_V rfl (cV_one (0, 0)) ?_; intro w15 hm15)
                have hz : Mem W w15 (Own 1 (.slice K h'.ths.length c) (nums .i64 (kindsOf h'.objs)) :: HpC h' :: L) := by
                  rw [hln'.out, hkn'.out]
                  exact (hm15.sub (.cons _ (.cons_cons _ (.cons _ (.cons _ (.cons _ (.cons _ (.cons_cons _ (.refl _))))))))).swap
                rw [← hln'.out]
                go_roundw
                case rel => exact ⟨k + 1, by go_num, by omega, K, c, h', rfl, hg'.out, ho'.out, hl'.out, by have := hln'.out; omega, hz⟩
                case measure => first | exact measP_lt hlt | exact measN_lt hlt wrapk
            · skip
              go_wp2_with fail
              refine (hpk100.out w13 x.M).mono ?_
              rintro e wp ⟨rfl, rfl⟩
              have hfr := hpr100.out x.M
              generalize pickF x.M 100 = fn at hfr ⊢
              replace hfr := Fact.mk hfr
              go_wp2_with fail
              have hc0 := bound_ok W wp _ h hm12.pull6 hok fn I j ic its ⟨hm12.rd m1⟩ (by omega) (by omega)
              rcases make_two h.abs (decide (0 ≤ fn) && decide (j ≤ 4096)) (2 + (j : Int)) 8 ⟨8, its, [], fn, 0, false⟩ with ⟨e1, e2, e3⟩ | ⟨e1, e2, _⟩
              · rw [e1, e2] at hc0
                clear e1 e2
                replace hc0 := Fact.mk hc0
                refine hc0.out.mono ?_
                rintro e w14 ⟨rfl, h', hg', ha', ho', hm14⟩
                clear hc0
                obtain ⟨hl', hln', hkn'⟩ := lay_add hlay.out ha' (hits.out.2) (tab_bound (by rw [hits.out.1]; omega) hfr.out.1)
                replace hl' := Fact.mk hl'
                replace hln' := Fact.mk hln'
                replace hkn' := Fact.mk hkn'
                replace ho' := Fact.mk ho'
                replace hg' := Fact.mk hg'
                have hms := hm14.swap
                clear ha' hm14 hm12 y7
                go_wp2_with (first | (refine wp_setrow rfl 27 _ _ rfl g12 rfl 27 _ [.int .i64 8, .int .i64 h.abs.objs.length] rfl hms sz_V rfl (cV_one (8, (h.abs.objs.length : Int))) ?_; intro w15 hm15; have x0 := hm15.cell m0 0 rfl) | (at_builtin; refine wp_app rfl _ _ _ rfl 3 iI _ 1 8 ty_ints hiI yz0 yz1 yz2 rfl K h.ths.length c _ rfl (hm15.alloc _).pull7 _ 1 1 [.int .i64 8] rfl (RdC.lit _ _ _ _ _ rfl (by simp [maxLen]) (one_one rfl)) (by unfold maxLen; omega) (by omega) ?_; intro K5 c5 w16 hm16))
                go_roundw
                case rel =>
                  refine ⟨k + 1, by go_num, by omega, K5, c5, h', by rw [hln'.out], hg'.out, ho'.out, hl'.out, by have := hln'.out; omega, ?_⟩
                  rw [hln'.out, hkn'.out, nums_append]
                  exact hm16.sub (.cons_cons _ (.cons _ (.cons _ (.cons_cons _ (.cons _ (.cons _ (.cons _ (.cons _ (.refl _)))))))))
                case measure => first | exact measP_lt hlt | exact measN_lt hlt wrapk
              · rw [e1, e2] at hc0
                clear e1 e2
                replace hc0 := Fact.mk hc0
                refine hc0.out.mono ?_
                rintro e w14 ⟨rfl, h', hg', ha', ho', hm14⟩
                clear hc0
                obtain ⟨hln', hkn'⟩ := lay_keep ha' rfl
                have hl' : Lay h'.abs := by rw [ha']; exact hlay.out
                replace hl' := Fact.mk hl'
                replace hln' := Fact.mk hln'
                replace hkn' := Fact.mk hkn'
                replace ho' := Fact.mk ho'
                replace hg' := Fact.mk hg'
                have hms := hm14.swap
                clear ha' hm14 hm12 y7
                go_wp2_with (refine wp_setrow rfl 27 _ _ rfl g12 rfl 27 _ [.int .i64 0, .int .i64 0] rfl hms sz_V rfl (cV_one (0, 0)) ?_; intro w15 hm15)
                have hz : Mem W w15 (Own 1 (.slice K h'.ths.length c) (nums .i64 (kindsOf h'.objs)) :: HpC h' :: L) := by
                  rw [hln'.out, hkn'.out]
                  exact (hm15.sub (.cons _ (.cons_cons _ (.cons _ (.cons _ (.cons _ (.cons _ (.cons_cons _ (.refl _))))))))).swap
                rw [← hln'.out]
                go_roundw
                case rel => exact ⟨k + 1, by go_num, by omega, K, c, h', rfl, hg'.out, ho'.out, hl'.out, by have := hln'.out; omega, hz⟩
                case measure => first | exact measP_lt hlt | exact measN_lt hlt wrapk
            · skip
              go_wp2_with fail
              refine (hpk64.out w13 x.M).mono ?_
              rintro e wp ⟨rfl, rfl⟩
              have hfr := hpr64.out x.M
              generalize pickF x.M 64 = fn at hfr ⊢
              replace hfr := Fact.mk hfr
              have hfb : 0 ≤ fn ∧ fn < 64 := by have := hfr.out; omega
              go_wp2_with fail
              have hc0 := chan_ok W wp _ h hm12.pull6 hok (1 + fn) (by omega)
              rcases make_two h.abs (decide (1 ≤ 1 + fn) && decide (1 + fn ≤ 64)) (2 + (1 + fn)) 9 ⟨9, [], [], 0, 1 + fn, false⟩ with ⟨e1, e2, e3⟩ | ⟨e1, e2, _⟩
              · rw [e1, e2] at hc0
                clear e1 e2
                replace hc0 := Fact.mk hc0
                refine hc0.out.mono ?_
                rintro e w14 ⟨rfl, h', hg', ha', ho', hm14⟩
                clear hc0
                obtain ⟨hl', hln', hkn'⟩ := lay_add hlay.out ha' (fun v hv => by cases hv) (tab_chan (by have := hfr.out; omega) (by have := hfr.out; omega))
                replace hl' := Fact.mk hl'
                replace hln' := Fact.mk hln'
                replace hkn' := Fact.mk hkn'
                replace ho' := Fact.mk ho'
                replace hg' := Fact.mk hg'
                have hms := hm14.swap
                clear ha' hm14 hm12 y7
                go_wp2_with (first | (refine wp_setrow rfl 27 _ _ rfl g12 rfl 27 _ [.int .i64 9, .int .i64 h.abs.objs.length] rfl hms sz_V rfl (cV_one (9, (h.abs.objs.length : Int))) ?_; intro w15 hm15; have x0 := hm15.cell m0 0 rfl) | (at_builtin; refine wp_app rfl _ _ _ rfl 3 iI _ 1 8 ty_ints hiI yz0 yz1 yz2 rfl K h.ths.length c _ rfl (hm15.alloc _).pull7 _ 1 1 [.int .i64 9] rfl (RdC.lit _ _ _ _ _ rfl (by simp [maxLen]) (one_one rfl)) (by unfold maxLen; omega) (by omega) ?_; intro K5 c5 w16 hm16))
                go_roundw
                case rel =>
                  refine ⟨k + 1, by go_num, by omega, K5, c5, h', by rw [hln'.out], hg'.out, ho'.out, hl'.out, by have := hln'.out; omega, ?_⟩
                  rw [hln'.out, hkn'.out, nums_append]
                  exact hm16.sub (.cons_cons _ (.cons _ (.cons _ (.cons_cons _ (.cons _ (.cons _ (.cons _ (.cons _ (.refl _)))))))))
                case measure => first | exact measP_lt hlt | exact measN_lt hlt wrapk
              · rw [e1, e2] at hc0
                clear e1 e2
                replace hc0 := Fact.mk hc0
                refine hc0.out.mono ?_
                rintro e w14 ⟨rfl, h', hg', ha', ho', hm14⟩
                clear hc0
                obtain ⟨hln', hkn'⟩ := lay_keep ha' rfl
                have hl' : Lay h'.abs := by rw [ha']; exact hlay.out
                replace hl' := Fact.mk hl'
                replace hln' := Fact.mk hln'
                replace hkn' := Fact.mk hkn'
                replace ho' := Fact.mk ho'
                replace hg' := Fact.mk hg'
                have hms := hm14.swap
                clear ha' hm14 hm12 y7
                go_wp2_with (refine wp_setrow rfl 27 _ _ rfl g12 rfl 27 _ [.int .i64 0, .int .i64 0] rfl hms sz_V rfl (cV_one (0, 0)) ?_; intro w15 hm15)
                have hz : Mem W w15 (Own 1 (.slice K h'.ths.length c) (nums .i64 (kindsOf h'.objs)) :: HpC h' :: L) := by
                  rw [hln'.out, hkn'.out]
                  exact (hm15.sub (.cons _ (.cons_cons _ (.cons _ (.cons _ (.cons _ (.cons _ (.cons_cons _ (.refl _))))))))).swap
                rw [← hln'.out]
                go_roundw
                case rel => exact ⟨k + 1, by go_num, by omega, K, c, h', rfl, hg'.out, ho'.out, hl'.out, by have := hln'.out; omega, hz⟩
                case measure => first | exact measP_lt hlt | exact measN_lt hlt wrapk
            · skip
              go_wp2_with (first | (refine wp_rng rfl 27 _ rfl g8 0 rfl [.int .i64 a.1, .int .i64 a.2] (rng_blk hm12 m3) row_V sz_V ?_) | (refine wp_rng rfl 27 _ rfl g9 0 rfl [.int .i64 v9.1, .int .i64 v9.2] (rng_blk hm12 m2) row_V sz_V ?_))
              refine (push_any W w13 _ h hm12.pull6 hok a.1 a.2 v9.1 v9.2).mono ?_
              rintro e w14 ⟨rfl, h', hg', ha', ho', hm14⟩
              obtain ⟨hl', hk'⟩ := hlay.out.push (a.1, a.2) (v9.1, v9.2) hrb.out
              rw [← ha'] at hl'
              obtain ⟨hln', hkn'⟩ := lay_keep ha' hk'
              replace hl' := Fact.mk hl'
              replace hln' := Fact.mk hln'
              replace hkn' := Fact.mk hkn'
              replace ho' := Fact.mk ho'
              replace hg' := Fact.mk hg'
              clear ha' hk' hm12 y7
              go_wp2_with fail
              have hz : Mem W w14 (Own 1 (.slice K h'.ths.length c) (nums .i64 (kindsOf h'.objs)) :: HpC h' :: L) := by
                rw [hln'.out, hkn'.out]
                exact (hm14.sub (.cons_cons _ (.cons _ (.cons _ (.cons _ (.cons _ (.cons _ (.cons_cons _ (.refl _))))))))).swap
              rw [← hln'.out]
              go_roundw
              case rel => exact ⟨k + 1, by go_num, by omega, K, c, h', rfl, hg'.out, ho'.out, hl'.out, by have := hln'.out; omega, hz⟩
              case measure => first | exact measP_lt hlt | exact measN_lt hlt wrapk
            · skip
              go_upto_region 28 with (fail)
              have hm13 := hm12.drew
              have hS : w13.drew.cell? ⟨g8, 0, none⟩ = some (.int .i64 a.1) ∧ w13.drew.cell? ⟨g8, 1, none⟩ = some (.int .i64 a.2) ∧ w13.drew.cell? ⟨g9, 0, none⟩ = some (.int .i64 v9.1) ∧ w13.drew.cell? ⟨g9, 1, none⟩ = some (.int .i64 v9.2) ∧ w13.drew.cell? ⟨g7, 7, none⟩ = some (.int .i64 x.M) := ⟨hm13.cell m3 0 rfl, hm13.cell m3 1 rfl, hm13.cell m2 0 rfl, hm13.cell m2 1 rfl, hm13.cell m4 7 rfl⟩
              refine wp_region_until (S := fun W => W.cell? ⟨g8, 0, none⟩ = some (.int .i64 a.1) ∧ W.cell? ⟨g8, 1, none⟩ = some (.int .i64 a.2) ∧ W.cell? ⟨g9, 0, none⟩ = some (.int .i64 v9.1) ∧ W.cell? ⟨g9, 1, none⟩ = some (.int .i64 v9.2) ∧ W.cell? ⟨g7, 7, none⟩ = some (.int .i64 x.M)) 6 (by kernel_rfl) ?_
              generalize w13.drew = wd at hm13 hS ⊢
              clear hm12 y7
              refine wpAnyU_take 0 (v := ?vs5c0) rfl (by kernel_rfl) (by kernel_rfl) (fun _ _ _ h => h) hS (Or.inl ⟨rfl, ?ys5c0⟩) ?rs5c0
              case ys5c0 =>
                intro W hW
                obtain ⟨hW0, hW1, hW2, hW3, hW4⟩ := hW
                go_simp
                try with_reducible rfl
              try simp only [Act.put, List.getElem_toArray, List.getElem_cons_succ, List.getElem_cons_zero, List.setIfInBounds_toArray, List.set_cons_zero, List.set_cons_succ]
              refine wpAnyU_take 1 (v := ?vs5c1) rfl (by kernel_rfl) (by kernel_rfl) (fun _ _ _ h => h) hS (Or.inl ⟨rfl, ?ys5c1⟩) ?rs5c1
              case ys5c1 =>
                intro W hW
                obtain ⟨hW0, hW1, hW2, hW3, hW4⟩ := hW
                go_simp
                try with_reducible rfl
              try simp only [Act.put, List.getElem_toArray, List.getElem_cons_succ, List.getElem_cons_zero, List.setIfInBounds_toArray, List.set_cons_zero, List.set_cons_succ]
              refine wpAnyU_take 2 (v := ?vs5c2) rfl (by kernel_rfl) (by kernel_rfl) (fun _ _ _ h => h) hS (Or.inl ⟨rfl, ?ys5c2⟩) ?rs5c2
              case ys5c2 =>
                intro W hW
                obtain ⟨hW0, hW1, hW2, hW3, hW4⟩ := hW
                go_simp
                try with_reducible rfl
              try simp only [Act.put, List.getElem_toArray, List.getElem_cons_succ, List.getElem_cons_zero, List.setIfInBounds_toArray, List.set_cons_zero, List.set_cons_succ]
              refine wpAnyU_take 3 (v := ?vs5c3) rfl (by kernel_rfl) (by kernel_rfl) (fun _ _ _ h => h) hS (Or.inl ⟨rfl, ?ys5c3⟩) ?rs5c3
              case ys5c3 =>
                intro W hW
                obtain ⟨hW0, hW1, hW2, hW3, hW4⟩ := hW
                go_simp
                try with_reducible rfl
              try simp only [Act.put, List.getElem_toArray, List.getElem_cons_succ, List.getElem_cons_zero, List.setIfInBounds_toArray, List.set_cons_zero, List.set_cons_succ]
              refine wpAnyU_take 5 (v := ?vs5c5) rfl (by kernel_rfl) (by kernel_rfl) (fun _ _ _ h => h) hS (Or.inl ⟨rfl, ?ys5c5⟩) ?rs5c5
              case ys5c5 =>
                intro W hW
                obtain ⟨hW0, hW1, hW2, hW3, hW4⟩ := hW
                go_simp
                try with_reducible rfl
              try simp only [Act.put, List.getElem_toArray, List.getElem_cons_succ, List.getElem_cons_zero, List.setIfInBounds_toArray, List.set_cons_zero, List.set_cons_succ]
              refine wpAnyU_one 4 (by kernel_rfl) rfl (fun K0 hK => ?_)
              refine step_call rfl 12 Try.f12 Try.func12 (by kernel_rfl) (by kernel_rfl) _ _ rfl #[.int .i64 x.M, .int .i64 100] (by simp [Act.eval]) ?_
              refine (hpk100.out wd x.M).mono ?_
              rintro e wp ⟨rfl, rfl⟩
              have hfr := hpr100.out x.M
              generalize pickF x.M 100 = fn at hfr ⊢
              refine ⟨_, rfl, ?_⟩
              refine hK _ _ (fun _ => hS) ?_
              clear hK K0
              try simp only [Act.put, List.getElem_toArray, List.getElem_cons_succ, List.getElem_cons_zero, List.setIfInBounds_toArray, List.set_cons_zero, List.set_cons_succ]
              refine wpAnyU_one 6 (by kernel_rfl) rfl (fun K0 hK => ?_)
              refine step_call rfl 24 Try.f24 Try.func24 (by kernel_rfl) (by kernel_rfl) _ _ rfl #[.pointer (some ⟨h.g, 0, none⟩), .agg #[.int .i64 a.1, .int .i64 a.2], .int .i64 fn, .agg #[.int .i64 v9.1, .int .i64 v9.2]] (by simp [Act.eval]) ?_
              refine (setF_any W wp _ h hm13.pull6 hok a.1 a.2 fn ⟨wf_100 hfr⟩ v9.1 v9.2).mono ?_
              rintro e w14 ⟨rfl, h', hg', ha', ho', hm14⟩
              refine ⟨_, rfl, ?_⟩
              refine hK _ _ (fun h => absurd h (by decide)) ?_
              clear hK K0 hS
              try simp only [Act.put, List.getElem_toArray, List.getElem_cons_succ, List.getElem_cons_zero, List.setIfInBounds_toArray, List.set_cons_zero, List.set_cons_succ]
              refine wpAnyU_done (by kernel_rfl) ?_ _
              obtain ⟨hl', hk'⟩ := hlay.out.setF (a.1, a.2) fn (v9.1, v9.2) hrb.out hfr.1
              rw [← ha'] at hl'
              obtain ⟨hln', hkn'⟩ := lay_keep ha' hk'
              replace hl' := Fact.mk hl'
              replace hln' := Fact.mk hln'
              replace hkn' := Fact.mk hkn'
              replace ho' := Fact.mk ho'
              replace hg' := Fact.mk hg'
              clear ha' hk' hm13
              go_wp2_with fail
              have hz : Mem W w14 (Own 1 (.slice K h'.ths.length c) (nums .i64 (kindsOf h'.objs)) :: HpC h' :: L) := by
                rw [hln'.out, hkn'.out]
                exact (hm14.sub (.cons_cons _ (.cons _ (.cons _ (.cons _ (.cons _ (.cons _ (.cons_cons _ (.refl _))))))))).swap
              rw [← hln'.out]
              go_roundw
              case rel => exact ⟨k + 1, by go_num, by omega, K, c, h', rfl, hg'.out, ho'.out, hl'.out, by have := hln'.out; omega, hz⟩
              case measure => first | exact measP_lt hlt | exact measN_lt hlt wrapk
            · skip
              go_wp2_with (first | (refine wp_rng rfl 27 _ rfl g8 0 rfl [.int .i64 a.1, .int .i64 a.2] (rng_blk hm12 m3) row_V sz_V ?_) | (refine wp_rng rfl 27 _ rfl g9 0 rfl [.int .i64 v9.1, .int .i64 v9.2] (rng_blk hm12 m2) row_V sz_V ?_))
              refine (send_any W w13 _ h hm12.pull6 hok (Lay.few (by rw [h.abs_len']; omega) hlay.out) a.1 a.2 v9.1 v9.2).mono ?_
              rintro e w14 ⟨rfl, h', hg', ha', ho', hm14⟩
              obtain ⟨hl', hk'⟩ := hlay.out.send (a.1, a.2) (v9.1, v9.2) hrb.out
              rw [← ha'] at hl'
              obtain ⟨hln', hkn'⟩ := lay_keep ha' hk'
              replace hl' := Fact.mk hl'
              replace hln' := Fact.mk hln'
              replace hkn' := Fact.mk hkn'
              replace ho' := Fact.mk ho'
              replace hg' := Fact.mk hg'
              clear ha' hk' hm12 y7
              go_wp2_with fail
              have hz : Mem W w14 (Own 1 (.slice K h'.ths.length c) (nums .i64 (kindsOf h'.objs)) :: HpC h' :: L) := by
                rw [hln'.out, hkn'.out]
                exact (hm14.sub (.cons_cons _ (.cons _ (.cons _ (.cons _ (.cons _ (.cons _ (.cons_cons _ (.refl _))))))))).swap
              rw [← hln'.out]
              go_roundw
              case rel => exact ⟨k + 1, by go_num, by omega, K, c, h', rfl, hg'.out, ho'.out, hl'.out, by have := hln'.out; omega, hz⟩
              case measure => first | exact measP_lt hlt | exact measN_lt hlt wrapk
    · obtain rfl : k = m := by omega
      go_wp2
      go_ret
      exact ⟨K, c, h, rfl, rfl, hok.out, hlay.out, hlen, hmr⟩
end Go.Proofs.Ytpibchjkmaghnaa
namespace Go.Proofs.Ytpibchjkmaghnaa
open Go.RowKit Go.Mm
set_option maxHeartbeats 8000000
set_option maxRecDepth 100000
set_option linter.unusedSimpArgs false
theorem reach_new {l : List Ob} : reachR (l ++ [⟨6, [], [], 0, 0, false⟩]) [(6, (l.length : Int))] = [l.length] := by
  have hn : nm (l ++ [⟨6, [], [], 0, 0, false⟩]) (6, (l.length : Int)) = some l.length := by
    unfold nm
    rw [if_pos]
    · rfl
    · refine ⟨by show (0 : Int) ≤ l.length; omega, by show (l.length : Int) < _; rw [List.length_append]; simp; omega, ?_⟩
      show ((l ++ [(⟨6, [], [], 0, 0, false⟩ : Ob)]).getD ((l.length : Int)).toNat ob0).kind = 6
      rw [show ((l.length : Int)).toNat = l.length from rfl, List.getD_eq_getElem?_getD, List.getElem?_append_right (Nat.le_refl _)]
      simp
  unfold reachR
  have e1 : meetL (l ++ [⟨6, [], [], 0, 0, false⟩]) [] [(6, (l.length : Int))] = [l.length] := by
    unfold meetL
    rw [hn]
    simp [meetL]
  rw [e1]
  have e2 : ((l ++ [(⟨6, [], [], 0, 0, false⟩ : Ob)]).getD ([l.length].getD 0 0) ob0).items = [] := by
    show ((l ++ [(⟨6, [], [], 0, 0, false⟩ : Ob)]).getD l.length ob0).items = []
    rw [List.getD_eq_getElem?_getD, List.getElem?_append_right (Nat.le_refl _)]
    simp
  rw [List.length_append, show l.length + [(⟨6, [], [], 0, 0, false⟩ : Ob)].length + 1 = (l.length + 1) + 1 from rfl]
  unfold reachL
  rw [if_pos (by simp), e2]
  show reachL _ (l.length + 1) 1 [l.length] = [l.length]
  exact reachL_end _ _ _ _ (by simp)
theorem laid_ok (W w : World) (L : List Chunk) (h : Hp) (hm : Mem W w (HpC h :: L)) (hok : Fact h.Ok) (hb : h.budget = 1048576) (hl : h.ths.length ≤ 1048576) :
    Calls Try.prog 38 #[.pointer (some ⟨h.g, 0, none⟩)] w fun e w' => e = .returned (.bool true) ∧ ∃ h' : Hp, h'.g = h.g ∧ h'.Ok ∧ h'.spent ≤ 9223372036854775807 ∧ ((h'.ths.length = h.ths.length + 1) ∨ (h'.ths.length = h.ths.length ∧ h'.spent > 1048574)) ∧ Mem W w' (HpC h' :: L) := by
  go_enter Try.func38, Try.ntmps38
  go_wp2_with fail
  refine (heapLen_ok W w _ h hm m0).mono ?_
  rintro e w1 ⟨rfl, rfl⟩
  go_wp2_with fail
  have hc0 := array_ok W w1 L h hm hok none 0 0 [] ⟨RdC.nil _ _⟩ (by omega) (by omega)
  rcases make_two h.abs (decide (0 ≤ 4096)) (2 + ((0 : Nat) : Int)) 6 ⟨6, [], [], 0, 0, false⟩ with ⟨e1, e2, e3⟩ | ⟨e1, e2, e3⟩
  · rw [e1, e2] at hc0
    clear e1 e2
    replace hc0 := Fact.mk hc0
    refine hc0.out.mono ?_
    rintro e w2 ⟨rfl, h', hg', ha', ho', hm2⟩
    clear hc0 hm
    have hln : h'.ths.length = h.ths.length + 1 := by rw [← h'.abs_len', ha', List.length_append, h.abs_len']; rfl
    have hobj : h'.objs = h.objs ++ [⟨6, [], [], 0, 0, false⟩] := by rw [show h'.objs = h'.abs.objs from rfl, ha']; rfl
    have hre : reachR h'.objs [(6, (h.ths.length : Int))] = [h.ths.length] := by rw [hobj, ← h.abs_len]; exact reach_new
    rw [h.abs_len']
    replace hln := Fact.mk hln
    replace ho' := Fact.mk ho'
    replace hg' := Fact.mk hg'
    replace hre := Fact.mk hre
    clear ha' hobj
    go_upto_region 5 with (refine wp_setrow rfl 27 _ _ rfl w2.heap.size rfl 27 _ [.int .i64 6, .int .i64 h.ths.length] rfl (hm2.alloc _) sz_V rfl (cV_one (6, (h.ths.length : Int))) ?_; intro w3 hm3)
    generalize w2.heap.size = g4 at hm3 ⊢
    clear hm2
    go_upto_region 5 with (fail)
    go_wp2_with (refine wp_rng rfl 27 _ rfl g4 0 rfl [.int .i64 6, .int .i64 h.ths.length] (rng_blk hm3 m0) row_V sz_V ?_)
    have hm4 := hm3.alloc (.cells [.int .i64 6, .int .i64 h.ths.length].toArray 27)
    generalize hgb : w3.heap.size = g5 at hm4 ⊢
    generalize hw1 : w3.alloc (.cells [.int .i64 6, .int .i64 h.ths.length].toArray 27) = w4 at hm4 ⊢
    clear hw1 hgb hm3
    replace hm4 : Mem W w4 (Own 2 (.slice (some ⟨g5, 0, none⟩) 1 1) (fV [(6, (h.ths.length : Int))]) :: Blk g4 (.cells [.int .i64 6, .int .i64 h.ths.length].toArray 27) :: HpC h' :: L) := hm4.blk_own (n := 1) (size := 2) rfl (by unfold maxLen; omega) (cV_one (6, (h.ths.length : Int)))
    have hrc := reach_ok W w4 _ h' m2 ho' hm4 (some ⟨g5, 0, none⟩) 1 1 [(6, (h.ths.length : Int))] ⟨fun w' h => h.rd m0⟩ (by omega)
    rw [hre.out, hg'.out] at hrc
    replace hrc := Fact.mk hrc
    refine hrc.out.mono ?_
    rintro e w5 ⟨R, rc, rfl, hm5⟩
    clear hm4 hrc
    obtain ⟨b, o, c0, rfl, q1, q2, _, _⟩ := (hm5.rd m0).at1 0 (by simp)
    cases q2
    have x0 := hm5.cell m2 0 rfl
    have x1 := hm5.cell m2 1 rfl
    simp only [Nat.add_zero] at q1
    go_wp2
    go_ret
    exact ⟨rfl, h', hg'.out, ho'.out, ho'.out.s1, .inl hln.out, hm5.sub (.cons _ (.cons _ (.cons _ (.refl _))))⟩
  · have hsp : h.spent > 1048574 := by
      rcases e3 with e3 | e3
      · cases e3
      · unfold Hs.room at e3
        rw [decide_eq_true (show (0 : Int) ≤ 2 + ((0 : Nat) : Int) by omega), Bool.true_and] at e3
        have e3 := of_decide_eq_false e3
        have : h.abs.budget = h.budget := rfl
        have : h.abs.spent = h.spent := rfl
        omega
    rw [e1, e2] at hc0
    clear e1 e2 e3
    replace hc0 := Fact.mk hc0
    refine hc0.out.mono ?_
    rintro e w2 ⟨rfl, h', hg', ha', ho', hm2⟩
    clear hc0 hm
    have hln : h'.ths.length = h.ths.length := by rw [← h'.abs_len', ha', h.abs_len']
    have hs' : h'.spent = h.spent := congrArg Hs.spent ha'
    replace hln := Fact.mk hln
    replace ho' := Fact.mk ho'
    replace hg' := Fact.mk hg'
    replace hs' := Fact.mk hs'
    clear ha'
    go_upto_region 3 with (refine wp_setrow rfl 27 _ _ rfl w2.heap.size rfl 27 _ [.int .i64 0, .int .i64 0] rfl (hm2.alloc _) sz_V rfl (cV_one (0, 0)) ?_; intro w3 hm3)
    clear hm2
    have hcs := heapSpent_ok W w3 _ h' hm3 m1
    rw [hg'.out, hs'.out] at hcs
    replace hcs := Fact.mk hcs
    have hgt : decide (h.spent > 1048574) = true := decide_eq_true hsp
    go_wp2_with fail
    refine hcs.out.mono ?_
    rintro e w4 ⟨rfl, rfl⟩
    go_wp2
    go_ret
    exact ⟨rfl, h', hg'.out, ho'.out, ho'.out.s1, .inr ⟨hln.out, by rw [hs'.out]; exact hsp⟩, hm3.tail⟩
theorem perm_b {α : Type} (p g h o k : α) (Z Y L : List α) : (g :: p :: (Z ++ (h :: o :: (Y ++ (k :: L))))).Perm (h :: k :: g :: p :: o :: (Z ++ (Y ++ L))) := perm_l fun D x => by simp only [List.count_append, List.count_cons]; omega
theorem perm_b3 {α : Type} (a b c : α) (Y L : List α) : (a :: b :: (Y ++ (c :: L))).Perm (a :: c :: b :: (Y ++ L)) := perm_l fun D x => by simp only [List.count_append, List.count_cons]; omega
theorem ObsR.ofB {w0 w : World} {L : List Chunk} {A : Option Addr} {n c : Nat} {ys : List RO} (hm : Mem w0 w L) (h1 : Own 6 (.slice A n c) (ys.flatMap cRO) ∈ L) (h2 : ∀ y, y ∈ ys → RoC y ∈ L) : ObsR w A n c ys :=
  ⟨(hm.ok _ h1).rd, fun y hy => RoC.reads (hm.ok _ (h2 y hy))⟩
theorem back_ok (W w : World) (L : List Chunk) (hm : Mem W w L) (A : Option Addr) (m ac : Nat) (ops : List HOp) (hs : Fact (RdC W 9 (.slice A m ac) (ops.flatMap cHO))) (hit : Fact (OpsOk W ops)) (hmm : m ≤ 1048576) (b : Int) (hb : b ≤ 9223372036854775807) :
    Calls Try.prog 34 #[.slice A m ac, .int .i64 b] w fun e w' => e = .returned (.bool true) ∧ Mem W w' L := by
  go_enter Try.func34, Try.ntmps34
  go_wp2_with fail
  refine (heapNew_ok W w L hm 1048576 0).mono ?_
  rintro e w1 ⟨g1, rfl, hm1⟩
  rw [show max (1048576 : Int) 0 = 1048576 from rfl, show max (0 : Int) 0 = 0 from rfl] at hm1
  clear hm
  go_wp2_with fail
  refine (lay_ok W w1 L ⟨g1, 1048576, 0, none, 0, []⟩ hm1 ⟨by simp, by simp, by show (0 : Int) ≤ 1048576; omega, by show (1048576 : Int) ≤ _; omega, by show (0 : Int) ≤ 0; omega, by show (0 : Int) ≤ _; omega⟩ rfl A m ac ops hs hit hmm).mono ?_
  rintro e w2 ⟨K, c, h, rfl, hg, hok, hlay, hlen, hm2⟩
  clear hm1
  subst hg
  replace hok := Fact.mk hok
  replace hlay := Fact.mk hlay
  go_wp2_with fail
  refine (objects_ok W w2 _ h hm2.swap hok h.ths.length (Nat.le_refl _)).mono ?_
  rintro e w3 ⟨A7, c7, ys, rfl, hys, hm3⟩
  clear hm2
  have hy1 : ys.map (·.ob) = h.objs := by rw [hys, List.take_of_length_le (by rw [h.abs_len]; omega)]
  have hysz : ∀ x, x ∈ ys → x.ob.items.length ≤ 1048576 ∧ x.ob.keys.length ≤ 1048576 := fun x hx => hok.out.sz (o := x.ob) (by rw [← hy1]; exact List.mem_map_of_mem hx)
  have hywf : ∀ x, x ∈ ys → ∀ k, k ∈ x.ob.keys → (Lit.int .i64 k).wf = true := fun x hx k hk => by
    have hx' : x.ob ∈ h.objs := by rw [← hy1]; exact List.mem_map_of_mem hx
    simp only [Hp.objs, List.mem_map] at hx'
    obtain ⟨t, ht, e⟩ := hx'
    exact (hok.out.each t ht).wf k (by rw [e]; exact hk)
  have hOy : ObsR w3 A7 h.ths.length c7 ys := ObsR.ofB hm3 m1 (fun y hy => .tail _ (.tail _ (List.mem_append_left _ (List.mem_map_of_mem hy))))
  replace hOy := Fact.mk hOy
  have hlo := load_ok W w3 _ hm3 b h.spent hb hok.out.s1 A7 h.ths.length c7 ys hOy (by omega) hysz hywf
  rw [hy1, show max h.spent 0 = h.spent by have := hok.out.s0; omega] at hlo
  replace hlo := Fact.mk hlo
  replace hy1 := Fact.mk hy1
  replace hysz := Fact.mk hysz
  go_wp2_with fail
  refine (heapSpent_ok W w3 _ h hm3 m0).mono ?_
  rintro e w4 ⟨rfl, rfl⟩
  go_wp2_with fail
  refine hlo.out.mono ?_
  rintro e w5 (⟨_, q, hqa, hqok, rfl, hm5⟩ | ⟨hf, _, _⟩)
  rotate_left
  · rw [load_eq] at hf
    have := hlay.out.load
    rw [show h.abs.objs = h.objs from rfl, hf] at this
    cases this
  clear hlo hm3 hOy hys hywf
  have hql : q.ths.length = h.ths.length := by rw [← q.abs_len', hqa]; exact h.abs_len
  have hqs : q.spent = h.spent := congrArg Hs.spent hqa
  have hqo : q.objs = h.objs := congrArg Hs.objs hqa
  replace hqok := Fact.mk hqok
  replace hqo := Fact.mk hqo
  clear hqa
  have hcl := heapLen_ok W w5 _ q hm5 m0
  have hcs := heapSpent_ok W w5 _ q hm5 m0
  rw [hql] at hcl
  rw [hqs] at hcs
  replace hcl := Fact.mk hcl
  replace hcs := Fact.mk hcs
  go_wp2_with fail
  refine hcl.out.mono ?_
  rintro e w6 ⟨rfl, rfl⟩
  go_wp2_with fail
  refine hcs.out.mono ?_
  rintro e w7 ⟨rfl, rfl⟩
  go_wp2_with fail
  refine (heapSpent_ok W w7 _ h hm5 m1).mono ?_
  rintro e w8 ⟨rfl, rfl⟩
  clear hcl hcs
  go_wp2_with fail
  refine (objects_ok W w8 _ q hm5 hqok h.ths.length (by omega)).mono ?_
  rintro e w9 ⟨A9, c9, zs, rfl, hzs, hm9⟩
  clear hm5
  have hz1 : zs.map (·.ob) = ys.map (·.ob) := by rw [hzs, hqo.out, hy1.out, List.take_of_length_le (by rw [h.abs_len]; omega)]
  have hzsz : ∀ x, x ∈ zs → x.ob.items.length ≤ 16777216 ∧ x.ob.keys.length ≤ 16777216 := fun x hx => by
    have := hqok.out.sz (o := x.ob) (by rw [hqo.out, ← hy1.out, ← hz1]; exact List.mem_map_of_mem hx)
    omega
  have hOz : ObsR w9 A9 h.ths.length c9 zs := ObsR.ofB hm9 m1 (fun y hy => .tail _ (.tail _ (List.mem_append_left _ (List.mem_map_of_mem hy))))
  have hOy : ObsR w9 A7 h.ths.length c7 ys := ObsR.ofB hm9 (.tail _ (.tail _ (List.mem_append_right _ m1))) (fun y hy => .tail _ (.tail _ (List.mem_append_right _ (.tail _ (.tail _ (List.mem_append_left _ (List.mem_map_of_mem hy)))))))
  replace hOz := Fact.mk hOz
  replace hOy := Fact.mk hOy
  clear hzs
  go_wp2_with fail
  refine (sameObjects_ok w9 A9 A7 h.ths.length c9 c7 zs ys hOz hOy ⟨hz1⟩ ⟨hzsz⟩ (by omega)).mono ?_
  rintro e w10 ⟨rfl, hg10⟩
  have hm10 := (hm9.gr hg10).perm (perm_b _ _ _ _ _ _ _ _)
  have hOy := Fact.mk (hOy.out.gr hg10)
  clear hm9 hOz hz1 hzsz hg10
  have hkd : Fact (∀ i, i < h.ths.length → (ys.getD i ro0).ob.kind = (kindsOf h.objs).getD i 0) := ⟨fun i hi => by
    rw [kindsOf_at, ← hy1.out]
    have hyl : ys.length = h.ths.length := by rw [← h.abs_len, ← hy1.out, List.length_map]
    simp [show i < ys.length by omega]⟩
  go_wp2
  generalize hML : (HpC h :: Own 1 (.slice K h.ths.length c) (nums .i64 (kindsOf h.objs)) :: HpC q :: Own 6 (.slice A9 h.ths.length c9) (zs.flatMap cRO) :: Own 6 (.slice A7 h.ths.length c7) (ys.flatMap cRO) :: (zs.map RoC ++ (ys.map RoC ++ L))) = ML at hm10
  replace hML := Fact.mk hML
  go_loopw [10] (fun s10 w' => ∃ (i : Nat), s10 = .int .i64 i ∧ i ≤ h.ths.length ∧ Mem W w' ML ∧ Gr w10 w') (fun s10 _ => h.ths.length - (intOf s10).toNat)
  case atStart => exact ⟨0, rfl, by omega, hm10, Gr.refl _⟩
  case round =>
    obtain ⟨i, rfl, hi, hmr, hgr⟩ := hrel
    clear hm10
    by_cases hlt : i < h.ths.length
    · obtain ⟨b7, o7, hA7, hc7, _, _⟩ := (hOy.out.gr hgr).at i hlt
      rw [← hML.out] at hmr
      obtain ⟨bk, ok, hKK, k1, _⟩ := (hmr.rd m1).num i hlt
      rw [hML.out] at hmr
      have z0 := hc7 0 _ rfl
      simp only [Nat.add_zero] at z0
      rw [hkd.out i hlt] at z0
      generalize (kindsOf h.objs).getD i 0 = kd at z0 k1
      rw [hA7, hKK]
      replace hA7 := Fact.mk hA7
      replace hKK := Fact.mk hKK
      replace hmr := Fact.mk hmr
      replace hgr := Fact.mk hgr
      clear hc7
      go_upto_region 14 with (fail)
      go_quiet (fail)
      go_wp2
      try rw [← hA7.out]
      try rw [← hKK.out]
      go_roundw
      case rel => exact ⟨i + 1, by go_num, by omega, hmr.out.drewN _, Gr.drewN hgr.out _⟩
      case measure => exact measP_lt hlt
    · have hif : ((i : Int) < (h.ths.length : Int)) = False := eq_false (by omega)
      have hm11 := hmr
      rw [← hML.out] at hm11
      clear hmr hgr hOy hkd hlt hi hML
      obtain ⟨w11, hw11⟩ : ∃ w11 : World, w11 = wr := ⟨_, rfl⟩
      rw [← hw11] at hm11 ⊢
      clear hw11
      have hla := laid_ok W w11 _ h hm11 hok hlay.out.bud (by omega)
      replace hla := Fact.mk hla
      go_wp2_with fail
      refine hla.out.mono ?_
      rintro e w12 ⟨rfl, h', hg', ho', hsb, hor, hm12⟩
      clear hla hm11
      replace hg' := Fact.mk hg'
      have hcl := heapLen_ok W w12 _ h' hm12 m0
      have hcs := heapSpent_ok W w12 _ h' hm12 m0
      rw [hg'.out] at hcl hcs
      replace hcl := Fact.mk hcl
      replace hcs := Fact.mk hcs
      have hfin : Mem W w12 L := hm12.sub (.cons _ (.cons _ (.cons _ (.cons _ (.cons _ ((List.sublist_append_right _ _).trans (List.sublist_append_right _ _)))))))
      rcases hor with hor | ⟨hor, hsp⟩
      · rw [hor] at hcl
        go_wp2_with fail
        refine hcl.out.mono ?_
        rintro e w13 ⟨rfl, rfl⟩
        have e1 : ((h.ths.length : Int) = ((h.ths.length + 1 : Nat) : Int) - 1) = True := eq_true (by omega)
        go_wp2
        go_ret
        exact ⟨rfl, hfin⟩
      · rw [hor] at hcl
        have e1 : ((h.ths.length : Int) == (h.ths.length : Int) - 1) = false := beq_eq_false_iff_ne.2 (by omega)
        have e2 : decide (h'.spent > 1048574) = true := decide_eq_true hsp
        go_wp2_with fail
        refine hcl.out.mono ?_
        rintro e w13 ⟨rfl, rfl⟩
        go_wp2_with fail
        refine hcs.out.mono ?_
        rintro e w14 ⟨rfl, rfl⟩
        go_wp2
        go_ret
        exact ⟨rfl, hfin⟩
end Go.Proofs.Ytpibchjkmaghnaa
namespace Go.Proofs.Ytpibchjkmaghnaa
open Go.RowKit Go.Mm Go.WideShapes Go.ChangeShapes
set_option maxHeartbeats 1000000
set_option maxRecDepth 100000
section
variable {H : Type} {enc : TypeId × Value → H} {w : World}
theorem open_vals {v : Value} {d : DataW H} {p : List MemPlace} {base : Nat} (h : DataW.Trod enc Try.prog w 0 (fun _ => true) true 30 v d p) (ok : Value.okWide Try.prog w .any base 30 v) :
    ∃ A n c xs, v = .slice A n c ∧ RdC w 2 (.slice A n c) (fV xs) ∧ n + 1 ≤ Rows.uptoBulk d := by
  obtain ⟨A, n, c, xs, rfl, hr, hl, hd⟩ := open_list cV (fun _ _ => True) 2 (by omega) ty_Vs co_V (fun x => ⟨cV_len x, cV_one x⟩) hel_V h ok
  exact ⟨A, n, c, xs, rfl, hr, cells_len hd⟩
end
end Go.Proofs.Ytpibchjkmaghnaa
