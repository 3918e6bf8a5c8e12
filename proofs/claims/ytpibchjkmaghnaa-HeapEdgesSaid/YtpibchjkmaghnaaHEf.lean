/- Lemmas for the row HeapEdgesRow (contracts of functions, laws of memory). Conditions: those that each lemma states. -/
import Derived.OwnWalk
import Derived.Test.YtpibchjkmaghnaaHEc
import Derived.Test.YtpibchjkmaghnaaHEd
import Derived.Test.YtpibchjkmaghnaaHEe
namespace Go.Proofs.Ytpibchjkmaghnaa
open Go.RowKit Go.Mm
set_option maxHeartbeats 4000000
set_option maxRecDepth 100000
set_option linter.unusedSimpArgs false
theorem getD_mem {α : Type} (xs : List α) (k : Nat) (d : α) (hk : k < xs.length) : xs.getD k d ∈ xs := by
  rw [List.getD_eq_getElem?_getD, List.getElem?_eq_getElem hk]
  exact List.getElem_mem _
theorem copyObjects_ok (w0 w : World) (L : List Chunk) (hm : Mem w0 w L) (A : Option Addr) (n c : Nat) (xs : List RO) (hx : Fact (ObsR w A n c xs)) (hn : n ≤ 2097152) (hsz : ∀ x, x ∈ xs → x.ob.items.length ≤ 1048576 ∧ x.ob.keys.length ≤ 1048576) :
    Calls Try.prog 80 #[.slice A n c] w fun e w' => ∃ (A' : Option Addr) (c' : Nat) (ys : List RO), e = .returned (.slice A' n c') ∧ ys.map (·.ob) = xs.map (·.ob) ∧ Mem w0 w' (Own 6 (.slice A' n c') (ys.flatMap cRO) :: (ys.map RoC ++ L)) := by
  obtain ⟨iO, hiO, hz0, hz1, hz2⟩ := info_parts inf_O
  have hl := Fact.mk hx.out.len
  replace hsz := Fact.mk hsz
  go_enter Try.func80, Try.ntmps80
  go_wp2
  go_loopw [3, 4] (fun s3 s4 W => ∃ (k : Nat) (B : Option Addr) (d : Nat) (ys : List RO), s4 = .int .i64 k ∧ k ≤ n ∧ s3 = .slice B k d ∧ Fact (ys.map (·.ob) = (xs.take k).map (·.ob)) ∧ Mem w W (Own 6 (.slice B k d) (ys.flatMap cRO) :: (ys.map RoC ++ []))) (fun _ s4 _ => n - (intOf s4).toNat)
  case atStart => exact ⟨0, none, 0, [], rfl, by omega, rfl, ⟨rfl⟩, (Mem.start w).nil 6 none⟩
  case round =>
    obtain ⟨k, B, d, ys, rfl, hk, rfl, hys, hmr⟩ := hrel
    by_cases hlt : k < n
    · obtain ⟨bb, o, rfl, hc, hkl, hrd⟩ := (hx.out.gr hmr.below).at k hlt
      have hszx := hsz.out _ (getD_mem xs k ro0 hkl)
      have htk : xs.take (k + 1) = xs.take k ++ [xs.getD k ro0] := by rw [List.take_succ_eq_append_getElem hkl]; simp [hkl]
      generalize xs.getD k ro0 = x at hc hrd hszx htk
      have hcp := copyObject_ok w wr _ hmr x ⟨hrd⟩ hszx.1 hszx.2
      replace hcp := Fact.mk hcp
      replace hc := Fact.mk hc
      replace htk := Fact.mk htk
      go_wp2_with (refine wp_rng rfl 71 _ rfl bb (o + k * 6) rfl (cRO x) hc.out row_O sz_O ?_)
      refine hcp.out.mono ?_
      rintro e w2 ⟨y, rfl, hyo, hm3⟩
      clear hmr hcp
      replace hyo := Fact.mk hyo
      go_wp2_with (first | (refine wp_setrow rfl 71 _ _ rfl w2.heap.size rfl 71 _ (cRO y) rfl (hm3.alloc (.cells (obC 0 none 0 0 none 0 0 0 0 false).toArray 71)) sz_O rfl (cRO_one y) ?_; intro w4 hm4) | (refine wp_rng rfl 71 _ rfl w2.heap.size 0 rfl [.int .i64 y.ob.kind, .slice y.A y.ob.items.length y.c, .slice y.KA y.ob.keys.length y.kc, .int .i64 y.ob.fn, .int .i64 y.ob.cap, .bool y.ob.shut] (rng_blk hm4 m0) row_O sz_O ?_) | (at_builtin; refine wp_app rfl _ _ _ rfl 71 iO _ 6 80 ty_Os hiO hz0 hz1 hz2 rfl B k d _ rfl (hm4.alloc _).pull3 _ 1 1 [.int .i64 y.ob.kind, .slice y.A y.ob.items.length y.c, .slice y.KA y.ob.keys.length y.kc, .int .i64 y.ob.fn, .int .i64 y.ob.cap, .bool y.ob.shut] rfl (RdC.lit _ _ _ _ _ rfl (by simp [maxLen]) (cRO_one y)) (by unfold maxLen; omega) (by omega) ?_; intro A5 c5 w5 hm5))
      have hz : Mem w w5 (Own 6 (.slice A5 (k + 1) c5) ((ys ++ [y]).flatMap cRO) :: ((ys ++ [y]).map RoC ++ [])) := by
        have h1 := hm5.sub (List.Sublist.cons_cons _ ((List.sublist_cons_self _ _).trans (List.sublist_cons_self _ _)))
        have e1 : (ys ++ [y]).flatMap cRO = ys.flatMap cRO ++ cRO y := by simp
        have e2 : (ys ++ [y]).map RoC ++ [] = ys.map RoC ++ RoC y :: [] := by simp
        rw [e1, e2]
        exact h1.perm (List.perm_middle.symm.cons _)
      go_roundw
      case rel => exact ⟨k + 1, A5, c5, ys ++ [y], by go_num, by omega, rfl, ⟨by rw [htk.out, List.map_append, List.map_append, hys.out]; simp [hyo.out]⟩, hz⟩
      case measure => exact measP_lt hlt
    · obtain rfl : k = n := by omega
      rw [List.take_of_length_le (by rw [hl.out]; exact Nat.le_refl _)] at hys
      go_wp2
      go_ret
      refine ⟨B, d, rfl, ys, hys.out, ?_⟩
      have := hm.join hmr
      simpa using this
/-- Whether objects make a heap, as the document says it. -/
def loadB (l : List Ob) : Bool := l.all (refB l)
theorem refB_eq (l : List Ob) (o : Ob) : refB l o = (madeB o && (limB o && o.items.all (rightV l))) := by
  unfold refB tabB madeB limB rightKeysB
  by_cases h6 : o.kind = 6
  · simp only [h6, if_true]
    rw [show decide ((o.items.length : Int) ≤ 4096) = decide (o.items.length ≤ 4096) from decide_eq_decide.2 (by omega)]
    have e : (((o.keys.length : Int) == 0) : Bool) = (o.keys.length == 0) := by rw [Bool.eq_iff_iff]; simp
    rw [e]
    cases o.items.all (rightV l) <;> cases decide (o.items.length ≤ 4096) <;> cases (o.keys.length == 0) <;> cases (o.cap == 0 && !o.shut) <;> cases (o.fn == 0) <;> rfl
  by_cases h8 : o.kind = 8
  · simp only [h8, if_true]
    rw [show decide ((o.items.length : Int) ≤ 4096) = decide (o.items.length ≤ 4096) from decide_eq_decide.2 (by omega)]
    have e : (((o.keys.length : Int) == 0) : Bool) = (o.keys.length == 0) := by rw [Bool.eq_iff_iff]; simp
    rw [e, if_neg (by decide), if_neg (by decide), if_neg (by decide), if_neg (by decide)]
    cases o.items.all (rightV l) <;> cases decide (o.items.length ≤ 4096) <;> cases (o.keys.length == 0) <;> cases (o.cap == 0 && !o.shut) <;> cases decide (0 ≤ o.fn) <;> rfl
  by_cases h9 : o.kind = 9
  · simp only [h9]
    have e : (((o.keys.length : Int) == 0) : Bool) = (o.keys.length == 0) := by rw [Bool.eq_iff_iff]; simp
    rw [e]
    simp only [show ¬ (9 : Int) = 6 by decide, show ¬ (9 : Int) = 7 by decide, show ¬ (9 : Int) = 8 by decide, if_false, if_true]
    cases o.items.all (rightV l) <;> cases decide ((o.items.length : Int) ≤ o.cap) <;> cases (o.keys.length == 0) <;> cases decide (1 ≤ o.cap) <;> cases decide (o.cap ≤ 64) <;> cases (o.fn == 0) <;> rfl
  by_cases h7 : o.kind = 7
  · simp only [h7]
    have e : (((o.keys.length : Int) == o.items.length) : Bool) = (o.keys.length == o.items.length) := by rw [Bool.eq_iff_iff]; simp; omega
    rw [e]
    simp only [show ¬ (7 : Int) = 6 by decide, show ¬ (7 : Int) = 9 by decide, show ¬ (7 : Int) = 8 by decide, if_false, if_true]
    cases o.items.all (rightV l) <;> cases decide (o.keys.length ≤ 256) <;> cases (o.keys.length == o.items.length) <;> cases o.keys.all (fun k => decide (0 ≤ k)) <;> cases decide o.keys.Nodup <;> cases (o.cap == 0 && !o.shut) <;> cases (o.fn == 0) <;> rfl
  · simp [h6, h7, h8, h9]
theorem madeB_kind {o : Ob} (h : madeB o = true) : o.kind = 6 ∨ o.kind = 7 ∨ o.kind = 8 ∨ o.kind = 9 := by
  unfold madeB at h
  by_cases h6 : o.kind = 6
  · exact .inl h6
  by_cases h8 : o.kind = 8
  · exact .inr (.inr (.inl h8))
  by_cases h9 : o.kind = 9
  · exact .inr (.inr (.inr h9))
  by_cases h7 : o.kind = 7
  · exact .inr (.inl h7)
  rw [if_neg h6, if_neg h8, if_neg h9, if_neg h7] at h
  cases h
theorem load_eq (l : List Ob) : loadP l = loadB l := by
  unfold loadP loadB
  cases hm : l.all madeB with
  | false =>
    rw [Bool.false_and]
    symm
    rw [List.all_eq_false] at hm ⊢
    obtain ⟨o, ho, hn⟩ := hm
    refine ⟨o, ho, ?_⟩
    rw [refB_eq]
    simp only [Bool.not_eq_true] at hn
    rw [hn, Bool.false_and]
    decide
  | true =>
    rw [Bool.true_and]
    have hk : ∀ o, o ∈ l → o.kind = 6 ∨ o.kind = 7 ∨ o.kind = 8 ∨ o.kind = 9 := fun o ho => madeB_kind (List.all_eq_true.1 hm o ho)
    have hp : rightP l = rightV l := funext fun v => rightP_eq hk v
    rw [hp, Bool.eq_iff_iff, List.all_eq_true, List.all_eq_true]
    constructor
    · intro h o ho
      rw [refB_eq, List.all_eq_true.1 hm o ho, Bool.true_and]
      exact h o ho
    · intro h o ho
      have := h o ho
      rw [refB_eq, Bool.and_eq_true] at this
      exact this.2
def RLoadQ (w0 : World) (L : List Chunk) (b s : Int) (l : List Ob) (e : Ending) (w : World) : Prop :=
  (loadB l = true ∧ ∃ r : Rf, r.abs = ⟨b, s, l⟩ ∧ r.Ok ∧ e = .returned (.tuple #[.pointer (some ⟨r.g, 0, none⟩), .bool true]) ∧ Mem w0 w (RfC r :: L)) ∨ (loadB l = false ∧ e = .returned (.tuple #[.pointer none, .bool false]) ∧ Mem w0 w L)
theorem refLoad_ok (w0 w : World) (L : List Chunk) (hm : Mem w0 w L) (b s : Int) (hb : b ≤ 9223372036854775807) (hs : s ≤ 9223372036854775807) (A : Option Addr) (n c : Nat) (xs : List RO) (hx : Fact (ObsR w A n c xs)) (hn : n ≤ 2097152)
    (hsz : ∀ x, x ∈ xs → x.ob.items.length ≤ 1048576 ∧ x.ob.keys.length ≤ 1048576) (hwf : ∀ x, x ∈ xs → ∀ v, v ∈ x.ob.items → -9223372036854775808 ≤ v.2 ∧ v.2 ≤ 9223372036854775807) :
    Calls Try.prog 57 #[.int .i64 b, .int .i64 s, .slice A n c] w fun e w' => RLoadQ w0 L (max b 0) (max s 0) (xs.map (·.ob)) e w' := by
  have hl := Fact.mk hx.out.len
  replace hsz := Fact.mk hsz
  replace hwf := Fact.mk hwf
  obtain ⟨obs, hobs⟩ : ∃ obs, xs.map (·.ob) = obs := ⟨_, rfl⟩
  have hol : Fact (obs.length = n) := ⟨by rw [← hobs, List.length_map]; exact hl.out⟩
  have hoa : Fact (∀ k, k < n → obs.getD k ob0 = (xs.getD k ro0).ob) := ⟨fun k hk => by rw [← hobs]; simp [show k < xs.length by rw [hl.out]; exact hk]⟩
  have hright := fun (W : World) (hg : Gr w W) (k : Nat) (hk : k < n) => refRightO_ok W A n c xs ⟨hx.out.gr hg⟩ hn (xs.getD k ro0) ⟨hx.out.gr hg |>.at k hk |>.choose_spec.choose_spec.2.2.2⟩ (hsz.out _ (getD_mem xs k ro0 (by rw [hl.out]; exact hk))).1 (hsz.out _ (getD_mem xs k ro0 (by rw [hl.out]; exact hk))).2 (hwf.out _ (getD_mem xs k ro0 (by rw [hl.out]; exact hk)))
  rw [hobs] at hright ⊢
  replace hobs := Fact.mk hobs
  replace hright := Fact.mk hright
  go_enter Try.func57, Try.ntmps57
  go_wp2
  go_loopw [8] (fun s8 W => ∃ k : Nat, s8 = .int .i64 k ∧ k ≤ n ∧ Fact ((obs.take k).all (refB obs) = true) ∧ Gr w W) (fun s8 _ => n - (intOf s8).toNat)
  case atStart => exact ⟨0, rfl, by omega, ⟨rfl⟩, Gr.refl w⟩
  case round =>
    obtain ⟨k, rfl, hk, hall, hgr⟩ := hrel
    by_cases hlt : k < n
    · have hr := hright.out wr hgr k hlt
      obtain ⟨bb, o, rfl, hc, hkl, hrd⟩ := (hx.out.gr hgr).at k hlt
      have hsn := take_all (refB obs) obs k ob0 (by rw [hol.out]; exact hlt)
      have hno := take_all_no (p := refB obs) (xs := obs) (k := k) (d := ob0) (by rw [hol.out]; exact hlt)
      rw [hoa.out k hlt] at hsn hno
      generalize xs.getD k ro0 = x at hr hc hrd hsn hno
      replace hc := Fact.mk hc
      cases hv : refB obs x.ob with
      | false =>
        have hfin : Fact (loadB obs = false) := ⟨hno hv⟩
        rw [hv] at hr
        replace hr := Fact.mk hr
        clear hno hsn hv
        go_wp2_with (refine wp_rng rfl 71 _ rfl bb (o + k * 6) rfl (cRO x) hc.out row_O sz_O ?_)
        refine hr.out.mono ?_
        rintro e w2 ⟨rfl, hg2⟩
        go_wp2
        go_ret2
        exact .inr ⟨hfin.out, rfl, hm.gr (Gr.trans hgr hg2)⟩
      | true =>
        rw [hv, hall.out] at hsn
        rw [hv] at hr
        replace hr := Fact.mk hr
        replace hsn := Fact.mk hsn
        clear hno hv
        go_wp2_with (refine wp_rng rfl 71 _ rfl bb (o + k * 6) rfl (cRO x) hc.out row_O sz_O ?_)
        refine hr.out.mono ?_
        rintro e w2 ⟨rfl, hg2⟩
        go_wp2
        go_roundw
        case rel => exact ⟨k + 1, by go_num, by omega, ⟨hsn.out⟩, Gr.trans hgr hg2⟩
        case measure => exact measP_lt hlt
    · obtain rfl : k = n := by omega
      rw [List.take_of_length_le (by rw [hol.out]; exact Nat.le_refl _)] at hall
      have hfin : Fact (loadB obs = true) := ⟨hall.out⟩
      go_wp2_with fail
      refine (refNew_ok wr wr [] (Mem.start wr) b s).mono ?_
      rintro e w3 ⟨g, rfl, hm3⟩
      have hcp := copyObjects_ok wr w3 _ hm3 A k c xs ⟨hx.out.gr (Gr.trans hgr hm3.below)⟩ hn hsz.out
      replace hcp := Fact.mk hcp
      go_wp2_with fail
      refine hcp.out.mono ?_
      rintro e w4 ⟨A4, c4, ys, rfl, hys, hm4⟩
      clear hcp hm3
      rw [hobs.out] at hys
      have hyl : ys.length = k := by rw [← hol.out, ← hys, List.length_map]
      replace hys := Fact.mk hys
      replace hyl := Fact.mk hyl
      have hm5 : Mem wr w4 (Blk g (.cells [.int .i64 (max b 0), .int .i64 (max s 0), .slice none 0 0].toArray 57) :: Own 6 (.slice none 0 0) [] :: Own 6 (.slice A4 k c4) (ys.flatMap cRO) :: (ys.map RoC ++ [])) := by
        have h1 : Mem wr w4 (RfC ⟨g, max b 0, max s 0, none, 0, []⟩ :: (Own 6 (.slice A4 k c4) (ys.flatMap cRO) :: ys.map RoC ++ [])) := Mem.mid (A := Own 6 (.slice A4 k c4) (ys.flatMap cRO) :: ys.map RoC) hm4
        exact Mem.opn h1
      clear hm4
      go_wp2_with (refine wp_setat rfl 42 _ _ rfl g 2 rfl 57 _ [.slice A4 k c4] [.int .i64 (max b 0), .int .i64 (max s 0), .slice A4 k c4] (.slice A4 k c4) rfl rfl hm5 sz_Os (by simp) (one_one rfl) rfl ?_; intro w6 hm6)
      go_ret2
      have hz : Mem wr w6 (RfC ⟨g, max b 0, max s 0, A4, c4, ys⟩ :: []) := by
        have h1 := hm6.drop2
        refine Mem.sht (Rf.chunks ⟨g, max b 0, max s 0, A4, c4, ys⟩) ?_
        unfold Rf.chunks Rf.cells
        simp only [hyl.out]
        exact h1
      refine .inl ⟨hfin.out, ⟨g, max b 0, max s 0, A4, c4, ys⟩, by unfold Rf.abs; rw [hys.out], ⟨fun x hxm => ?_, by simp only [hyl.out]; omega, by show (0 : Int) ≤ max b 0; omega, by show max b 0 ≤ _; omega, by show (0 : Int) ≤ max s 0; omega, by show max s 0 ≤ _; omega⟩, rfl, (hm.gr hgr).join hz⟩
      have h1 : x.ob ∈ obs := by rw [← hys.out]; exact List.mem_map_of_mem hxm
      rw [← hobs.out] at h1
      obtain ⟨z, hz1, hz2⟩ := List.mem_map.1 h1
      rw [← hz2]
      exact hsz.out z hz1
end Go.Proofs.Ytpibchjkmaghnaa
namespace Go.Proofs.Ytpibchjkmaghnaa
open Go.RowKit Go.Mm
set_option maxHeartbeats 8000000
set_option maxRecDepth 100000
set_option linter.unusedSimpArgs false
theorem sz_ST : (Try.prog.info? 44).map (·.size) = some 3 := by kernel_rfl
theorem row_ST : (Try.prog.underlying 44).map (·.isRow) = some true := by kernel_rfl
theorem inf_Vs : (Try.prog.info? 30).map (fun i => (i.zero, i.size, i.bytes)) = some (some (.slice none 0 0), 1, 24) := by kernel_rfl
theorem ty_VVs : Try.prog.underlying 113 = some (.slice 30) := by kernel_rfl
def stC (b s : Int) (A : Option Addr) (n c : Nat) : List Value := [.int .i64 b, .int .i64 s, .slice A n c]
/-- A list lent: marks behind it. -/
def roomV (y : RO) : Value := .slice y.A (y.ob.items.length + 64) y.c
def LentC (y : RO) : Chunk := Chunk.all [Own 2 (roomV y) (fV (y.ob.items ++ marksV 64)), Own 1 (.slice y.KA y.ob.keys.length y.kc) (nums .i64 y.ob.keys)]
theorem LentC.room {y : RO} {w : World} (h : (LentC y).ok w) : RdC w 2 (.slice y.A (y.ob.items.length + 64) y.c) (fV (y.ob.items ++ marksV 64)) := (h.1 _ (.head _) : OwnAt _ _ _ w).rd
theorem LentC.reads {y : RO} {w : World} (h : (LentC y).ok w) : y.reads w := ⟨rd_pre cV_len (LentC.room h) rfl, (h.1 _ (.tail _ (.head _)) : OwnAt _ _ _ w).rd⟩
theorem roomV_one (y : RO) : One [roomV y] := one_one rfl
theorem mem_in2 {w0 w : World} {h a b d : Chunk} {M X : List Chunk} (hm : Mem w0 w (h :: a :: b :: (M ++ d :: X))) : Mem w0 w (a :: b :: (M ++ d :: (h :: X))) := by
  have hp : (h :: (M ++ d :: X)).Perm (M ++ d :: (h :: X)) := by
    have := (List.perm_middle (a := h) (l₁ := M ++ [d]) (l₂ := X)).symm
    simpa using this
  exact hm.back2.swap.swap.pull2.back2.perm ((hp.cons _).cons _)
/-- What the document's and the program's Load say, of one outcome. -/
def TwoQ (w : World) (L : List Chunk) (b s : Int) (l : List Ob) (e : Ending) (w' : World) : Prop :=
  (loadB l = true ∧ ∃ (h : Hp) (r : Rf), h.abs = ⟨b, s, l⟩ ∧ r.abs = h.abs ∧ h.Ok ∧ r.Ok ∧ e = .returned (.tuple #[.pointer (some ⟨h.g, 0, none⟩), .pointer (some ⟨r.g, 0, none⟩), .bool true]) ∧ Mem w w' (HpC h :: RfC r :: L)) ∨
  (loadB l = false ∧ e = .returned (.tuple #[.pointer none, .pointer none, .bool true]) ∧ Mem w w' L)
theorem splice2_len {C : List Value} {q n : Nat} (a b : Value) (hC : C.length = n * 2) (hq : q < n) : (C.take (q * 2) ++ [a, b] ++ C.drop (q * 2 + 2)).length = n * 2 := by
  simp only [List.length_append, List.length_take, List.length_drop, List.length_cons, List.length_nil, hC]; omega
theorem splice2_le {C : List Value} {q n : Nat} {a b : Value} (hC : C.length = n * 2) (hq : q < n) : q * 2 + [a, b].length ≤ C.length := by
  rw [hC]; simp only [List.length_cons, List.length_nil]; omega
theorem splice1_len {C : List Value} {q n : Nat} (a : Value) (hC : C.length = n) (hq : q < n) : (C.take q ++ [a] ++ C.drop (q + 1)).length = n := by
  simp only [List.length_append, List.length_take, List.length_drop, List.length_cons, List.length_nil, hC]; omega
theorem splice1_le {C : List Value} {q n : Nat} {a : Value} (hC : C.length = n) (hq : q < n) : q + [a].length ≤ C.length := by
  rw [hC]; simp only [List.length_cons, List.length_nil]; omega
theorem both_ok (w0 w : World) (L : List Chunk) (hm : Mem w0 w L) (b s : Int) (hb : b ≤ 9223372036854775807) (hs : s ≤ 9223372036854775807) (A : Option Addr) (n c : Nat) (xs : List RO) (hx : Fact (ObsR w A n c xs)) (hn : n ≤ 1048576)
    (hsz : Fact (∀ x, x ∈ xs → x.ob.items.length ≤ 1048576 ∧ x.ob.keys.length ≤ 1048576)) (hwf : Fact (∀ x, x ∈ xs → (∀ k, k ∈ x.ob.keys → (Lit.int .i64 k).wf = true) ∧ ∀ v, v ∈ x.ob.items → -9223372036854775808 ≤ v.2 ∧ v.2 ≤ 9223372036854775807)) :
    Calls Try.prog 21 #[.agg (stC b s A n c).toArray] w fun e w' => TwoQ w0 L (max b 0) (max s 0) (xs.map (·.ob)) e w' := by
  obtain ⟨iO, hiO, oz0, oz1, oz2⟩ := info_parts inf_O
  obtain ⟨iS, hiS, sz0, sz1, sz2⟩ := info_parts inf_Vs
  have hl := Fact.mk hx.out.len
  have hrl := fun (W : World) (M : List Chunk) (hg : Mem w W M) => refLoad_ok w W M hg b s hb hs A n c xs ⟨hx.out.gr hg.below⟩ (by omega) hsz.out (fun x hxm => (hwf.out x hxm).2)
  have hpl := fun (W : World) (M : List Chunk) (hg : Mem w W M) (Ai : Option Addr) (ci : Nat) (ys : List RO) (hys : ys.map (·.ob) = xs.map (·.ob)) (hyr : ObsR W Ai n ci ys) => load_ok w W M hg b s hb hs Ai n ci ys ⟨hyr⟩ (by omega)
    (fun y hy => by
      have : y.ob ∈ xs.map (·.ob) := by rw [← hys]; exact List.mem_map_of_mem hy
      obtain ⟨x, hx1, hx2⟩ := List.mem_map.1 this
      rw [← hx2]; exact hsz.out x hx1)
    (fun y hy => by
      have : y.ob ∈ xs.map (·.ob) := by rw [← hys]; exact List.mem_map_of_mem hy
      obtain ⟨x, hx1, hx2⟩ := List.mem_map.1 this
      rw [← hx2]; exact (hwf.out x hx1).1)
  have hfin : Fact (∀ e w', TwoQ w [] (max b 0) (max s 0) (xs.map (·.ob)) e w' → TwoQ w0 L (max b 0) (max s 0) (xs.map (·.ob)) e w') := ⟨fun e w' h => by
    rcases h with ⟨h1, h, r, h2, h3, h4, h5, h6, h7⟩ | ⟨h1, h2, h3⟩
    · exact .inl ⟨h1, h, r, h2, h3, h4, h5, h6, hm.join h7⟩
    · exact .inr ⟨h1, h2, hm.gr h3.below⟩⟩
  refine Calls.mono (R := fun e w' => TwoQ w [] (max b 0) (max s 0) (xs.map (·.ob)) e w') ?_ hfin.out
  clear hfin hm
  replace hrl := Fact.mk hrl
  replace hpl := Fact.mk hpl
  have hx1 := (Mem.start w).alloc (.cells (stC b s A n c).toArray 44)
  unfold stC at hx1 ⊢
  go_enter Try.func21, Try.ntmps21
  go_upto_region 1 with (fail)
  generalize hgb : w.heap.size = gb at hx1 ⊢
  generalize hw1 : w.alloc (.cells [.int .i64 b, .int .i64 s, .slice A n c].toArray 44) = w1 at hx1
  try refine wp_world hw1 ?_
  clear hw1 hgb
  have s0 := hx1.cell m0 0 rfl
  have s1 := hx1.cell m0 1 rfl
  have s2 := hx1.cell m0 2 rfl
  go_wp2_with fail
  refine (hrl.out w1 _ hx1).mono ?_
  intro e w2 hq
  obtain ⟨may, rv, X, rfl, hmay, hm2⟩ : ∃ (may : Bool) (rv : Value) (X : List Chunk), e = .returned (.tuple #[rv, .bool may]) ∧ Fact (may = loadB (xs.map (·.ob)) ∧ ((may = true ∧ ∃ r : Rf, r.abs = ⟨max b 0, max s 0, xs.map (·.ob)⟩ ∧ r.Ok ∧ rv = .pointer (some ⟨r.g, 0, none⟩) ∧ X = [RfC r]) ∨ (may = false ∧ rv = .pointer none ∧ X = []))) ∧ Mem w w2 (Blk gb (.cells [.int .i64 b, .int .i64 s, .slice A n c].toArray 44) :: X) := by
    rcases hq with ⟨h1, r, h2, h3, rfl, h4⟩ | ⟨h1, rfl, h4⟩
    · exact ⟨true, _, [RfC r], rfl, ⟨h1.symm, .inl ⟨rfl, r, h2, h3, rfl, rfl⟩⟩, h4.swap⟩
    · exact ⟨false, _, [], rfl, ⟨h1.symm, .inr ⟨rfl, rfl, rfl⟩⟩, h4⟩
  clear hq hrl hx1 s0 s1 s2
  go_wp2
  go_loopw [7, 8, 9] (fun s7 s8 s9 W => ∃ (k : Nat) (Ai : Option Addr) (ci : Nat) (Ar : Option Addr) (cr : Nat) (ys : List RO), s9 = .int .i64 k ∧ k ≤ n ∧ s7 = .slice Ai k ci ∧ s8 = .slice Ar k cr ∧ Fact (ys.map (·.ob) = (xs.take k).map (·.ob)) ∧ Mem w W (Own 6 (.slice Ai k ci) (ys.flatMap cRO) :: Own 1 (.slice Ar k cr) (ys.map roomV) :: (ys.map LentC ++ (Blk gb (.cells [.int .i64 b, .int .i64 s, .slice A n c].toArray 44) :: X)))) (fun _ _ s9 _ => n - (intOf s9).toNat)
  case atStart => exact ⟨0, none, 0, none, 0, [], rfl, by omega, rfl, rfl, ⟨rfl⟩, Mem.nil (Mem.nil hm2 1 none) 6 none⟩
  case round =>
    obtain ⟨k, Ai, ci, Ar, cr, ys, rfl, hk, rfl, rfl, hys, hmr⟩ := hrel
    clear hm2
    have s2 := hmr.cell (.tail _ (.tail _ (List.mem_append_right _ (.head _)))) 2 rfl
    by_cases hlt : k < n
    · obtain ⟨bb, o, hA, hc, hkl, hrd⟩ := (hx.out.gr hmr.below).at k hlt
      have hszx := hsz.out _ (getD_mem xs k ro0 hkl)
      have htk : xs.take (k + 1) = xs.take k ++ [xs.getD k ro0] := by rw [List.take_succ_eq_append_getElem hkl]; simp [hkl]
      have hcells : Fact (∀ W, Gr w W → W.cell? ⟨bb, o + k * 6 + 2, none⟩ = some (.slice (xs.getD k ro0).KA (xs.getD k ro0).ob.keys.length (xs.getD k ro0).kc) ∧ (xs.getD k ro0).reads W) := ⟨fun W hW => by
        obtain ⟨bb', o', hA', hc', _, hrd'⟩ := (hx.out.gr hW).at k hlt
        rw [hA] at hA'
        cases hA'
        exact ⟨hc' 2 _ rfl, hrd'⟩⟩
      generalize xs.getD k ro0 = x at hc hrd hszx htk hcells
      rw [hA] at s2
      replace hc := Fact.mk hc
      replace htk := Fact.mk htk
      replace hA := Fact.mk hA
      go_upto_region 8 with (first | (refine wp_rng rfl 71 _ rfl bb (o + k * 6) rfl (cRO x) hc.out row_O sz_O ?_) | (refine wp_setrow rfl 71 _ _ rfl wr.heap.size rfl 71 _ (cRO x) rfl (hmr.alloc (.cells (obC 0 none 0 0 none 0 0 0 0 false).toArray 71)) sz_O rfl (cRO_one x) ?_; intro w5 hm5))
      generalize wr.heap.size = g10 at hm5 ⊢
      clear hmr s2
      have z1 := hm5.cell m0 1 rfl
      go_wp2_with fail
      refine (lentValues_ok w5 x.A x.ob.items.length x.c x.ob.items ⟨(hcells.out w5 hm5.below).2.1⟩ (by omega)).mono ?_
      rintro e w6 ⟨B, d, rfl, hn6⟩
      have hm6 := hm5.new hn6
      clear hm5 hn6 z1 hrd
      have hcap := OwnAt.cap (hm6.ok _ m0)
      have hcap1 : x.ob.items.length ≤ d := by omega
      obtain ⟨bg, bo, hB⟩ := OwnAt.addr (hm6.ok _ m0) (by omega)
      subst hB
      have z1 := hm6.cell m1 1 rfl
      go_upto_region 11 with (first | (at_builtin; refine wp_app rfl _ _ _ rfl 30 iS _ 1 24 ty_VVs hiS sz0 sz1 sz2 rfl Ar k cr _ rfl (hm6.alloc _).pull4 _ 1 1 [.slice (some ⟨bg, bo, none⟩) (x.ob.items.length + 64) d] rfl (RdC.lit _ _ _ _ _ rfl (by simp [maxLen]) (one_one rfl)) (by unfold maxLen; omega) (by omega) ?_; intro A7 c7 w7 HM7; have hm7 := HM7.drop2.pull2; have z7 := hm7.cell m0 1 rfl) | (refine wp_setat rfl 30 _ _ rfl g10 1 rfl 71 _ [.slice (some ⟨bg, bo, none⟩) x.ob.items.length d] (obC x.ob.kind (some ⟨bg, bo, none⟩) x.ob.items.length d x.KA x.ob.keys.length x.kc x.ob.fn x.ob.cap x.ob.shut) (.slice (some ⟨bg, bo, none⟩) x.ob.items.length d) rfl rfl hm7 sz_Vs (by simp [cRO, obC]) (one_one rfl) rfl ?_; intro w8 hm8))
      clear HM7 hm6 hm7 z1 z7
      have s2 := hm8.cell (.tail _ (.tail _ (.tail _ (.tail _ (List.mem_append_right _ (.head _)))))) 2 rfl
      rw [hA.out] at s2
      have f2 := (hcells.out w8 hm8.below).1
      go_wp2_with fail
      refine (copyLongs_ok w8 x.KA x.ob.keys.length x.kc x.ob.keys ⟨(hcells.out w8 hm8.below).2.2⟩ (by omega)).mono ?_
      rintro e w9 ⟨K9, c9, rfl, hn9⟩
      have hm9 := hm8.new hn9
      clear hm8 hn9 s2 f2
      obtain ⟨y, hy⟩ : ∃ y : RO, y = ⟨some ⟨bg, bo, none⟩, d, K9, c9, x.ob⟩ := ⟨_, rfl⟩
      have hyc : obC x.ob.kind (some ⟨bg, bo, none⟩) x.ob.items.length d K9 x.ob.keys.length c9 x.ob.fn x.ob.cap x.ob.shut = cRO y := by rw [hy]; rfl
      go_upto_region 12 with (refine wp_setat rfl 50 _ _ rfl g10 2 rfl 71 _ [.slice K9 x.ob.keys.length c9] (obC x.ob.kind (some ⟨bg, bo, none⟩) x.ob.items.length d K9 x.ob.keys.length c9 x.ob.fn x.ob.cap x.ob.shut) (.slice K9 x.ob.keys.length c9) rfl rfl hm9.swap sz_Is (by simp [obC]) (one_one rfl) rfl ?_; intro w10 hm10)
      clear hm9
      go_wp2_with (first | (refine wp_rng rfl 71 _ rfl g10 0 rfl [.int .i64 x.ob.kind, .slice (some ⟨bg, bo, none⟩) x.ob.items.length d, .slice K9 x.ob.keys.length c9, .int .i64 x.ob.fn, .int .i64 x.ob.cap, .bool x.ob.shut] (rng_blk hm10 m0) row_O sz_O ?_) | (at_builtin; refine wp_app rfl _ _ _ rfl 71 iO _ 6 80 ty_Os hiO oz0 oz1 oz2 rfl Ai k ci _ rfl (hm10.alloc _).pull5 _ 1 1 [.int .i64 x.ob.kind, .slice (some ⟨bg, bo, none⟩) x.ob.items.length d, .slice K9 x.ob.keys.length c9, .int .i64 x.ob.fn, .int .i64 x.ob.cap, .bool x.ob.shut] rfl (RdC.lit _ _ _ _ _ rfl (by simp [maxLen]) (obC_one _ _ _ _ _ _ _ _ _ _)) (by unfold maxLen; omega) (by omega) ?_; intro A11 c11 w11 HM11))
      have hz : Mem w w11 (Own 6 (.slice A11 (k + 1) c11) ((ys ++ [y]).flatMap cRO) :: Own 1 (.slice A7 (k + 1) c7) ((ys ++ [y]).map roomV) :: ((ys ++ [y]).map LentC ++ (Blk gb (.cells [.int .i64 b, .int .i64 s, .slice A n c].toArray 44) :: X))) := by
        have h1 := HM11.drop2.drop2
        have e1 : (ys ++ [y]).flatMap cRO = ys.flatMap cRO ++ cRO y := by simp
        have e2 : (ys ++ [y]).map roomV = ys.map roomV ++ [.slice (some ⟨bg, bo, none⟩) (x.ob.items.length + 64) d] := by rw [List.map_append, hy]; rfl
        have e3 : (ys ++ [y]).map LentC ++ (Blk gb (.cells [.int .i64 b, .int .i64 s, .slice A n c].toArray 44) :: X) = ys.map LentC ++ LentC y :: (Blk gb (.cells [.int .i64 b, .int .i64 s, .slice A n c].toArray 44) :: X) := by simp
        rw [e1, e2, e3, ← hyc]
        have h4 : Mem w w11 (LentC y :: Own 6 (.slice A11 (k + 1) c11) (ys.flatMap cRO ++ obC x.ob.kind (some ⟨bg, bo, none⟩) x.ob.items.length d K9 x.ob.keys.length c9 x.ob.fn x.ob.cap x.ob.shut) :: Own 1 (.slice A7 (k + 1) c7) (ys.map roomV ++ [.slice (some ⟨bg, bo, none⟩) (x.ob.items.length + 64) d]) :: (ys.map LentC ++ (Blk gb (.cells [.int .i64 b, .int .i64 s, .slice A n c].toArray 44) :: X))) := by
          have h5 := h1.pull3.perm ((List.Perm.swap _ _ _).cons _)
          rw [hy]
          exact Mem.sht [Own 2 (roomV ⟨some ⟨bg, bo, none⟩, d, K9, c9, x.ob⟩) (fV (x.ob.items ++ marksV 64)), Own 1 (.slice K9 x.ob.keys.length c9) (nums .i64 x.ob.keys)] h5
        exact h4.back2.perm ((List.perm_middle.symm.cons _).cons _)
      go_roundw
      case rel => exact ⟨k + 1, A11, c11, A7, c7, ys ++ [y], by go_num, by omega, rfl, rfl, ⟨by rw [htk.out, List.map_append, List.map_append, hys.out, hy]; rfl⟩, hz⟩
      case measure => exact measP_lt hlt
    · obtain rfl : k = n := by omega
      rw [List.take_of_length_le (by rw [hl.out]; exact Nat.le_refl _)] at hys
      have hyl : ys.length = k := by rw [← hl.out]; have := congrArg List.length hys.out; simpa using this
      have hld := hpl.out wr _ hmr Ai ci ys hys.out ⟨hmr.rd m0, fun y hy => LentC.reads (hmr.ok _ (.tail _ (.tail _ (List.mem_append_left _ (List.mem_map_of_mem hy)))))⟩
      rw [hys.out] at hld
      replace hld := Fact.mk hld
      have s0 := hmr.cell (.tail _ (.tail _ (List.mem_append_right _ (.head _)))) 0 rfl
      have s1 := hmr.cell (.tail _ (.tail _ (List.mem_append_right _ (.head _)))) 1 rfl
      go_wp2_with fail
      refine hld.out.mono ?_
      intro e w12 hq
      clear hld hpl s0 s1 s2
      have hmay2 := hmay.out.1
      obtain ⟨hv, Y, rfl, hhv, hm13⟩ : ∃ (hv : Value) (Y : List Chunk), e = .returned (.tuple #[hv, .bool may]) ∧ Fact ((may = true ∧ ∃ h : Hp, h.abs = ⟨max b 0, max s 0, xs.map (·.ob)⟩ ∧ h.Ok ∧ hv = .pointer (some ⟨h.g, 0, none⟩) ∧ Y = [HpC h]) ∨ (may = false ∧ hv = .pointer none ∧ Y = [])) ∧ Mem w w12 (Own 6 (.slice Ai k ci) (ys.flatMap cRO) :: Own 1 (.slice Ar k cr) (ys.map roomV) :: (ys.map LentC ++ (Blk gb (.cells [.int .i64 b, .int .i64 s, .slice A k c].toArray 44) :: (Y ++ X)))) := by
        rcases hq with ⟨h1, h, h2, h3, rfl, h4⟩ | ⟨h1, rfl, h4⟩
        · rw [load_eq] at h1
          rw [hmay2, h1]
          refine ⟨_, [HpC h], rfl, ⟨.inl ⟨rfl, h, h2, h3, rfl, rfl⟩⟩, ?_⟩
          exact mem_in2 h4
        · rw [load_eq] at h1
          rw [hmay2, h1]
          exact ⟨_, [], rfl, ⟨.inr ⟨rfl, rfl, rfl⟩⟩, h4⟩
      clear hmr hq
      have hneq : ∀ W, (binOp .neq 24 hv (.pointer none)).run Try.prog W = .ok (.bool may) W := by
        rcases hhv.out with ⟨h1, h, _, _, h2, _⟩ | ⟨h1, h2, _⟩ <;> rw [h1, h2] <;> intro W <;> first | rfl | kernel_rfl
      have hneg : ∀ (x y : Operand) W, (eqGuard .neq 24 x y hv (.pointer none)).run Try.prog W = .ok () W := by
        rcases hhv.out with ⟨h1, h, _, _, h2, _⟩ | ⟨h1, h2, _⟩ <;> rw [h2] <;> intro x y W <;> first | rfl | kernel_rfl
      have s2 := hm13.cell (.tail _ (.tail _ (List.mem_append_right _ (.head _)))) 2 rfl
      replace hyl := Fact.mk hyl
      replace hmay2 := Fact.mk hmay2
      have hobB : Fact (∀ y, y ∈ ys → y.ob.items.length ≤ 1048576 ∧ y.ob.keys.length ≤ 1048576) := ⟨fun y hy => by
        have : y.ob ∈ xs.map (·.ob) := by rw [← hys.out]; exact List.mem_map_of_mem hy
        obtain ⟨x, hx1, hx2⟩ := List.mem_map.1 this
        rw [← hx2]; exact hsz.out x hx1⟩
      go_wp2_with fail
      refine (sameObjects_ok w12 Ai A k ci c ys xs ⟨⟨hm13.rd m0, fun y hy => LentC.reads (hm13.ok _ (.tail _ (.tail _ (List.mem_append_left _ (List.mem_map_of_mem hy)))))⟩⟩ ⟨hx.out.gr hm13.below⟩ ⟨hys.out⟩ ⟨fun y hy => by have := hobB.out y hy; omega⟩ (by omega)).mono ?_
      rintro e w14 ⟨rfl, hg14⟩
      have hm14 := hm13.gr hg14
      clear hm13 hg14 s2
      go_wp2
      clear hneq hneg
      go_loopw [14] (fun s14 W => ∃ (i : Nat) (zs : List RO), s14 = .int .i64 i ∧ i ≤ k ∧ Fact (zs.length = k ∧ ∀ j, i ≤ j → zs.getD j ro0 = ys.getD j ro0) ∧ Mem w W (Own 6 (.slice Ai k ci) (zs.flatMap cRO) :: Own 1 (.slice Ar k cr) (ys.map roomV) :: ((ys.drop i).map LentC ++ (Blk gb (.cells [.int .i64 b, .int .i64 s, .slice A k c].toArray 44) :: (Y ++ X))))) (fun s14 _ => k - (intOf s14).toNat)
      case atStart => exact ⟨0, ys, rfl, by omega, ⟨hyl.out, fun _ _ => rfl⟩, hm14⟩
      case round =>
        obtain ⟨i, zs, rfl, hi, hzs, hmq⟩ := hrel
        clear hm14
        by_cases hit : i < k
        · have hyi : i < ys.length := by rw [hyl.out]; exact hit
          have hdr : ys.drop i = ys.getD i ro0 :: ys.drop (i + 1) := by rw [List.drop_eq_getElem_cons hyi]; simp [hyi]
          rw [hdr, List.map_cons, List.cons_append] at hmq
          have hzi := hzs.out.2 i (Nat.le_refl _)
          have hyx : (xs.getD i ro0).ob = (ys.getD i ro0).ob := by
            have h := congrArg (fun l => l.getD i ob0) hys.out
            simpa [hyi, show i < xs.length by rw [hl.out]; exact hit] using h.symm
          obtain ⟨bx, ox, hA, hcx, hxl, hrx⟩ := (hx.out.gr hmq.below).at i hit
          have hbd := hobB.out _ (getD_mem ys i ro0 hyi)
          obtain ⟨br, orr, c0, hAr, h1, h2, _⟩ := (hmq.rd m1).at1 i hit
          have h3 : c0 = roomV (ys.getD i ro0) := by
            rw [List.getElem?_map, List.getElem?_eq_getElem hyi] at h2
            simpa [hyi] using h2.symm
          have hz30 : ∀ y', (∀ j, i + 1 ≤ j → (zs.set i y').getD j ro0 = ys.getD j ro0) := fun y' j hj => by
            rw [← hzs.out.2 j (by omega), List.getD_eq_getElem?_getD, List.getElem?_set_ne (by omega), ← List.getD_eq_getElem?_getD]
          generalize ys.getD i ro0 = y at hmq hzi hyx hbd h3
          generalize xs.getD i ro0 = x at hyx hcx hrx
          rw [h3] at h1
          have f1 : wr.cell? ⟨bx, ox + i * 6 + 1, none⟩ = some (.slice x.A y.ob.items.length x.c) := by rw [← hyx]; exact hcx 1 _ rfl
          have hrx1 : RdC wr 2 (.slice x.A y.ob.items.length x.c) (fV y.ob.items) := by rw [← hyx]; exact hrx.1
          have s2 := hmq.cell (.tail _ (.tail _ (.tail _ (List.mem_append_right _ (.head _))))) 2 rfl
          rw [hA] at s2
          replace hA := Fact.mk hA
          replace hAr := Fact.mk hAr
          replace hz30 := Fact.mk hz30
          replace hzi := Fact.mk hzi
          unfold roomV at h1
          rw [hAr.out]
          clear hcx hrx hxl h2 h3 hyx hdr
          go_wp2_with fail
          refine (keptValues_ok wr y.A y.ob.items.length y.c x.A x.c y.ob.items ⟨LentC.room (hmq.ok _ m2)⟩ ⟨hrx1⟩ (by omega)).mono ?_
          rintro e w16 ⟨rfl, hg16⟩
          have hm17 := (hmq.gr hg16).pull2
          clear hmq hg16 s2 f1 h1 hrx1
          obtain ⟨Z, hZ⟩ : ∃ Z, Z = Own 6 (.slice Ai k ci) (zs.flatMap cRO) :: Own 1 (.slice Ar k cr) (ys.map roomV) :: ((ys.drop (i + 1)).map LentC ++ (Blk gb (.cells [.int .i64 b, .int .i64 s, .slice A k c].toArray 44) :: (Y ++ X))) := ⟨_, rfl⟩
          have hm18 : Mem w w16 (Own 2 (.slice y.A (y.ob.items.length + 64) y.c) (fV (y.ob.items ++ marksV 64)) :: Own 1 (.slice y.KA y.ob.keys.length y.kc) (nums .i64 y.ob.keys) :: Z) := by rw [hZ]; exact Mem.opn hm17
          clear hm17
          have hcap := OwnAt.cap (hm18.ok _ m0)
          obtain ⟨bg, bo, hB⟩ := OwnAt.addr (hm18.ok _ m0) (by omega)
          rw [hB] at hm18
          have hCl : (fV (y.ob.items ++ marksV 64)).length = (y.ob.items.length + 64) * 2 := OwnAt.len (hm18.ok _ m0)
          rw [hB]
          clear hB
          generalize fV (y.ob.items ++ marksV 64) = C0 at hm18 hCl
          go_wp2
          go_loopw [16] (fun s16 W => ∃ (q : Nat) (C : List Value), s16 = .int .i64 q ∧ q ≤ y.ob.items.length + 64 ∧ C.length = (y.ob.items.length + 64) * 2 ∧ Mem w W (Own 2 (.slice (some ⟨bg, bo, none⟩) (y.ob.items.length + 64) y.c) C :: Own 1 (.slice y.KA y.ob.keys.length y.kc) (nums .i64 y.ob.keys) :: Z)) (fun s16 _ => y.ob.items.length + 64 - (intOf s16).toNat)
          case atStart => exact ⟨0, C0, rfl, by omega, hCl, hm18⟩
          case round =>
            obtain ⟨q, C, rfl, hq, hC, hmw⟩ := hrel
            clear hm18 hCl
            by_cases hqt : q < y.ob.items.length + 64
            · have hC' := Fact.mk (splice2_len (.int .i64 77) (.int .i64 5) hC hqt)
              have hq2 := Fact.mk (splice2_le (a := .int .i64 77) (b := .int .i64 5) hC hqt)
              replace hC := Fact.mk hC
              go_wp2_with (refine wp_ownrow rfl 27 _ _ rfl (bo + q * 2) (q * 2) rfl rfl [.int .i64 77, .int .i64 5] rfl hmw sz_V hq2.out (cV_one (77, 5)) ?_; intro w19 hm19)
              go_roundw
              case rel => exact ⟨q + 1, _, by go_num, hqt, hC'.out, hm19⟩
              case measure => exact measP_lt hqt
            · have hqf : ((q : Int) < (y.ob.items.length : Int) + 64) = False := eq_false (by omega)
              clear hq hqt
              have hm20 := hmw.tail
              clear hmw hC
              have hK0 : (nums .i64 y.ob.keys).length = y.ob.keys.length := by simp
              generalize nums .i64 y.ob.keys = K0 at hm20 hK0
              go_wp2
              clear hqf
              go_loopw [17] (fun s17 W => ∃ (p : Nat) (C : List Value), s17 = .int .i64 p ∧ p ≤ y.ob.keys.length ∧ C.length = y.ob.keys.length ∧ Mem w W (Own 1 (.slice y.KA y.ob.keys.length y.kc) C :: Z)) (fun s17 _ => y.ob.keys.length - (intOf s17).toNat)
              case atStart => exact ⟨0, K0, rfl, by omega, hK0, hm20⟩
              case round =>
                obtain ⟨p, C, rfl, hq, hC, hmv⟩ := hrel
                clear hm20 hK0
                rw [hZ] at hmv
                obtain ⟨bi, oi, hAi, hci, _, _⟩ := rd_at cRO_len (by omega) ro0 (hmv.rd m1) i hit
                rw [hzi.out] at hci
                have f2 : wr.cell? ⟨bi, oi + i * 6 + 2, none⟩ = some (.slice y.KA y.ob.keys.length y.kc) := hci 2 _ rfl
                clear hci
                by_cases hqt : p < y.ob.keys.length
                · have hq2 := Fact.mk (splice1_le (a := .int .i64 (1000 - (p : Int))) hC hqt)
                  have hC' := Fact.mk (splice1_len (.int .i64 (1000 - (p : Int))) hC hqt)
                  have hq5 : (p : Int) ≤ 1048576 := by have := hbd.2; omega
                  have hcap2 := OwnAt.cap (hmv.ok _ m0)
                  obtain ⟨bk, ok, hKA⟩ := OwnAt.addr (hmv.ok _ m0) (by omega)
                  rw [hKA] at hmv f2
                  replace hKA := Fact.mk hKA
                  clear hcap2 hC
                  rw [hAi]
                  replace hAi := Fact.mk hAi
                  go_wp2_with (refine wp_ownat rfl 2 _ _ rfl (ok + p) p rfl rfl [.int .i64 (1000 - (p : Int))] _ rfl rfl hmv sz_i64 hq2.out (one_one rfl) ?_; intro w21 hm21)
                  try rw [← hAi.out]
                  go_roundw
                  case rel => exact ⟨p + 1, _, by go_num, hqt, hC'.out, by rw [hZ, hKA.out]; exact hm21⟩
                  case measure => exact measP_lt hqt
                · obtain rfl : p = y.ob.keys.length := by omega
                  have hmu := hmv.tail
                  clear hmv hC
                  rw [hAi] at hmu
                  obtain ⟨y', hy'⟩ : ∃ y' : RO, y' = { y with ob := { y.ob with kind := 77 } } := ⟨_, rfl⟩
                  have hfs := flat_set zs i (by rw [hzs.out.1]; exact hit) y' 0 [.int .i64 77] (by simp) (by rw [hzi.out, hy']; rfl)
                  replace hfs := Fact.mk hfs
                  have hfl := Fact.mk (show i * 6 + 0 + [(.int .i64 77 : Value)].length ≤ (zs.flatMap cRO).length by rw [flat_len, hzs.out.1]; simp only [List.length_singleton]; omega)
                  rw [hAi]
                  replace hAi := Fact.mk hAi
                  clear hy'
                  go_wp2_with (refine wp_ownat rfl 3 _ _ rfl (oi + i * 6) (i * 6 + 0) rfl rfl [.int .i64 77] _ rfl rfl hmu sz_int hfl.out (one_one rfl) ?_; intro w22 hm22)
                  try rw [← hAi.out]
                  try rw [← hAr.out]
                  go_roundw
                  case rel => exact ⟨i + 1, zs.set i y', by go_num, hit, ⟨by rw [List.length_set]; exact hzs.out.1, hz30.out y'⟩, by rw [← hfs.out, hAi.out]; exact hm22⟩
                  case measure => exact measP_lt hit
        · obtain rfl : i = k := by omega
          rw [List.drop_of_length_le (by rw [hyl.out]; exact Nat.le_refl _)] at hmq
          have hmz : Mem w wr (Y ++ X) := hmq.tail.tail.tail
          clear hmq
          rcases hhv.out with ⟨h1, h, ha, hok, h2, h3⟩ | ⟨h1, h2, h3⟩
          · rcases hmay.out.2 with ⟨_, r, hra, rok, h5, h6⟩ | ⟨h4, _⟩
            · rw [h3, h6] at hmz
              rw [h1, h2, h5]
              have hmb : loadB (xs.map (·.ob)) = true := by rw [← hmay2.out, h1]
              have habs : r.abs = h.abs := by rw [ha, hra]
              have hal := alike_ok w wr [] h r hmz ⟨hok⟩ ⟨rok⟩ ⟨by rw [habs]⟩ (congrArg Hs.spent habs)
              replace hal := Fact.mk hal
              replace hmb := Fact.mk hmb
              replace ha := Fact.mk ha
              replace habs := Fact.mk habs
              clear h1 h2 h3 h5 h6 hra hmay hmay2 hhv
              go_wp2_with fail
              refine hal.out.mono ?_
              rintro e w30 ⟨rfl, hm30⟩
              go_wp2
              go_ret3
              exact .inl ⟨hmb.out, h, r, ha.out, habs.out, hok, rok, rfl, hm30⟩
            · rw [h1] at h4; cases h4
          · rw [h1]
            have hmb : Fact (loadB (xs.map (·.ob)) = false) := ⟨by rw [← hmay2.out, h1]⟩
            rcases hmay.out.2 with ⟨h4, _⟩ | ⟨_, h5, h6⟩
            · rw [h1] at h4; cases h4
            · rw [h3, h6] at hmz
              clear h1 h2 h3 h5 h6 hmay hmay2 hhv
              go_wp2
              go_ret3
              exact .inr ⟨hmb.out, rfl, hmz⟩
end Go.Proofs.Ytpibchjkmaghnaa
namespace Go.Proofs.Ytpibchjkmaghnaa
open Go.RowKit Go.Mm Go.WideShapes Go.ChangeShapes
set_option maxHeartbeats 1000000
set_option maxRecDepth 100000
theorem struct_of {P : Program} {t : TypeId} {fl : List (TypeId × Nat)} (h : fieldsOf P t = some fl) : ∃ fs, P.underlying t = some (.struct fs) := by
  unfold fieldsOf at h
  split at h
  · rename_i fs hfs; exact ⟨fs, hfs⟩
  · cases h
theorem wf_rng {n : Int} (h : (Lit.int .i64 n).wf = true) : -9223372036854775808 ≤ n ∧ n ≤ 9223372036854775807 := by
  simpa [Lit.wf, IntKind.has, IntKind.min, IntKind.max, IntKind.signed, IntKind.bits] using h
def cN (k : Int) : List Value := [.int .i64 k]
theorem flat_nums (ks : List Int) : ks.flatMap cN = nums .i64 ks := by
  induction ks with
  | nil => rfl
  | cons a ks ih => rw [List.flatMap_cons, ih]; rfl
theorem list6 {α : Type} {l : List α} (h : l.length = 6) : ∃ a b c d e f, l = [a, b, c, d, e, f] := by
  match l with
  | [a, b, c, d, e, f] => exact ⟨a, b, c, d, e, f, rfl⟩
section
variable {H : Type} {enc : TypeId × Value → H} {w : World}
theorem fl_O : fieldsOf Try.prog 71 = some [(3, 0), (30, 1), (50, 2), (3, 3), (3, 4), (4, 5)] := by kernel_rfl
theorem fl_ST : fieldsOf Try.prog 44 = some [(3, 0), (3, 1), (42, 2)] := by kernel_rfl
theorem co_Is : Try.prog.cellsOf 50 = 1 := by kernel_rfl
theorem co_O : Try.prog.cellsOf 71 = 6 := by kernel_rfl
theorem co_Os : Try.prog.cellsOf 42 = 1 := by kernel_rfl
theorem co_bool : Try.prog.cellsOf 4 = 1 := by kernel_rfl
theorem co_ST : Try.prog.cellsOf 44 = 3 := by kernel_rfl
theorem hel_Vw (fuel : Nat) (cs : List Value) (d : DataW H) (ps : List MemPlace) (h : DataW.trod enc Try.prog w 0 (fun _ => true) true fuel 27 cs = some (d, ps)) : ∃ x, cs = cV x ∧ (Lit.int .i64 x.2).wf = true := by
  obtain ⟨xs, n, rfl, hl, hx, hi⟩ := open_struct fl_V h
  rw [co_V] at hl
  obtain ⟨a, b, rfl⟩ := list2 hl
  obtain ⟨⟨d1, p1⟩, ⟨d2, p2⟩, rfl⟩ := list2 hx
  have h1 := hi 0 _ _ rfl
  have h2 := hi 1 _ _ rfl
  rw [co_int] at h1
  rw [co_i64] at h2
  obtain ⟨x, rfl, _⟩ := open_i ty_int h1
  obtain ⟨y, rfl, _, hw⟩ := open_i ty_i64 h2
  exact ⟨(x, y), rfl, hw⟩
theorem hel_N (fuel : Nat) (cs : List Value) (d : DataW H) (ps : List MemPlace) (h : DataW.trod enc Try.prog w 0 (fun _ => true) true fuel 2 cs = some (d, ps)) : ∃ x, cs = cN x ∧ (Lit.int .i64 x).wf = true := by
  obtain ⟨n, rfl, _, hw⟩ := DataW.trod_int ty_i64 h
  exact ⟨n, rfl, hw⟩
/-- What is known of an object that came in. -/
def InOk (w : World) (b : Nat) (x : RO) : Prop := x.reads w ∧ x.ob.items.length + 2 ≤ b ∧ x.ob.keys.length + 2 ≤ b ∧ (∀ k, k ∈ x.ob.keys → (Lit.int .i64 k).wf = true) ∧ ∀ v, v ∈ x.ob.items → -9223372036854775808 ≤ v.2 ∧ v.2 ≤ 9223372036854775807
theorem hel_O (fuel : Nat) (cs : List Value) (d : DataW H) (ps : List MemPlace) (h : DataW.trod enc Try.prog w 0 (fun _ => true) true fuel 71 cs = some (d, ps)) : ∃ x, cs = cRO x ∧ InOk w (Rows.uptoBulk d) x := by
  obtain ⟨xs, n, rfl, hl, hx, hi⟩ := open_struct fl_O h
  rw [co_O] at hl
  obtain ⟨a, b, c, e, f, g, rfl⟩ := list6 hl
  obtain ⟨⟨d1, p1⟩, ⟨d2, p2⟩, ⟨d3, p3⟩, ⟨d4, p4⟩, ⟨d5, p5⟩, ⟨d6, p6⟩, rfl⟩ := list6 hx
  have h1 := hi 0 _ _ rfl
  have h2 := hi 1 _ _ rfl
  have h3 := hi 2 _ _ rfl
  have h4 := hi 3 _ _ rfl
  have h5 := hi 4 _ _ rfl
  have h6 := hi 5 _ _ rfl
  rw [co_int] at h1 h4 h5
  rw [co_Vs] at h2
  rw [co_Is] at h3
  rw [co_bool] at h6
  obtain ⟨x1, rfl, _⟩ := open_i ty_int h1
  obtain ⟨x4, rfl, _⟩ := open_i ty_int h4
  obtain ⟨x5, rfl, _⟩ := open_i ty_int h5
  obtain ⟨A, m, k, zs, e2, r2, l2, g2⟩ := open_cells (cV) (fun _ x => (Lit.int .i64 x.2).wf = true) 2 (by omega) ty_Vs co_V (fun x => ⟨cV_len x, cV_one x⟩) hel_Vw h2
  obtain ⟨B, m', k', us, e3, r3, l3, g3⟩ := open_cells (cN) (fun _ x => (Lit.int .i64 x).wf = true) 1 (by omega) ty_Is co_i64 (fun x => ⟨rfl, one_one rfl⟩) hel_N h3
  obtain ⟨x6, e6, _⟩ := DataW.trod_bool ty_bool h6
  replace e2 : [b] = [.slice A m k] := e2
  replace e3 : [c] = [.slice B m' k'] := e3
  replace e6 : [g] = [.bool x6] := e6
  simp only [List.cons.injEq, and_true] at e2 e3 e6
  subst e2 e3 e6
  subst l2 l3
  rw [flat_nums] at r3
  have b2 := cells_len g2
  have b3 := cells_len g3
  have q2 := bulk_part (d := d2) (xs := [d1, d2, d3, d4, d5, d6]) (by simp)
  have q3 := bulk_part (d := d3) (xs := [d1, d2, d3, d4, d5, d6]) (by simp)
  refine ⟨⟨A, k, B, k', ⟨x1, zs, us, x4, x5, x6⟩⟩, rfl, ⟨r2, r3⟩, ?_, ?_, fun z hz => (cells_each g3 hz).elim fun y hy => hy.1, fun v hv => wf_rng ((cells_each g2 hv).elim fun y hy => hy.1)⟩
  · show zs.length + 2 ≤ _; simp at q2 ⊢; omega
  · show us.length + 2 ≤ _; simp at q3 ⊢; omega
theorem hel_HOw (fuel : Nat) (cs : List Value) (d : DataW H) (ps : List MemPlace) (h : DataW.trod enc Try.prog w 0 (fun _ => true) true fuel 32 cs = some (d, ps)) : ∃ x, cs = cHO x ∧ (Lit.int .i64 x.I).wf = true := by
  obtain ⟨xs, n, rfl, hl, hx, hi⟩ := open_struct fl_HO h
  rw [co_HO] at hl
  obtain ⟨a, b, c, e, f, g, x, y, z, rfl⟩ := list9 hl
  obtain ⟨⟨d1, p1⟩, ⟨d2, p2⟩, ⟨d3, p3⟩, ⟨d4, p4⟩, ⟨d5, p5⟩, ⟨d6, p6⟩, ⟨d7, p7⟩, rfl⟩ := list7 hx
  have h1 := hi 0 _ _ rfl
  have h2 := hi 1 _ _ rfl
  have h3 := hi 2 _ _ rfl
  have h4 := hi 3 _ _ rfl
  have h5 := hi 4 _ _ rfl
  have h6 := hi 5 _ _ rfl
  have h7 := hi 6 _ _ rfl
  rw [co_int] at h1 h2 h6
  rw [co_V] at h3 h4
  rw [co_i64] at h5
  rw [co_Vs] at h7
  obtain ⟨x1, rfl, _⟩ := open_i ty_int h1
  obtain ⟨x2, rfl, _⟩ := open_i ty_int h2
  obtain ⟨x3, e3, _⟩ := hel_V _ _ _ _ h3
  obtain ⟨x4, e4, _⟩ := hel_V _ _ _ _ h4
  obtain ⟨x5, rfl, _, hw⟩ := open_i ty_i64 h5
  obtain ⟨x6, rfl, _⟩ := open_i ty_int h6
  obtain ⟨A, m, k, zs, e7, _, _, _⟩ := open_cells (cV) (fun _ _ => True) 2 (by omega) ty_Vs co_V (fun x => ⟨cV_len x, cV_one x⟩) hel_V h7
  replace e3 : [c, e] = cV x3 := e3
  replace e4 : [f, g] = cV x4 := e4
  replace e7 : [z] = [.slice A m k] := e7
  simp only [cV, List.cons.injEq, and_true] at e3 e4 e7
  obtain ⟨rfl, rfl⟩ := e3
  obtain ⟨rfl, rfl⟩ := e4
  subst e7
  exact ⟨⟨x1, x2, x3, x4, x5, x6, A, m, k, zs⟩, rfl, hw⟩
theorem hel_HO2 (fuel : Nat) (cs : List Value) (d : DataW H) (ps : List MemPlace) (h : DataW.trod enc Try.prog w 0 (fun _ => true) true fuel 32 cs = some (d, ps)) : ∃ x, cs = cHO x ∧ ((RdC w 2 (.slice x.A x.n x.c) (fV x.items) ∧ x.n + 2 ≤ Rows.uptoBulk d) ∧ (Lit.int .i64 x.I).wf = true) := by
  obtain ⟨x, hx, h1⟩ := hel_HO fuel cs d ps h
  obtain ⟨y, hy, h2⟩ := hel_HOw fuel cs d ps h
  rw [hx] at hy
  simp only [cHO, List.cons.injEq, Value.int.injEq, true_and] at hy
  refine ⟨x, hx, h1, ?_⟩
  rw [hy.2.2.2.2.2.2.1]
  exact h2
/-- A script that came in. -/
theorem open_script {v : Value} {d : DataW H} {p : List MemPlace} {base : Nat} (h : DataW.Trod enc Try.prog w 0 (fun _ => true) true 22 v d p) (ok : Value.okWide Try.prog w .any base 22 v) (hb : Rows.uptoBulk d ≤ 1048576) :
    ∃ (A : Option Addr) (n c : Nat) (ops : List HOp), v = .slice A n c ∧ RdC w 9 (.slice A n c) (ops.flatMap cHO) ∧ OpsOk w ops ∧ n + 1 ≤ Rows.uptoBulk d := by
  obtain ⟨A, n, c, xs, rfl, hr, hl, hd⟩ := open_list cHO (fun d x => (RdC w 2 (.slice x.A x.n x.c) (fV x.items) ∧ x.n + 2 ≤ Rows.uptoBulk d) ∧ (Lit.int .i64 x.I).wf = true) 9 (by omega) ty_HOs co_HO (fun x => ⟨cHO_len x, cHO_one x⟩) hel_HO2 h ok
  refine ⟨A, n, c, xs, rfl, hr, fun f hf => ?_, cells_len hd⟩
  obtain ⟨y, hy, hb'⟩ := cells_each hd hf
  exact ⟨hy.1.1, by have := hy.1.2; omega, hy.2⟩
/-- How a heap begins, as it came in. -/
structure StOk (w : World) (b s : Int) (A : Option Addr) (n c : Nat) (xs : List RO) : Prop where
  hb : b ≤ 9223372036854775807
  hs : s ≤ 9223372036854775807
  rd : ObsR w A n c xs
  hn : n ≤ 1048576
  sz : ∀ x, x ∈ xs → x.ob.items.length ≤ 1048576 ∧ x.ob.keys.length ≤ 1048576
  wf : ∀ x, x ∈ xs → (∀ k, k ∈ x.ob.keys → (Lit.int .i64 k).wf = true) ∧ ∀ v, v ∈ x.ob.items → -9223372036854775808 ≤ v.2 ∧ v.2 ≤ 9223372036854775807
theorem open_start {v : Value} {d : DataW H} {p : List MemPlace} {base : Nat} (h : DataW.Trod enc Try.prog w 0 (fun _ => true) true 44 v d p) (ok : Value.okWide Try.prog w .any base 44 v) (hb : Rows.uptoBulk d ≤ 1048576) :
    ∃ (b s : Int) (A : Option Addr) (n c : Nat) (xs : List RO), v = .agg (stC b s A n c).toArray ∧ StOk w b s A n c xs := by
  obtain ⟨fs, hfs⟩ := struct_of fl_ST
  obtain ⟨cs, rfl, hcs⟩ := okWide_struct hfs ok
  obtain ⟨fuel, hfu⟩ := h
  obtain ⟨xs, n, rfl, hl, hx, hi⟩ := open_struct fl_ST hfu
  rw [co_ST] at hl
  obtain ⟨a, b, c, e⟩ := list3 hl
  rw [e] at hi
  obtain ⟨⟨d1, p1⟩, ⟨d2, p2⟩, ⟨d3, p3⟩, rfl⟩ := list3 hx
  have h1 := hi 0 _ _ rfl
  have h2 := hi 1 _ _ rfl
  have h3 := hi 2 _ _ rfl
  rw [co_int] at h1 h2
  rw [co_Os] at h3
  obtain ⟨x1, rfl, _, hw1⟩ := open_i ty_int h1
  obtain ⟨x2, rfl, _, hw2⟩ := open_i ty_int h2
  obtain ⟨A, m, k, zs, e3, r3, l3, g3⟩ := open_cells (cRO) (fun d x => InOk w (Rows.uptoBulk d) x) 6 (by omega) ty_Os co_O (fun x => ⟨cRO_len x, cRO_one x⟩) hel_O h3
  have e6 : c = .slice A m k := by simpa using e3
  clear e3
  subst e6
  have b3 := cells_len g3
  have q3 := bulk_part (d := d3) (xs := [d1, d2, d3]) (by simp)
  simp only [List.map_cons, List.map_nil] at hb
  refine ⟨x1, x2, A, m, k, zs, ?_, ⟨(wf_rng hw1).2, (wf_rng hw2).2, ⟨r3, fun x hxm => ?_⟩, by omega, fun x hxm => ?_, fun x hxm => ?_⟩⟩
  · have : cs.toList = [.int .i64 x1, .int .i64 x2, .slice A m k] := by simpa [Value.cells] using e
    show Value.agg cs = Value.agg _
    congr 1
    exact Array.toList_inj.1 (by simpa [stC] using this)
  · exact (cells_each g3 hxm).elim fun y hy => hy.1.1
  · obtain ⟨y, hy, hb2⟩ := cells_each g3 hxm
    have h4 := hy.2.1
    have h5 := hy.2.2.1
    omega
  · exact (cells_each g3 hxm).elim fun y hy => hy.1.2.2.2
end
end Go.Proofs.Ytpibchjkmaghnaa
namespace Go.Proofs.Ytpibchjkmaghnaa
open Go.RowKit Go.Mm
theorem load_few {l : List Ob} (h : loadB l = true) (b s : Int) : (⟨b, s, l⟩ : Hs).Few := fun o ho => by
  have hr := List.all_eq_true.1 h o ho
  rw [refB_eq, Bool.and_eq_true, Bool.and_eq_true] at hr
  have hl := hr.2.1
  unfold limB at hl
  refine ⟨fun h9 => ?_, fun h7 => ?_⟩
  · simp only [h9, show ¬ (9 : Int) = 6 by decide, show ¬ (9 : Int) = 7 by decide, show ¬ (9 : Int) = 8 by decide, if_false, Bool.and_eq_true, decide_eq_true_eq] at hl
    exact hl.1.2
  · simp only [h7, show ¬ (7 : Int) = 6 by decide, if_false, if_true, decide_eq_true_eq] at hl
    exact hl
end Go.Proofs.Ytpibchjkmaghnaa
namespace Go.Proofs.Ytpibchjkmaghnaa
open Go.RowKit Go.Mm
set_option maxHeartbeats 4000000
set_option maxRecDepth 100000
set_option linter.unusedSimpArgs false
def nils (n : Nat) : List V2 := List.replicate n (0, 0)
theorem nils_len (n : Nat) : (nils n).length = n := by simp [nils]
theorem nils_succ (n : Nat) : fV (nils (n + 1)) = fV (nils n) ++ [.int .i64 0, .int .i64 0] := by
  unfold nils
  rw [List.replicate_succ']
  simp [fV, cV]
theorem many_ok (w0 w : World) (L : List Chunk) (hm : Mem w0 w L) (n : Nat) (hn : n ≤ 8192) (N : Int) (hN : N = n) :
    Calls Try.prog 72 #[.int .i64 N] w fun e w' => ∃ (A : Option Addr) (c : Nat), e = .returned (.slice A n c) ∧ Mem w0 w' (Own 2 (.slice A n c) (fV (nils n)) :: L) := by
  subst hN
  obtain ⟨iV, hiV, hz0, hz1, hz2⟩ := info_parts inf_V
  go_enter Try.func72, Try.ntmps72
  go_wp2
  go_loopw [3, 4] (fun s3 s4 w' => ∃ (k : Nat) (A : Option Addr) (c : Nat), s4 = .int .i64 k ∧ k ≤ n ∧ s3 = .slice A k c ∧ Mem w0 w' (Own 2 (.slice A k c) (fV (nils k)) :: L)) (fun _ s4 _ => n - (intOf s4).toNat)
  case atStart => exact ⟨0, none, 0, rfl, by omega, rfl, hm.nil 2 none⟩
  case round =>
    obtain ⟨k, A, c, rfl, hk, rfl, hmr⟩ := hrel
    clear hm
    by_cases hlt : k < n
    · go_wp2_with (at_builtin; refine wp_app rfl _ _ _ rfl 27 iV _ 2 16 ty_Vs hiV hz0 hz1 hz2 rfl A k c _ rfl (hmr.alloc _).swap _ 1 1 [.int .i64 0, .int .i64 0] rfl (RdC.lit _ _ _ _ _ rfl (by simp [maxLen]) (cV_one (0, 0))) (by unfold maxLen; omega) (by omega) ?_; intro A5 c5 w5 hm5)
      go_roundw
      case rel => exact ⟨k + 1, A5, c5, by go_num, by omega, rfl, by rw [nils_succ]; exact hm5.drop2⟩
      case measure => exact measP_lt hlt
    · obtain rfl : k = n := by omega
      go_wp2
      go_ret
      exact ⟨A, c, rfl, hmr⟩
def keysTo (n : Nat) : List Int := (List.range n).map Int.ofNat
theorem keysTo_len (n : Nat) : (keysTo n).length = n := by simp [keysTo]
theorem keysTo_succ (n : Nat) : nums .i64 (keysTo (n + 1)) = nums .i64 (keysTo n) ++ [.int .i64 (n : Int)] := by
  simp [keysTo, nums, List.range_succ]
/-- An object whose lists lie so. -/
theorem roc_mk {w0 w : World} {L : List Chunk} (A : Option Addr) (c : Nat) (K : Option Addr) (kc : Nat) (kind : Int) (items : List V2) (keys : List Int) (fn cap : Int) (sh : Bool) (h : Mem w0 w (Own 2 (.slice A items.length c) (fV items) :: Own 1 (.slice K keys.length kc) (nums .i64 keys) :: L)) :
    Mem w0 w (RoC ⟨A, c, K, kc, ⟨kind, items, keys, fn, cap, sh⟩⟩ :: L) := Mem.sht (RO.chunks ⟨A, c, K, kc, ⟨kind, items, keys, fn, cap, sh⟩⟩) h
theorem keyed_ok (w0 w : World) (L : List Chunk) (hm : Mem w0 w L) (n : Nat) (hn : n ≤ 8192) (N : Int) (hN : N = n) :
    Calls Try.prog 71 #[.int .i64 N] w fun e w' => ∃ (x : RO), e = .returned (.agg (cRO x).toArray) ∧ x.ob = ⟨7, nils n, keysTo n, 0, 0, false⟩ ∧ Mem w0 w' (RoC x :: L) := by
  subst hN
  obtain ⟨iI, hiI, hz0, hz1, hz2⟩ := info_parts inf_I
  go_enter Try.func71, Try.ntmps71
  go_upto_region 1 with (fail)
  have hm1 := hm.alloc (.cells [.int .i64 0, .slice none 0 0, .slice none 0 0, .int .i64 0, .int .i64 0, .bool false].toArray 71)
  generalize hgb : w.heap.size = g2 at hm1 ⊢
  generalize hw1 : w.alloc (.cells [.int .i64 0, .slice none 0 0, .slice none 0 0, .int .i64 0, .int .i64 0, .bool false].toArray 71) = w1 at hm1
  try refine wp_world hw1 ?_
  clear hw1 hgb hm
  go_wp2_with fail
  refine (many_ok w0 w1 _ hm1 n hn n rfl).mono ?_
  rintro e w2 ⟨A, c, rfl, hm2⟩
  clear hm1
  go_wp2_with (refine wp_setrow rfl 71 _ _ rfl w2.heap.size rfl 71 _ (obC 7 A n c none 0 0 0 0 false) rfl (hm2.alloc _) sz_O rfl (obC_one _ _ _ _ _ _ _ _ _ _) ?_; intro w3 hm3)
  generalize w2.heap.size = g3 at hm3 ⊢
  clear hm2
  go_loopw [4] (fun s4 w' => ∃ (k : Nat) (K : Option Addr) (kc : Nat), s4 = .int .i64 k ∧ k ≤ n ∧ Mem w0 w' (Blk g3 (.cells (obC 7 A n c K k kc 0 0 false).toArray 71) :: Own 1 (.slice K k kc) (nums .i64 (keysTo k)) :: Own 2 (.slice A n c) (fV (nils n)) :: Blk g2 (.cells [.int .i64 0, .slice none 0 0, .slice none 0 0, .int .i64 0, .int .i64 0, .bool false].toArray 71) :: L)) (fun s4 _ => n - (intOf s4).toNat)
  case atStart => exact ⟨0, none, 0, rfl, by omega, (hm3.nil 1 none).swap⟩
  case round =>
    obtain ⟨k, K, kc, rfl, hk, hmr⟩ := hrel
    clear hm3
    by_cases hlt : k < n
    · have c2 := hmr.cell m0 2 rfl
      go_wp2_with (first | (at_builtin; refine wp_app rfl _ _ _ rfl 2 iI _ 1 8 ty_Is hiI hz0 hz1 hz2 rfl K k kc _ rfl (hmr.alloc _).pull2 _ 1 1 [.int .i64 (k : Int)] rfl (RdC.lit _ _ _ _ _ rfl (by simp [maxLen]) (one_one rfl)) (by unfold maxLen; omega) (by omega) ?_; intro K5 kc5 w5 hm5; have hm6 := hm5.drop2.swap) | (refine wp_setat rfl 50 _ _ rfl g3 2 rfl 71 _ [.slice K5 (k + 1) kc5] (obC 7 A n c K5 (k + 1) kc5 0 0 false) (.slice K5 (k + 1) kc5) rfl rfl hm6 sz_Is (by simp [obC]) (one_one rfl) rfl ?_; intro w7 hm7))
      go_roundw
      case rel => exact ⟨k + 1, K5, kc5, by go_num, by omega, by rw [keysTo_succ]; exact hm7⟩
      case measure => exact measP_lt hlt
    · obtain rfl : k = n := by omega
      go_wp2_with (first | (refine wp_rng rfl 71 _ rfl g3 0 rfl (obC 7 A k c K k kc 0 0 false) (rng_blk hmr m0) row_O sz_O ?_) | (refine wp_setrow rfl 71 _ _ rfl g2 rfl 71 _ (obC 7 A k c K k kc 0 0 false) rfl hmr.pull3 sz_O rfl (obC_one _ _ _ _ _ _ _ _ _ _) ?_; intro w9 hm9))
      refine bodyPost_ret (Mm.res_cell rfl _ g2 71 (obC 7 A k c K k kc 0 0 false) (0, 0) rfl hm9 m0 row_O sz_O) rfl ⟨⟨A, c, K, kc, ⟨7, nils k, keysTo k, 0, 0, false⟩⟩, ?_, rfl, ?_⟩
      · unfold cRO
        simp only [nils_len, keysTo_len]
      · refine roc_mk A c K kc 7 (nils k) (keysTo k) 0 0 false ?_
        rw [nils_len, keysTo_len]
        exact hm9.tail.tail.swap
end Go.Proofs.Ytpibchjkmaghnaa
namespace Go.Proofs.Ytpibchjkmaghnaa
open Go.RowKit Go.Mm
set_option maxHeartbeats 16000000
set_option maxRecDepth 100000
set_option linter.unusedSimpArgs false
theorem perm_c {α : Type} {l m : List α} (h : ∀ (_ : DecidableEq α) (x : α), l.count x = m.count x) : l.Perm m := by
  classical
  exact List.perm_iff_count.2 fun x => h inferInstance x
theorem one_app {l m : List Value} (hl : One l) (hm : One m) : One (l ++ m) := fun u hu => (List.mem_append.1 hu).elim (hl u) (hm u)
theorem rng_wf {k : Int} (h0 : -9223372036854775808 ≤ k) (h1 : k ≤ 9223372036854775807) : (Lit.int .i64 k).wf = true := by
  simp [Lit.wf, IntKind.has, IntKind.min, IntKind.max, IntKind.signed, IntKind.bits]
  omega
theorem roc_nil {w0 w : World} {L : List Chunk} (kind fn cap : Int) (sh : Bool) (h : Mem w0 w L) : Mem w0 w (RoC ⟨none, 0, none, 0, ⟨kind, [], [], fn, cap, sh⟩⟩ :: L) := roc_mk none 0 none 0 kind [] [] fn cap sh ((h.nil 1 none).nil 2 none)
theorem roc_items {w0 w : World} {L : List Chunk} {A : Option Addr} {n c : Nat} {items : List V2} (kind fn cap : Int) (sh : Bool) (h : Mem w0 w (Own 2 (.slice A n c) (fV items) :: L)) (hl : items.length = n) : Mem w0 w (RoC ⟨A, c, none, 0, ⟨kind, items, [], fn, cap, sh⟩⟩ :: L) := by
  subst hl
  exact roc_mk A c none 0 kind items [] fn cap sh (h.nil 1 none).swap
theorem roc_keys {w0 w : World} {L : List Chunk} {K : Option Addr} {n kc : Nat} {keys : List Int} (kind fn cap : Int) (sh : Bool) (h : Mem w0 w (Own 1 (.slice K n kc) (nums .i64 keys) :: L)) (hk : keys.length = n) : Mem w0 w (RoC ⟨none, 0, K, kc, ⟨kind, [], keys, fn, cap, sh⟩⟩ :: L) := by
  subst hk
  exact roc_mk none 0 K kc kind [] keys fn cap sh (h.nil 2 none)
theorem roc_both {w0 w : World} {L : List Chunk} {A : Option Addr} {n c : Nat} {items : List V2} {K : Option Addr} {m kc : Nat} {keys : List Int} (kind fn cap : Int) (sh : Bool) (h : Mem w0 w (Own 2 (.slice A n c) (fV items) :: Own 1 (.slice K m kc) (nums .i64 keys) :: L)) (hl : items.length = n) (hk : keys.length = m) : Mem w0 w (RoC ⟨A, c, K, kc, ⟨kind, items, keys, fn, cap, sh⟩⟩ :: L) := by
  subst hl
  subst hk
  exact roc_mk A c K kc kind items keys fn cap sh h
/-- What holds of every such object. -/
structure EdgOk (x : RO) : Prop where
  items : x.ob.items.length ≤ 8192
  keys : x.ob.keys.length ≤ 8192
  wf : ∀ k, k ∈ x.ob.keys → (Lit.int .i64 k).wf = true
  rng : ∀ v, v ∈ x.ob.items → -9223372036854775808 ≤ v.2 ∧ v.2 ≤ 9223372036854775807
theorem nils_rng (n : Nat) : ∀ v, v ∈ nils n → -9223372036854775808 ≤ v.2 ∧ v.2 ≤ 9223372036854775807 := fun v hv => by
  obtain rfl := List.eq_of_mem_replicate hv
  simp
theorem edg_mk (A : Option Addr) (c : Nat) (K : Option Addr) (kc : Nat) (kind : Int) (items : List V2) (keys : List Int) (fn cap : Int) (sh : Bool) (hi : (∃ n, items = nils n ∧ n ≤ 8192) ∨ items = []) (hk : keys.length ≤ 8192 ∧ ∀ k, k ∈ keys → (Lit.int .i64 k).wf = true) : EdgOk ⟨A, c, K, kc, ⟨kind, items, keys, fn, cap, sh⟩⟩ := by
  rcases hi with ⟨n, rfl, hn⟩ | rfl
  · exact ⟨by show (nils n).length ≤ _; rw [nils_len]; exact hn, hk.1, hk.2, nils_rng n⟩
  · exact ⟨by simp, hk.1, hk.2, fun v hv => by cases hv⟩
theorem edg_keyed {x : RO} {n : Nat} (h : x.ob = ⟨7, nils n, keysTo n, 0, 0, false⟩) (hn : n ≤ 8192) : EdgOk x := by
  refine ⟨by rw [h]; show (nils n).length ≤ _; rw [nils_len]; exact hn, by rw [h]; show (keysTo n).length ≤ _; rw [keysTo_len]; exact hn, fun k hk => ?_, by rw [h]; exact nils_rng n⟩
  rw [h] at hk
  simp only [keysTo, List.mem_map, List.mem_range] at hk
  obtain ⟨i, hi, rfl⟩ := hk
  exact rng_wf (by show -9223372036854775808 ≤ (i : Int); omega) (by show (i : Int) ≤ _; omega)
def AboutQ (w0 : World) (L : List Chunk) (A : Option Addr) (n c : Nat) (xs : List RO) (w : World) : Prop := (∀ x, x ∈ xs → EdgOk x) ∧ Mem w0 w (Own 6 (.slice A n c) (xs.flatMap cRO) :: (xs.map RoC ++ L))
theorem about_ok (w0 w : World) (L : List Chunk) (hm : Mem w0 w L) :
    Calls Try.prog 39 #[] w fun e w' => ∃ (A : Option Addr) (c : Nat) (xs : List RO), e = .returned (.slice A 357 c) ∧ AboutQ w0 L A 357 c xs w' := by
  obtain ⟨iO, hiO, oz0, oz1, oz2⟩ := info_parts inf_O
  go_enter Try.func39, Try.ntmps39
  go_wp2_with fail
  refine (keyed_ok w0 w _ hm 255 (by omega) 255 (by omega)).mono ?_
  rintro e w1 ⟨x1, rfl, h1, hm1⟩
  go_wp2_with fail
  refine (keyed_ok w0 w1 _ hm1 256 (by omega) 256 (by omega)).mono ?_
  rintro e w2 ⟨x2, rfl, h2, hm2⟩
  go_wp2_with fail
  refine (keyed_ok w0 w2 _ hm2 257 (by omega) 257 (by omega)).mono ?_
  rintro e w3 ⟨x3, rfl, h3, hm3⟩
  clear hm1 hm2 hm
  have hE0 : ∀ x, x ∈ [x1, x2, x3] → EdgOk x := fun x hx => by
    simp only [List.mem_cons, List.not_mem_nil, or_false] at hx
    rcases hx with rfl | rfl | rfl
    · exact edg_keyed h1 (by omega)
    · exact edg_keyed h2 (by omega)
    · exact edg_keyed h3 (by omega)
  replace hE0 := Fact.mk hE0
  clear h1 h2 h3
  unfold cRO obC
  go_upto_region 2 with (fail)
  have hm4 := hm3.alloc (.cells (cRO x1 ++ (cRO x2 ++ cRO x3)).toArray 71)
  generalize hgb : w3.heap.size = g4 at hm4 ⊢
  generalize hw1 : w3.alloc (.cells (cRO x1 ++ (cRO x2 ++ cRO x3)).toArray 71) = w4 at hm4
  refine wp_world hw1 ?_
  clear hw1 hgb hm3
  have hm5 := hm4.blk_own (n := 3) (size := 6) (by simp [cRO_len]) (by unfold maxLen; omega) (one_app (cRO_one _) (one_app (cRO_one _) (cRO_one _)))
  have hm6 : Mem w0 w4 (Own 6 (.slice (some ⟨g4, 0, none⟩) 3 3) ([x1, x2, x3].flatMap cRO) :: ([x1, x2, x3].map RoC ++ L)) := by
    simp only [List.flatMap_cons, List.flatMap_nil, List.append_nil]
    exact hm5.perm (perm_c fun D x => by simp only [List.map_append, List.map_cons, List.map_nil, List.count_append, List.count_cons, List.count_nil]; omega)
  clear hm4 hm5
  generalize [x1, x2, x3] = xs0 at hm6 hE0
  go_wp2
  go_loopw [1, 2] (fun s1 s2 w' => ∃ (k : Nat) (A : Option Addr) (c : Nat) (xs : List RO), s2 = .int .i64 (4095 + (k : Int)) ∧ k ≤ 3 ∧ s1 = .slice A (3 + 2 * k) c ∧ Fact (∀ x, x ∈ xs → EdgOk x) ∧ Mem w0 w' (Own 6 (.slice A (3 + 2 * k) c) (xs.flatMap cRO) :: (xs.map RoC ++ L))) (fun _ s2 _ => 4098 - (intOf s2).toNat)
  case atStart => exact ⟨0, _, _, xs0, rfl, by omega, rfl, hE0, hm6⟩
  case round =>
    obtain ⟨k, A, c, xs, rfl, hk, rfl, hE, hmr⟩ := hrel
    replace hE := hE.out
    by_cases hlt : k < 3
    · have wrapk : wrap64 (4095 + (k : Int) + 1) = 4095 + (k : Int) + 1 := IntWalk.wrap64_in _ (by omega)
      replace hE := Fact.mk hE
      go_wp2_with fail
      refine (many_ok w0 wr _ hmr (4095 + k) (by omega) (4095 + (k : Int)) (by omega)).mono ?_
      rintro e wp1 ⟨Ap1, cp1, rfl, hmp1⟩
      go_wp2_with fail
      refine (many_ok w0 wp1 _ hmp1 (4095 + k) (by omega) (4095 + (k : Int)) (by omega)).mono ?_
      rintro e wp2 ⟨Ap2, cp2, rfl, hmp2⟩
      clear hmp1
      replace hE := hE.out
      have honep3 : One [.int .i64 (6), .slice Ap1 (4095 + k) cp1, .slice none 0 0, .int .i64 (0), .int .i64 (0), .bool false, .int .i64 (8), .slice Ap2 (4095 + k) cp2, .slice none 0 0, .int .i64 (0), .int .i64 (0), .bool false] := by intro u hu; simp only [List.mem_cons, List.not_mem_nil, or_false] at hu; repeat (first | (rcases hu with rfl | hu; · rfl) | (subst hu; rfl))
      have hflp3 : [(⟨Ap1, cp1, none, 0, ⟨6, nils (4095 + k), [], 0, 0, false⟩⟩ : RO), (⟨Ap2, cp2, none, 0, ⟨8, nils (4095 + k), [], 0, 0, false⟩⟩ : RO)].flatMap cRO = [.int .i64 (6), .slice Ap1 (4095 + k) cp1, .slice none 0 0, .int .i64 (0), .int .i64 (0), .bool false, .int .i64 (8), .slice Ap2 (4095 + k) cp2, .slice none 0 0, .int .i64 (0), .int .i64 (0), .bool false] := by simp [cRO, obC, nils_len]
      replace honep3 := Fact.mk honep3
      replace hflp3 := Fact.mk hflp3
      have hqp3 := fun (W : World) (g : Nat) (h : Mem w0 W (Blk g (.cells [.int .i64 (6), .slice Ap1 (4095 + k) cp1, .slice none 0 0, .int .i64 (0), .int .i64 (0), .bool false, .int .i64 (8), .slice Ap2 (4095 + k) cp2, .slice none 0 0, .int .i64 (0), .int .i64 (0), .bool false].toArray 71) :: Own 2 (.slice Ap2 (4095 + k) cp2) (fV (nils (4095 + k))) :: Own 2 (.slice Ap1 (4095 + k) cp1) (fV (nils (4095 + k))) :: Own 6 (.slice A (3 + 2 * k) c) (xs.flatMap cRO) :: (xs.map RoC ++ L))) => (h.perm (perm_c fun D x => by simp only [List.map_append, List.map_cons, List.map_nil, List.count_append, List.count_cons, List.count_nil]; omega) : Mem w0 W (Own 6 (.slice A (3 + 2 * k) c) (xs.flatMap cRO) :: Blk g (.cells [.int .i64 (6), .slice Ap1 (4095 + k) cp1, .slice none 0 0, .int .i64 (0), .int .i64 (0), .bool false, .int .i64 (8), .slice Ap2 (4095 + k) cp2, .slice none 0 0, .int .i64 (0), .int .i64 (0), .bool false].toArray 71) :: Own 2 (.slice Ap2 (4095 + k) cp2) (fV (nils (4095 + k))) :: Own 2 (.slice Ap1 (4095 + k) cp1) (fV (nils (4095 + k))) :: (xs.map RoC ++ L)))
      replace hqp3 := Fact.mk hqp3
      go_wp2_with (at_builtin; refine wp_app rfl _ _ _ rfl 71 iO _ 6 80 ty_Os hiO oz0 oz1 oz2 rfl A (3 + 2 * k) c _ rfl (hqp3.out _ _ (hmp2.alloc _)) _ 2 2 [.int .i64 (6), .slice Ap1 (4095 + k) cp1, .slice none 0 0, .int .i64 (0), .int .i64 (0), .bool false, .int .i64 (8), .slice Ap2 (4095 + k) cp2, .slice none 0 0, .int .i64 (0), .int .i64 (0), .bool false] rfl (RdC.lit _ _ _ _ _ rfl (by simp [maxLen]) honep3.out) (by unfold maxLen; omega) (by omega) ?_; intro Bp3 dp3 wp3 hzp3)
      have hrp3_0 : Mem w0 wp3 (Own 2 (.slice Ap1 (4095 + k) cp1) (fV (nils (4095 + k))) :: Own 6 (.slice Bp3 (3 + 2 * k + 2) dp3) (xs.flatMap cRO ++ [.int .i64 (6), .slice Ap1 (4095 + k) cp1, .slice none 0 0, .int .i64 (0), .int .i64 (0), .bool false, .int .i64 (8), .slice Ap2 (4095 + k) cp2, .slice none 0 0, .int .i64 (0), .int .i64 (0), .bool false]) :: Own 2 (.slice Ap2 (4095 + k) cp2) (fV (nils (4095 + k))) :: (xs.map RoC ++ L)) := hzp3.drop2.perm (perm_c fun D x => by simp only [List.map_append, List.map_cons, List.map_nil, List.count_append, List.count_cons, List.count_nil]; omega)
      have htp3_0 := roc_items (6) (0) (0) false hrp3_0 (nils_len _)
      have hrp3_1 : Mem w0 wp3 (Own 2 (.slice Ap2 (4095 + k) cp2) (fV (nils (4095 + k))) :: RoC (⟨Ap1, cp1, none, 0, ⟨6, nils (4095 + k), [], 0, 0, false⟩⟩ : RO) :: Own 6 (.slice Bp3 (3 + 2 * k + 2) dp3) (xs.flatMap cRO ++ [.int .i64 (6), .slice Ap1 (4095 + k) cp1, .slice none 0 0, .int .i64 (0), .int .i64 (0), .bool false, .int .i64 (8), .slice Ap2 (4095 + k) cp2, .slice none 0 0, .int .i64 (0), .int .i64 (0), .bool false]) :: (xs.map RoC ++ L)) := htp3_0.perm (perm_c fun D x => by simp only [List.map_append, List.map_cons, List.map_nil, List.count_append, List.count_cons, List.count_nil]; omega)
      have htp3_1 := roc_items (8) (0) (0) false hrp3_1 (nils_len _)
      have hFp3 : Mem w0 wp3 (Own 6 (.slice Bp3 (3 + 2 * k + 2) dp3) ((xs ++ [(⟨Ap1, cp1, none, 0, ⟨6, nils (4095 + k), [], 0, 0, false⟩⟩ : RO), (⟨Ap2, cp2, none, 0, ⟨8, nils (4095 + k), [], 0, 0, false⟩⟩ : RO)]).flatMap cRO) :: ((xs ++ [(⟨Ap1, cp1, none, 0, ⟨6, nils (4095 + k), [], 0, 0, false⟩⟩ : RO), (⟨Ap2, cp2, none, 0, ⟨8, nils (4095 + k), [], 0, 0, false⟩⟩ : RO)]).map RoC ++ L)) := by
        rw [List.flatMap_append, List.map_append, hflp3.out]
        exact htp3_1.perm (perm_c fun D x => by simp only [List.map_append, List.map_cons, List.map_nil, List.count_append, List.count_cons, List.count_nil]; omega)
      have hEp3 : ∀ x, x ∈ xs ++ [(⟨Ap1, cp1, none, 0, ⟨6, nils (4095 + k), [], 0, 0, false⟩⟩ : RO), (⟨Ap2, cp2, none, 0, ⟨8, nils (4095 + k), [], 0, 0, false⟩⟩ : RO)] → EdgOk x := by
        intro x hx
        rcases List.mem_append.1 hx with hx | hx
        · exact hE x hx
        · simp only [List.mem_cons, List.not_mem_nil, or_false] at hx
          rcases hx with rfl | rfl
          · exact edg_mk _ _ _ _ _ _ _ _ _ _ (.inl ⟨_, rfl, by omega⟩) (by decide)
          · exact edg_mk _ _ _ _ _ _ _ _ _ _ (.inl ⟨_, rfl, by omega⟩) (by decide)
      clear hmp2
      replace hE := Fact.mk hEp3
      clear hEp3
      go_roundw
      case rel => exact ⟨k + 1, Bp3, dp3, _, by go_num, by omega, by rw [show 3 + 2 * (k + 1) = 3 + 2 * k + 2 by omega], hE, by rw [show 3 + 2 * (k + 1) = 3 + 2 * k + 2 by omega]; exact hFp3⟩
      case measure => simp [intOf, wrapk]; omega
    · have hlen : Fact (3 + 2 * k = 9 + 3 * 0) := ⟨by omega⟩
      replace hE := Fact.mk hE
      go_wp2
      rw [hlen.out] at hmr ⊢
      clear hlt hk hlen
      go_loopw [1, 3] (fun s1 s3 w' => ∃ (k : Nat) (A : Option Addr) (c : Nat) (xs : List RO), s3 = .int .i64 ((k : Int)) ∧ k ≤ 67 ∧ s1 = .slice A (9 + 3 * k) c ∧ Fact (∀ x, x ∈ xs → EdgOk x) ∧ Mem w0 w' (Own 6 (.slice A (9 + 3 * k) c) (xs.flatMap cRO) :: (xs.map RoC ++ L))) (fun _ s3 _ => 67 - (intOf s3).toNat)
      case atStart => exact ⟨0, A, c, xs, rfl, by omega, rfl, hE, hmr⟩
      case round =>
        clear hmr
        obtain ⟨k, A, c, xs, rfl, hk, rfl, hE, hmr⟩ := hrel
        by_cases hlt : k < 67
        · have wrapk : wrap64 ((k : Int) + 1) = (k : Int) + 1 := IntWalk.wrap64_in _ (by omega)
          have wrapn : wrap64 (-(k : Int)) = -(k : Int) := IntWalk.wrap64_in _ (by omega)
          go_wp2_with fail
          refine (many_ok w0 wr _ hmr (k) (by omega) ((k : Int)) (by omega)).mono ?_
          rintro e wq1 ⟨Aq1, cq1, rfl, hmq1⟩
          go_wp2_with fail
          refine (many_ok w0 wq1 _ hmq1 (k + 1) (by omega) ((k : Int) + 1) (by omega)).mono ?_
          rintro e wq2 ⟨Aq2, cq2, rfl, hmq2⟩
          clear hmq1
          replace hE := hE.out
          have honeq3 : One [.int .i64 (9), .slice Aq1 (k) cq1, .slice none 0 0, .int .i64 (0), .int .i64 ((k : Int)), .bool false, .int .i64 (9), .slice Aq2 (k + 1) cq2, .slice none 0 0, .int .i64 (0), .int .i64 ((k : Int)), .bool false, .int .i64 (9), .slice none (0) 0, .slice none 0 0, .int .i64 (0), .int .i64 (-(k : Int)), .bool false] := by intro u hu; simp only [List.mem_cons, List.not_mem_nil, or_false] at hu; repeat (first | (rcases hu with rfl | hu; · rfl) | (subst hu; rfl))
          have hflq3 : [(⟨Aq1, cq1, none, 0, ⟨9, nils (k), [], 0, (k : Int), false⟩⟩ : RO), (⟨Aq2, cq2, none, 0, ⟨9, nils (k + 1), [], 0, (k : Int), false⟩⟩ : RO), (⟨none, 0, none, 0, ⟨9, [], [], 0, -(k : Int), false⟩⟩ : RO)].flatMap cRO = [.int .i64 (9), .slice Aq1 (k) cq1, .slice none 0 0, .int .i64 (0), .int .i64 ((k : Int)), .bool false, .int .i64 (9), .slice Aq2 (k + 1) cq2, .slice none 0 0, .int .i64 (0), .int .i64 ((k : Int)), .bool false, .int .i64 (9), .slice none (0) 0, .slice none 0 0, .int .i64 (0), .int .i64 (-(k : Int)), .bool false] := by simp [cRO, obC, nils_len]
          replace honeq3 := Fact.mk honeq3
          replace hflq3 := Fact.mk hflq3
          have hqq3 := fun (W : World) (g : Nat) (h : Mem w0 W (Blk g (.cells [.int .i64 (9), .slice Aq1 (k) cq1, .slice none 0 0, .int .i64 (0), .int .i64 ((k : Int)), .bool false, .int .i64 (9), .slice Aq2 (k + 1) cq2, .slice none 0 0, .int .i64 (0), .int .i64 ((k : Int)), .bool false, .int .i64 (9), .slice none (0) 0, .slice none 0 0, .int .i64 (0), .int .i64 (-(k : Int)), .bool false].toArray 71) :: Own 2 (.slice Aq2 (k + 1) cq2) (fV (nils (k + 1))) :: Own 2 (.slice Aq1 (k) cq1) (fV (nils (k))) :: Own 6 (.slice A (9 + 3 * k) c) (xs.flatMap cRO) :: (xs.map RoC ++ L))) => (h.perm (perm_c fun D x => by simp only [List.map_append, List.map_cons, List.map_nil, List.count_append, List.count_cons, List.count_nil]; omega) : Mem w0 W (Own 6 (.slice A (9 + 3 * k) c) (xs.flatMap cRO) :: Blk g (.cells [.int .i64 (9), .slice Aq1 (k) cq1, .slice none 0 0, .int .i64 (0), .int .i64 ((k : Int)), .bool false, .int .i64 (9), .slice Aq2 (k + 1) cq2, .slice none 0 0, .int .i64 (0), .int .i64 ((k : Int)), .bool false, .int .i64 (9), .slice none (0) 0, .slice none 0 0, .int .i64 (0), .int .i64 (-(k : Int)), .bool false].toArray 71) :: Own 2 (.slice Aq2 (k + 1) cq2) (fV (nils (k + 1))) :: Own 2 (.slice Aq1 (k) cq1) (fV (nils (k))) :: (xs.map RoC ++ L)))
          replace hqq3 := Fact.mk hqq3
          go_wp2_with (at_builtin; refine wp_app rfl _ _ _ rfl 71 iO _ 6 80 ty_Os hiO oz0 oz1 oz2 rfl A (9 + 3 * k) c _ rfl (hqq3.out _ _ (hmq2.alloc _)) _ 3 3 [.int .i64 (9), .slice Aq1 (k) cq1, .slice none 0 0, .int .i64 (0), .int .i64 ((k : Int)), .bool false, .int .i64 (9), .slice Aq2 (k + 1) cq2, .slice none 0 0, .int .i64 (0), .int .i64 ((k : Int)), .bool false, .int .i64 (9), .slice none (0) 0, .slice none 0 0, .int .i64 (0), .int .i64 (-(k : Int)), .bool false] rfl (RdC.lit _ _ _ _ _ rfl (by simp [maxLen]) honeq3.out) (by unfold maxLen; omega) (by omega) ?_; intro Bq3 dq3 wq3 hzq3)
          have hrq3_0 : Mem w0 wq3 (Own 2 (.slice Aq1 (k) cq1) (fV (nils (k))) :: Own 6 (.slice Bq3 (9 + 3 * k + 3) dq3) (xs.flatMap cRO ++ [.int .i64 (9), .slice Aq1 (k) cq1, .slice none 0 0, .int .i64 (0), .int .i64 ((k : Int)), .bool false, .int .i64 (9), .slice Aq2 (k + 1) cq2, .slice none 0 0, .int .i64 (0), .int .i64 ((k : Int)), .bool false, .int .i64 (9), .slice none (0) 0, .slice none 0 0, .int .i64 (0), .int .i64 (-(k : Int)), .bool false]) :: Own 2 (.slice Aq2 (k + 1) cq2) (fV (nils (k + 1))) :: (xs.map RoC ++ L)) := hzq3.drop2.perm (perm_c fun D x => by simp only [List.map_append, List.map_cons, List.map_nil, List.count_append, List.count_cons, List.count_nil]; omega)
          have htq3_0 := roc_items (9) (0) ((k : Int)) false hrq3_0 (nils_len _)
          have hrq3_1 : Mem w0 wq3 (Own 2 (.slice Aq2 (k + 1) cq2) (fV (nils (k + 1))) :: RoC (⟨Aq1, cq1, none, 0, ⟨9, nils (k), [], 0, (k : Int), false⟩⟩ : RO) :: Own 6 (.slice Bq3 (9 + 3 * k + 3) dq3) (xs.flatMap cRO ++ [.int .i64 (9), .slice Aq1 (k) cq1, .slice none 0 0, .int .i64 (0), .int .i64 ((k : Int)), .bool false, .int .i64 (9), .slice Aq2 (k + 1) cq2, .slice none 0 0, .int .i64 (0), .int .i64 ((k : Int)), .bool false, .int .i64 (9), .slice none (0) 0, .slice none 0 0, .int .i64 (0), .int .i64 (-(k : Int)), .bool false]) :: (xs.map RoC ++ L)) := htq3_0.perm (perm_c fun D x => by simp only [List.map_append, List.map_cons, List.map_nil, List.count_append, List.count_cons, List.count_nil]; omega)
          have htq3_1 := roc_items (9) (0) ((k : Int)) false hrq3_1 (nils_len _)
          have htq3_2 := roc_nil (9) (0) (-(k : Int)) false htq3_1
          have hFq3 : Mem w0 wq3 (Own 6 (.slice Bq3 (9 + 3 * k + 3) dq3) ((xs ++ [(⟨Aq1, cq1, none, 0, ⟨9, nils (k), [], 0, (k : Int), false⟩⟩ : RO), (⟨Aq2, cq2, none, 0, ⟨9, nils (k + 1), [], 0, (k : Int), false⟩⟩ : RO), (⟨none, 0, none, 0, ⟨9, [], [], 0, -(k : Int), false⟩⟩ : RO)]).flatMap cRO) :: ((xs ++ [(⟨Aq1, cq1, none, 0, ⟨9, nils (k), [], 0, (k : Int), false⟩⟩ : RO), (⟨Aq2, cq2, none, 0, ⟨9, nils (k + 1), [], 0, (k : Int), false⟩⟩ : RO), (⟨none, 0, none, 0, ⟨9, [], [], 0, -(k : Int), false⟩⟩ : RO)]).map RoC ++ L)) := by
            rw [List.flatMap_append, List.map_append, hflq3.out]
            exact htq3_2.perm (perm_c fun D x => by simp only [List.map_append, List.map_cons, List.map_nil, List.count_append, List.count_cons, List.count_nil]; omega)
          have hEq3 : ∀ x, x ∈ xs ++ [(⟨Aq1, cq1, none, 0, ⟨9, nils (k), [], 0, (k : Int), false⟩⟩ : RO), (⟨Aq2, cq2, none, 0, ⟨9, nils (k + 1), [], 0, (k : Int), false⟩⟩ : RO), (⟨none, 0, none, 0, ⟨9, [], [], 0, -(k : Int), false⟩⟩ : RO)] → EdgOk x := by
            intro x hx
            rcases List.mem_append.1 hx with hx | hx
            · exact hE x hx
            · simp only [List.mem_cons, List.not_mem_nil, or_false] at hx
              rcases hx with rfl | rfl | rfl
              · exact edg_mk _ _ _ _ _ _ _ _ _ _ (.inl ⟨_, rfl, by omega⟩) (by decide)
              · exact edg_mk _ _ _ _ _ _ _ _ _ _ (.inl ⟨_, rfl, by omega⟩) (by decide)
              · exact edg_mk _ _ _ _ _ _ _ _ _ _ (.inr rfl) (by decide)
          clear hmq2
          replace hE := Fact.mk hEq3
          clear hEq3
          go_roundw
          case rel => exact ⟨k + 1, Bq3, dq3, _, by go_num, by omega, by rw [show 9 + 3 * (k + 1) = 9 + 3 * k + 3 by omega], hE, by rw [show 9 + 3 * (k + 1) = 9 + 3 * k + 3 by omega]; exact hFq3⟩
          case measure => first | exact measP_lt hlt | exact measN_lt hlt wrapk
        · have hlen : Fact (9 + 3 * k = 210 + 11 * 0) := ⟨by omega⟩
          go_wp2
          rw [hlen.out] at hmr ⊢
          clear hlt hk hlen
          go_loopw [1, 4] (fun s1 s4 w' => ∃ (k : Nat) (A : Option Addr) (c : Nat) (xs : List RO), s4 = .int .i64 (-1 + (k : Int)) ∧ k ≤ 13 ∧ s1 = .slice A (210 + 11 * k) c ∧ Fact (∀ x, x ∈ xs → EdgOk x) ∧ Mem w0 w' (Own 6 (.slice A (210 + 11 * k) c) (xs.flatMap cRO) :: (xs.map RoC ++ L))) (fun _ s4 _ => 13 - (intOf s4 + 1).toNat)
          case atStart => exact ⟨0, A, c, xs, rfl, by omega, rfl, hE, hmr⟩
          case round =>
            clear hmr
            obtain ⟨k, A, c, xs, rfl, hk, rfl, hE, hmr⟩ := hrel
            by_cases hlt : k < 13
            · have wrapk : wrap64 (-1 + (k : Int) + 1) = -1 + (k : Int) + 1 := IntWalk.wrap64_in _ (by omega)
              replace hE := hE.out
              have honeu1 : One [.int .i64 (-1 + (k : Int)), .slice none (0) 0, .slice none 0 0, .int .i64 (0), .int .i64 (0), .bool false, .int .i64 (-1 + (k : Int)), .slice none (0) 0, .slice none 0 0, .int .i64 (1), .int .i64 (0), .bool false, .int .i64 (-1 + (k : Int)), .slice none (0) 0, .slice none 0 0, .int .i64 (-1), .int .i64 (0), .bool false, .int .i64 (-1 + (k : Int)), .slice none (0) 0, .slice none 0 0, .int .i64 (0), .int .i64 (1), .bool false, .int .i64 (-1 + (k : Int)), .slice none (0) 0, .slice none 0 0, .int .i64 (0), .int .i64 (0), .bool true, .int .i64 (-1 + (k : Int)), .slice none (0) 0, .slice none 0 0, .int .i64 (0), .int .i64 (1), .bool true, .int .i64 (-1 + (k : Int)), .slice none (0) 0, .slice none 0 0, .int .i64 (1), .int .i64 (1), .bool false] := by intro u hu; simp only [List.mem_cons, List.not_mem_nil, or_false] at hu; repeat (first | (rcases hu with rfl | hu; · rfl) | (subst hu; rfl))
              have hflu1 : [(⟨none, 0, none, 0, ⟨-1 + (k : Int), [], [], 0, 0, false⟩⟩ : RO), (⟨none, 0, none, 0, ⟨-1 + (k : Int), [], [], 1, 0, false⟩⟩ : RO), (⟨none, 0, none, 0, ⟨-1 + (k : Int), [], [], -1, 0, false⟩⟩ : RO), (⟨none, 0, none, 0, ⟨-1 + (k : Int), [], [], 0, 1, false⟩⟩ : RO), (⟨none, 0, none, 0, ⟨-1 + (k : Int), [], [], 0, 0, true⟩⟩ : RO), (⟨none, 0, none, 0, ⟨-1 + (k : Int), [], [], 0, 1, true⟩⟩ : RO), (⟨none, 0, none, 0, ⟨-1 + (k : Int), [], [], 1, 1, false⟩⟩ : RO)].flatMap cRO = [.int .i64 (-1 + (k : Int)), .slice none (0) 0, .slice none 0 0, .int .i64 (0), .int .i64 (0), .bool false, .int .i64 (-1 + (k : Int)), .slice none (0) 0, .slice none 0 0, .int .i64 (1), .int .i64 (0), .bool false, .int .i64 (-1 + (k : Int)), .slice none (0) 0, .slice none 0 0, .int .i64 (-1), .int .i64 (0), .bool false, .int .i64 (-1 + (k : Int)), .slice none (0) 0, .slice none 0 0, .int .i64 (0), .int .i64 (1), .bool false, .int .i64 (-1 + (k : Int)), .slice none (0) 0, .slice none 0 0, .int .i64 (0), .int .i64 (0), .bool true, .int .i64 (-1 + (k : Int)), .slice none (0) 0, .slice none 0 0, .int .i64 (0), .int .i64 (1), .bool true, .int .i64 (-1 + (k : Int)), .slice none (0) 0, .slice none 0 0, .int .i64 (1), .int .i64 (1), .bool false] := by simp [cRO, obC, nils_len]
              replace honeu1 := Fact.mk honeu1
              replace hflu1 := Fact.mk hflu1
              have hqu1 := fun (W : World) (g : Nat) (h : Mem w0 W (Blk g (.cells [.int .i64 (-1 + (k : Int)), .slice none (0) 0, .slice none 0 0, .int .i64 (0), .int .i64 (0), .bool false, .int .i64 (-1 + (k : Int)), .slice none (0) 0, .slice none 0 0, .int .i64 (1), .int .i64 (0), .bool false, .int .i64 (-1 + (k : Int)), .slice none (0) 0, .slice none 0 0, .int .i64 (-1), .int .i64 (0), .bool false, .int .i64 (-1 + (k : Int)), .slice none (0) 0, .slice none 0 0, .int .i64 (0), .int .i64 (1), .bool false, .int .i64 (-1 + (k : Int)), .slice none (0) 0, .slice none 0 0, .int .i64 (0), .int .i64 (0), .bool true, .int .i64 (-1 + (k : Int)), .slice none (0) 0, .slice none 0 0, .int .i64 (0), .int .i64 (1), .bool true, .int .i64 (-1 + (k : Int)), .slice none (0) 0, .slice none 0 0, .int .i64 (1), .int .i64 (1), .bool false].toArray 71) :: Own 6 (.slice A (210 + 11 * k) c) (xs.flatMap cRO) :: (xs.map RoC ++ L))) => (h.perm (perm_c fun D x => by simp only [List.map_append, List.map_cons, List.map_nil, List.count_append, List.count_cons, List.count_nil]; omega) : Mem w0 W (Own 6 (.slice A (210 + 11 * k) c) (xs.flatMap cRO) :: Blk g (.cells [.int .i64 (-1 + (k : Int)), .slice none (0) 0, .slice none 0 0, .int .i64 (0), .int .i64 (0), .bool false, .int .i64 (-1 + (k : Int)), .slice none (0) 0, .slice none 0 0, .int .i64 (1), .int .i64 (0), .bool false, .int .i64 (-1 + (k : Int)), .slice none (0) 0, .slice none 0 0, .int .i64 (-1), .int .i64 (0), .bool false, .int .i64 (-1 + (k : Int)), .slice none (0) 0, .slice none 0 0, .int .i64 (0), .int .i64 (1), .bool false, .int .i64 (-1 + (k : Int)), .slice none (0) 0, .slice none 0 0, .int .i64 (0), .int .i64 (0), .bool true, .int .i64 (-1 + (k : Int)), .slice none (0) 0, .slice none 0 0, .int .i64 (0), .int .i64 (1), .bool true, .int .i64 (-1 + (k : Int)), .slice none (0) 0, .slice none 0 0, .int .i64 (1), .int .i64 (1), .bool false].toArray 71) :: (xs.map RoC ++ L)))
              replace hqu1 := Fact.mk hqu1
              go_wp2_with (at_builtin; refine wp_app rfl _ _ _ rfl 71 iO _ 6 80 ty_Os hiO oz0 oz1 oz2 rfl A (210 + 11 * k) c _ rfl (hqu1.out _ _ (hmr.alloc _)) _ 7 7 [.int .i64 (-1 + (k : Int)), .slice none (0) 0, .slice none 0 0, .int .i64 (0), .int .i64 (0), .bool false, .int .i64 (-1 + (k : Int)), .slice none (0) 0, .slice none 0 0, .int .i64 (1), .int .i64 (0), .bool false, .int .i64 (-1 + (k : Int)), .slice none (0) 0, .slice none 0 0, .int .i64 (-1), .int .i64 (0), .bool false, .int .i64 (-1 + (k : Int)), .slice none (0) 0, .slice none 0 0, .int .i64 (0), .int .i64 (1), .bool false, .int .i64 (-1 + (k : Int)), .slice none (0) 0, .slice none 0 0, .int .i64 (0), .int .i64 (0), .bool true, .int .i64 (-1 + (k : Int)), .slice none (0) 0, .slice none 0 0, .int .i64 (0), .int .i64 (1), .bool true, .int .i64 (-1 + (k : Int)), .slice none (0) 0, .slice none 0 0, .int .i64 (1), .int .i64 (1), .bool false] rfl (RdC.lit _ _ _ _ _ rfl (by simp [maxLen]) honeu1.out) (by unfold maxLen; omega) (by omega) ?_; intro Bu1 du1 wu1 hzu1)
              have htu1_0 := roc_nil (-1 + (k : Int)) (0) (0) false hzu1.drop2
              have htu1_1 := roc_nil (-1 + (k : Int)) (1) (0) false htu1_0
              have htu1_2 := roc_nil (-1 + (k : Int)) (-1) (0) false htu1_1
              have htu1_3 := roc_nil (-1 + (k : Int)) (0) (1) false htu1_2
              have htu1_4 := roc_nil (-1 + (k : Int)) (0) (0) true htu1_3
              have htu1_5 := roc_nil (-1 + (k : Int)) (0) (1) true htu1_4
              have htu1_6 := roc_nil (-1 + (k : Int)) (1) (1) false htu1_5
              have hFu1 : Mem w0 wu1 (Own 6 (.slice Bu1 (210 + 11 * k + 7) du1) ((xs ++ [(⟨none, 0, none, 0, ⟨-1 + (k : Int), [], [], 0, 0, false⟩⟩ : RO), (⟨none, 0, none, 0, ⟨-1 + (k : Int), [], [], 1, 0, false⟩⟩ : RO), (⟨none, 0, none, 0, ⟨-1 + (k : Int), [], [], -1, 0, false⟩⟩ : RO), (⟨none, 0, none, 0, ⟨-1 + (k : Int), [], [], 0, 1, false⟩⟩ : RO), (⟨none, 0, none, 0, ⟨-1 + (k : Int), [], [], 0, 0, true⟩⟩ : RO), (⟨none, 0, none, 0, ⟨-1 + (k : Int), [], [], 0, 1, true⟩⟩ : RO), (⟨none, 0, none, 0, ⟨-1 + (k : Int), [], [], 1, 1, false⟩⟩ : RO)]).flatMap cRO) :: ((xs ++ [(⟨none, 0, none, 0, ⟨-1 + (k : Int), [], [], 0, 0, false⟩⟩ : RO), (⟨none, 0, none, 0, ⟨-1 + (k : Int), [], [], 1, 0, false⟩⟩ : RO), (⟨none, 0, none, 0, ⟨-1 + (k : Int), [], [], -1, 0, false⟩⟩ : RO), (⟨none, 0, none, 0, ⟨-1 + (k : Int), [], [], 0, 1, false⟩⟩ : RO), (⟨none, 0, none, 0, ⟨-1 + (k : Int), [], [], 0, 0, true⟩⟩ : RO), (⟨none, 0, none, 0, ⟨-1 + (k : Int), [], [], 0, 1, true⟩⟩ : RO), (⟨none, 0, none, 0, ⟨-1 + (k : Int), [], [], 1, 1, false⟩⟩ : RO)]).map RoC ++ L)) := by
                rw [List.flatMap_append, List.map_append, hflu1.out]
                exact htu1_6.perm (perm_c fun D x => by simp only [List.map_append, List.map_cons, List.map_nil, List.count_append, List.count_cons, List.count_nil]; omega)
              have hEu1 : ∀ x, x ∈ xs ++ [(⟨none, 0, none, 0, ⟨-1 + (k : Int), [], [], 0, 0, false⟩⟩ : RO), (⟨none, 0, none, 0, ⟨-1 + (k : Int), [], [], 1, 0, false⟩⟩ : RO), (⟨none, 0, none, 0, ⟨-1 + (k : Int), [], [], -1, 0, false⟩⟩ : RO), (⟨none, 0, none, 0, ⟨-1 + (k : Int), [], [], 0, 1, false⟩⟩ : RO), (⟨none, 0, none, 0, ⟨-1 + (k : Int), [], [], 0, 0, true⟩⟩ : RO), (⟨none, 0, none, 0, ⟨-1 + (k : Int), [], [], 0, 1, true⟩⟩ : RO), (⟨none, 0, none, 0, ⟨-1 + (k : Int), [], [], 1, 1, false⟩⟩ : RO)] → EdgOk x := by
                intro x hx
                rcases List.mem_append.1 hx with hx | hx
                · exact hE x hx
                · simp only [List.mem_cons, List.not_mem_nil, or_false] at hx
                  rcases hx with rfl | rfl | rfl | rfl | rfl | rfl | rfl
                  · exact edg_mk _ _ _ _ _ _ _ _ _ _ (.inr rfl) (by decide)
                  · exact edg_mk _ _ _ _ _ _ _ _ _ _ (.inr rfl) (by decide)
                  · exact edg_mk _ _ _ _ _ _ _ _ _ _ (.inr rfl) (by decide)
                  · exact edg_mk _ _ _ _ _ _ _ _ _ _ (.inr rfl) (by decide)
                  · exact edg_mk _ _ _ _ _ _ _ _ _ _ (.inr rfl) (by decide)
                  · exact edg_mk _ _ _ _ _ _ _ _ _ _ (.inr rfl) (by decide)
                  · exact edg_mk _ _ _ _ _ _ _ _ _ _ (.inr rfl) (by decide)
              clear hmr
              replace hE := Fact.mk hEu1
              clear hEu1
              obtain ⟨ys, hys⟩ : ∃ ys, ys = xs ++ [(⟨none, 0, none, 0, ⟨-1 + (k : Int), [], [], 0, 0, false⟩⟩ : RO), (⟨none, 0, none, 0, ⟨-1 + (k : Int), [], [], 1, 0, false⟩⟩ : RO), (⟨none, 0, none, 0, ⟨-1 + (k : Int), [], [], -1, 0, false⟩⟩ : RO), (⟨none, 0, none, 0, ⟨-1 + (k : Int), [], [], 0, 1, false⟩⟩ : RO), (⟨none, 0, none, 0, ⟨-1 + (k : Int), [], [], 0, 0, true⟩⟩ : RO), (⟨none, 0, none, 0, ⟨-1 + (k : Int), [], [], 0, 1, true⟩⟩ : RO), (⟨none, 0, none, 0, ⟨-1 + (k : Int), [], [], 1, 1, false⟩⟩ : RO)] := ⟨_, rfl⟩
              rw [← hys] at hFu1 hE
              clear hys
              go_wp2_with fail
              have hmv1 := (hFu1.alloc (.cells [.int .i64 0].toArray 2))
              generalize hgb : wu1.heap.size = gv1 at hmv1 ⊢
              generalize hw1 : (wu1.alloc (.cells [.int .i64 0].toArray 2)) = wv1 at hmv1 ⊢
              clear hw1 hgb hFu1
              replace hmv1 := hmv1.blk_own (n := 1) (size := 1) (cs := nums .i64 [0]) rfl (by unfold maxLen; omega) (One.nums _ _)
              go_wp2_with fail
              refine (many_ok w0 wv1 _ hmv1 (1) (by omega) (1) (by omega)).mono ?_
              rintro e wv2 ⟨Av2, cv2, rfl, hmv2⟩
              clear hmv1
              go_wp2_with fail
              have hmv3 := ((hmv2.alloc (.cells [.int .i64 0].toArray 2)).alloc (.cells [.int .i64 0].toArray 2))
              simp only [World.size_alloc] at hmv3
              generalize hgb : wv2.heap.size = gv3 at hmv3 ⊢
              generalize hw1 : ((wv2.alloc (.cells [.int .i64 0].toArray 2)).alloc (.cells [.int .i64 0].toArray 2)) = wv3 at hmv3 ⊢
              clear hw1 hgb hmv2
              replace hmv3 := hmv3.blk_own (n := 1) (size := 1) (cs := nums .i64 [0]) rfl (by unfold maxLen; omega) (One.nums _ _)
              replace hmv3 := hmv3.swap.blk_own (n := 1) (size := 1) (cs := nums .i64 [0]) rfl (by unfold maxLen; omega) (One.nums _ _)
              go_wp2_with fail
              refine (many_ok w0 wv3 _ hmv3 (1) (by omega) (1) (by omega)).mono ?_
              rintro e wv4 ⟨Av4, cv4, rfl, hmv4⟩
              clear hmv3
              replace hE := hE.out
              have honev5 : One [.int .i64 (-1 + (k : Int)), .slice none (0) 0, .slice (some ⟨gv1, 0, none⟩) 1 1, .int .i64 (0), .int .i64 (0), .bool false, .int .i64 (-1 + (k : Int)), .slice Av2 (1) cv2, .slice none 0 0, .int .i64 (0), .int .i64 (0), .bool false, .int .i64 (-1 + (k : Int)), .slice none (0) 0, .slice (some ⟨gv3, 0, none⟩) 1 1, .int .i64 (0), .int .i64 (1), .bool false, .int .i64 (-1 + (k : Int)), .slice Av4 (1) cv4, .slice (some ⟨(gv3 + 1), 0, none⟩) 1 1, .int .i64 (0), .int .i64 (0), .bool false] := by intro u hu; simp only [List.mem_cons, List.not_mem_nil, or_false] at hu; repeat (first | (rcases hu with rfl | hu; · rfl) | (subst hu; rfl))
              have hflv5 : [(⟨none, 0, (some ⟨gv1, 0, none⟩), 1, ⟨-1 + (k : Int), [], [0], 0, 0, false⟩⟩ : RO), (⟨Av2, cv2, none, 0, ⟨-1 + (k : Int), nils (1), [], 0, 0, false⟩⟩ : RO), (⟨none, 0, (some ⟨gv3, 0, none⟩), 1, ⟨-1 + (k : Int), [], [0], 0, 1, false⟩⟩ : RO), (⟨Av4, cv4, (some ⟨(gv3 + 1), 0, none⟩), 1, ⟨-1 + (k : Int), nils (1), [0], 0, 0, false⟩⟩ : RO)].flatMap cRO = [.int .i64 (-1 + (k : Int)), .slice none (0) 0, .slice (some ⟨gv1, 0, none⟩) 1 1, .int .i64 (0), .int .i64 (0), .bool false, .int .i64 (-1 + (k : Int)), .slice Av2 (1) cv2, .slice none 0 0, .int .i64 (0), .int .i64 (0), .bool false, .int .i64 (-1 + (k : Int)), .slice none (0) 0, .slice (some ⟨gv3, 0, none⟩) 1 1, .int .i64 (0), .int .i64 (1), .bool false, .int .i64 (-1 + (k : Int)), .slice Av4 (1) cv4, .slice (some ⟨(gv3 + 1), 0, none⟩) 1 1, .int .i64 (0), .int .i64 (0), .bool false] := by simp [cRO, obC, nils_len]
              replace honev5 := Fact.mk honev5
              replace hflv5 := Fact.mk hflv5
              have hqv5 := fun (W : World) (g : Nat) (h : Mem w0 W (Blk g (.cells [.int .i64 (-1 + (k : Int)), .slice none (0) 0, .slice (some ⟨gv1, 0, none⟩) 1 1, .int .i64 (0), .int .i64 (0), .bool false, .int .i64 (-1 + (k : Int)), .slice Av2 (1) cv2, .slice none 0 0, .int .i64 (0), .int .i64 (0), .bool false, .int .i64 (-1 + (k : Int)), .slice none (0) 0, .slice (some ⟨gv3, 0, none⟩) 1 1, .int .i64 (0), .int .i64 (1), .bool false, .int .i64 (-1 + (k : Int)), .slice Av4 (1) cv4, .slice (some ⟨(gv3 + 1), 0, none⟩) 1 1, .int .i64 (0), .int .i64 (0), .bool false].toArray 71) :: Own 2 (.slice Av4 (1) cv4) (fV (nils (1))) :: Own 1 (.slice (some ⟨gv3, 0, none⟩) 1 1) (nums .i64 [0]) :: Own 1 (.slice (some ⟨(gv3 + 1), 0, none⟩) 1 1) (nums .i64 [0]) :: Own 2 (.slice Av2 (1) cv2) (fV (nils (1))) :: Own 1 (.slice (some ⟨gv1, 0, none⟩) 1 1) (nums .i64 [0]) :: Own 6 (.slice Bu1 (210 + 11 * k + 7) du1) (ys.flatMap cRO) :: (ys.map RoC ++ L))) => (h.perm (perm_c fun D x => by simp only [List.map_append, List.map_cons, List.map_nil, List.count_append, List.count_cons, List.count_nil]; omega) : Mem w0 W (Own 6 (.slice Bu1 (210 + 11 * k + 7) du1) (ys.flatMap cRO) :: Blk g (.cells [.int .i64 (-1 + (k : Int)), .slice none (0) 0, .slice (some ⟨gv1, 0, none⟩) 1 1, .int .i64 (0), .int .i64 (0), .bool false, .int .i64 (-1 + (k : Int)), .slice Av2 (1) cv2, .slice none 0 0, .int .i64 (0), .int .i64 (0), .bool false, .int .i64 (-1 + (k : Int)), .slice none (0) 0, .slice (some ⟨gv3, 0, none⟩) 1 1, .int .i64 (0), .int .i64 (1), .bool false, .int .i64 (-1 + (k : Int)), .slice Av4 (1) cv4, .slice (some ⟨(gv3 + 1), 0, none⟩) 1 1, .int .i64 (0), .int .i64 (0), .bool false].toArray 71) :: Own 2 (.slice Av4 (1) cv4) (fV (nils (1))) :: Own 1 (.slice (some ⟨gv3, 0, none⟩) 1 1) (nums .i64 [0]) :: Own 1 (.slice (some ⟨(gv3 + 1), 0, none⟩) 1 1) (nums .i64 [0]) :: Own 2 (.slice Av2 (1) cv2) (fV (nils (1))) :: Own 1 (.slice (some ⟨gv1, 0, none⟩) 1 1) (nums .i64 [0]) :: (ys.map RoC ++ L)))
              replace hqv5 := Fact.mk hqv5
              go_wp2_with (at_builtin; refine wp_app rfl _ _ _ rfl 71 iO _ 6 80 ty_Os hiO oz0 oz1 oz2 rfl Bu1 (210 + 11 * k + 7) du1 _ rfl (hqv5.out _ _ (hmv4.alloc _)) _ 4 4 [.int .i64 (-1 + (k : Int)), .slice none (0) 0, .slice (some ⟨gv1, 0, none⟩) 1 1, .int .i64 (0), .int .i64 (0), .bool false, .int .i64 (-1 + (k : Int)), .slice Av2 (1) cv2, .slice none 0 0, .int .i64 (0), .int .i64 (0), .bool false, .int .i64 (-1 + (k : Int)), .slice none (0) 0, .slice (some ⟨gv3, 0, none⟩) 1 1, .int .i64 (0), .int .i64 (1), .bool false, .int .i64 (-1 + (k : Int)), .slice Av4 (1) cv4, .slice (some ⟨(gv3 + 1), 0, none⟩) 1 1, .int .i64 (0), .int .i64 (0), .bool false] rfl (RdC.lit _ _ _ _ _ rfl (by simp [maxLen]) honev5.out) (by unfold maxLen; omega) (by omega) ?_; intro Bv5 dv5 wv5 hzv5)
              have hrv5_0 : Mem w0 wv5 (Own 1 (.slice (some ⟨gv1, 0, none⟩) 1 1) (nums .i64 [0]) :: Own 6 (.slice Bv5 (210 + 11 * k + 7 + 4) dv5) (ys.flatMap cRO ++ [.int .i64 (-1 + (k : Int)), .slice none (0) 0, .slice (some ⟨gv1, 0, none⟩) 1 1, .int .i64 (0), .int .i64 (0), .bool false, .int .i64 (-1 + (k : Int)), .slice Av2 (1) cv2, .slice none 0 0, .int .i64 (0), .int .i64 (0), .bool false, .int .i64 (-1 + (k : Int)), .slice none (0) 0, .slice (some ⟨gv3, 0, none⟩) 1 1, .int .i64 (0), .int .i64 (1), .bool false, .int .i64 (-1 + (k : Int)), .slice Av4 (1) cv4, .slice (some ⟨(gv3 + 1), 0, none⟩) 1 1, .int .i64 (0), .int .i64 (0), .bool false]) :: Own 2 (.slice Av4 (1) cv4) (fV (nils (1))) :: Own 1 (.slice (some ⟨gv3, 0, none⟩) 1 1) (nums .i64 [0]) :: Own 1 (.slice (some ⟨(gv3 + 1), 0, none⟩) 1 1) (nums .i64 [0]) :: Own 2 (.slice Av2 (1) cv2) (fV (nils (1))) :: (ys.map RoC ++ L)) := hzv5.drop2.perm (perm_c fun D x => by simp only [List.map_append, List.map_cons, List.map_nil, List.count_append, List.count_cons, List.count_nil]; omega)
              have htv5_0 := roc_keys (-1 + (k : Int)) (0) (0) false hrv5_0 rfl
              have hrv5_1 : Mem w0 wv5 (Own 2 (.slice Av2 (1) cv2) (fV (nils (1))) :: RoC (⟨none, 0, (some ⟨gv1, 0, none⟩), 1, ⟨-1 + (k : Int), [], [0], 0, 0, false⟩⟩ : RO) :: Own 6 (.slice Bv5 (210 + 11 * k + 7 + 4) dv5) (ys.flatMap cRO ++ [.int .i64 (-1 + (k : Int)), .slice none (0) 0, .slice (some ⟨gv1, 0, none⟩) 1 1, .int .i64 (0), .int .i64 (0), .bool false, .int .i64 (-1 + (k : Int)), .slice Av2 (1) cv2, .slice none 0 0, .int .i64 (0), .int .i64 (0), .bool false, .int .i64 (-1 + (k : Int)), .slice none (0) 0, .slice (some ⟨gv3, 0, none⟩) 1 1, .int .i64 (0), .int .i64 (1), .bool false, .int .i64 (-1 + (k : Int)), .slice Av4 (1) cv4, .slice (some ⟨(gv3 + 1), 0, none⟩) 1 1, .int .i64 (0), .int .i64 (0), .bool false]) :: Own 2 (.slice Av4 (1) cv4) (fV (nils (1))) :: Own 1 (.slice (some ⟨gv3, 0, none⟩) 1 1) (nums .i64 [0]) :: Own 1 (.slice (some ⟨(gv3 + 1), 0, none⟩) 1 1) (nums .i64 [0]) :: (ys.map RoC ++ L)) := htv5_0.perm (perm_c fun D x => by simp only [List.map_append, List.map_cons, List.map_nil, List.count_append, List.count_cons, List.count_nil]; omega)
              have htv5_1 := roc_items (-1 + (k : Int)) (0) (0) false hrv5_1 (nils_len _)
              have hrv5_2 : Mem w0 wv5 (Own 1 (.slice (some ⟨gv3, 0, none⟩) 1 1) (nums .i64 [0]) :: RoC (⟨Av2, cv2, none, 0, ⟨-1 + (k : Int), nils (1), [], 0, 0, false⟩⟩ : RO) :: RoC (⟨none, 0, (some ⟨gv1, 0, none⟩), 1, ⟨-1 + (k : Int), [], [0], 0, 0, false⟩⟩ : RO) :: Own 6 (.slice Bv5 (210 + 11 * k + 7 + 4) dv5) (ys.flatMap cRO ++ [.int .i64 (-1 + (k : Int)), .slice none (0) 0, .slice (some ⟨gv1, 0, none⟩) 1 1, .int .i64 (0), .int .i64 (0), .bool false, .int .i64 (-1 + (k : Int)), .slice Av2 (1) cv2, .slice none 0 0, .int .i64 (0), .int .i64 (0), .bool false, .int .i64 (-1 + (k : Int)), .slice none (0) 0, .slice (some ⟨gv3, 0, none⟩) 1 1, .int .i64 (0), .int .i64 (1), .bool false, .int .i64 (-1 + (k : Int)), .slice Av4 (1) cv4, .slice (some ⟨(gv3 + 1), 0, none⟩) 1 1, .int .i64 (0), .int .i64 (0), .bool false]) :: Own 2 (.slice Av4 (1) cv4) (fV (nils (1))) :: Own 1 (.slice (some ⟨(gv3 + 1), 0, none⟩) 1 1) (nums .i64 [0]) :: (ys.map RoC ++ L)) := htv5_1.perm (perm_c fun D x => by simp only [List.map_append, List.map_cons, List.map_nil, List.count_append, List.count_cons, List.count_nil]; omega)
              have htv5_2 := roc_keys (-1 + (k : Int)) (0) (1) false hrv5_2 rfl
              have hrv5_3 : Mem w0 wv5 (Own 2 (.slice Av4 (1) cv4) (fV (nils (1))) :: Own 1 (.slice (some ⟨(gv3 + 1), 0, none⟩) 1 1) (nums .i64 [0]) :: RoC (⟨none, 0, (some ⟨gv3, 0, none⟩), 1, ⟨-1 + (k : Int), [], [0], 0, 1, false⟩⟩ : RO) :: RoC (⟨Av2, cv2, none, 0, ⟨-1 + (k : Int), nils (1), [], 0, 0, false⟩⟩ : RO) :: RoC (⟨none, 0, (some ⟨gv1, 0, none⟩), 1, ⟨-1 + (k : Int), [], [0], 0, 0, false⟩⟩ : RO) :: Own 6 (.slice Bv5 (210 + 11 * k + 7 + 4) dv5) (ys.flatMap cRO ++ [.int .i64 (-1 + (k : Int)), .slice none (0) 0, .slice (some ⟨gv1, 0, none⟩) 1 1, .int .i64 (0), .int .i64 (0), .bool false, .int .i64 (-1 + (k : Int)), .slice Av2 (1) cv2, .slice none 0 0, .int .i64 (0), .int .i64 (0), .bool false, .int .i64 (-1 + (k : Int)), .slice none (0) 0, .slice (some ⟨gv3, 0, none⟩) 1 1, .int .i64 (0), .int .i64 (1), .bool false, .int .i64 (-1 + (k : Int)), .slice Av4 (1) cv4, .slice (some ⟨(gv3 + 1), 0, none⟩) 1 1, .int .i64 (0), .int .i64 (0), .bool false]) :: (ys.map RoC ++ L)) := htv5_2.perm (perm_c fun D x => by simp only [List.map_append, List.map_cons, List.map_nil, List.count_append, List.count_cons, List.count_nil]; omega)
              have htv5_3 := roc_both (-1 + (k : Int)) (0) (0) false hrv5_3 (nils_len _) rfl
              have hFv5 : Mem w0 wv5 (Own 6 (.slice Bv5 (210 + 11 * k + 7 + 4) dv5) ((ys ++ [(⟨none, 0, (some ⟨gv1, 0, none⟩), 1, ⟨-1 + (k : Int), [], [0], 0, 0, false⟩⟩ : RO), (⟨Av2, cv2, none, 0, ⟨-1 + (k : Int), nils (1), [], 0, 0, false⟩⟩ : RO), (⟨none, 0, (some ⟨gv3, 0, none⟩), 1, ⟨-1 + (k : Int), [], [0], 0, 1, false⟩⟩ : RO), (⟨Av4, cv4, (some ⟨(gv3 + 1), 0, none⟩), 1, ⟨-1 + (k : Int), nils (1), [0], 0, 0, false⟩⟩ : RO)]).flatMap cRO) :: ((ys ++ [(⟨none, 0, (some ⟨gv1, 0, none⟩), 1, ⟨-1 + (k : Int), [], [0], 0, 0, false⟩⟩ : RO), (⟨Av2, cv2, none, 0, ⟨-1 + (k : Int), nils (1), [], 0, 0, false⟩⟩ : RO), (⟨none, 0, (some ⟨gv3, 0, none⟩), 1, ⟨-1 + (k : Int), [], [0], 0, 1, false⟩⟩ : RO), (⟨Av4, cv4, (some ⟨(gv3 + 1), 0, none⟩), 1, ⟨-1 + (k : Int), nils (1), [0], 0, 0, false⟩⟩ : RO)]).map RoC ++ L)) := by
                rw [List.flatMap_append, List.map_append, hflv5.out]
                exact htv5_3.perm (perm_c fun D x => by simp only [List.map_append, List.map_cons, List.map_nil, List.count_append, List.count_cons, List.count_nil]; omega)
              have hEv5 : ∀ x, x ∈ ys ++ [(⟨none, 0, (some ⟨gv1, 0, none⟩), 1, ⟨-1 + (k : Int), [], [0], 0, 0, false⟩⟩ : RO), (⟨Av2, cv2, none, 0, ⟨-1 + (k : Int), nils (1), [], 0, 0, false⟩⟩ : RO), (⟨none, 0, (some ⟨gv3, 0, none⟩), 1, ⟨-1 + (k : Int), [], [0], 0, 1, false⟩⟩ : RO), (⟨Av4, cv4, (some ⟨(gv3 + 1), 0, none⟩), 1, ⟨-1 + (k : Int), nils (1), [0], 0, 0, false⟩⟩ : RO)] → EdgOk x := by
                intro x hx
                rcases List.mem_append.1 hx with hx | hx
                · exact hE x hx
                · simp only [List.mem_cons, List.not_mem_nil, or_false] at hx
                  rcases hx with rfl | rfl | rfl | rfl
                  · exact edg_mk _ _ _ _ _ _ _ _ _ _ (.inr rfl) (by decide)
                  · exact edg_mk _ _ _ _ _ _ _ _ _ _ (.inl ⟨_, rfl, by omega⟩) (by decide)
                  · exact edg_mk _ _ _ _ _ _ _ _ _ _ (.inr rfl) (by decide)
                  · exact edg_mk _ _ _ _ _ _ _ _ _ _ (.inl ⟨_, rfl, by omega⟩) (by decide)
              clear hmv4
              replace hE := Fact.mk hEv5
              clear hEv5
              go_roundw
              case rel => exact ⟨k + 1, Bv5, dv5, _, by go_num, by omega, by rw [show 210 + 11 * (k + 1) = 210 + 11 * k + 7 + 4 by omega], hE, by rw [show 210 + 11 * (k + 1) = 210 + 11 * k + 7 + 4 by omega]; exact hFv5⟩
              case measure => simp [intOf, wrapk]; omega
            · have hk13 : Fact (k = 13) := ⟨by omega⟩
              go_wp2_with fail
              have hmy1 := (hmr.alloc (.cells [.int .i64 (-1)].toArray 2))
              generalize hgb : wr.heap.size = gy1 at hmy1 ⊢
              generalize hw1 : (wr.alloc (.cells [.int .i64 (-1)].toArray 2)) = wy1 at hmy1 ⊢
              clear hw1 hgb
              replace hmy1 := hmy1.blk_own (n := 1) (size := 1) (cs := nums .i64 [-1]) rfl (by unfold maxLen; omega) (One.nums _ _)
              go_wp2_with fail
              refine (many_ok w0 wy1 _ hmy1 (1) (by omega) (1) (by omega)).mono ?_
              rintro e wy2 ⟨Ay2, cy2, rfl, hmy2⟩
              clear hmy1
              go_wp2_with fail
              have hmy3 := (hmy2.alloc (.cells [.int .i64 9223372036854775807].toArray 2))
              generalize hgb : wy2.heap.size = gy3 at hmy3 ⊢
              generalize hw1 : (wy2.alloc (.cells [.int .i64 9223372036854775807].toArray 2)) = wy3 at hmy3 ⊢
              clear hw1 hgb hmy2
              replace hmy3 := hmy3.blk_own (n := 1) (size := 1) (cs := nums .i64 [9223372036854775807]) rfl (by unfold maxLen; omega) (One.nums _ _)
              go_wp2_with fail
              refine (many_ok w0 wy3 _ hmy3 (1) (by omega) (1) (by omega)).mono ?_
              rintro e wy4 ⟨Ay4, cy4, rfl, hmy4⟩
              clear hmy3
              replace hE := hE.out
              have honey5 : One [.int .i64 (7), .slice Ay2 (1) cy2, .slice (some ⟨gy1, 0, none⟩) 1 1, .int .i64 (0), .int .i64 (0), .bool false, .int .i64 (7), .slice Ay4 (1) cy4, .slice (some ⟨gy3, 0, none⟩) 1 1, .int .i64 (0), .int .i64 (0), .bool false] := by intro u hu; simp only [List.mem_cons, List.not_mem_nil, or_false] at hu; repeat (first | (rcases hu with rfl | hu; · rfl) | (subst hu; rfl))
              have hfly5 : [(⟨Ay2, cy2, (some ⟨gy1, 0, none⟩), 1, ⟨7, nils (1), [-1], 0, 0, false⟩⟩ : RO), (⟨Ay4, cy4, (some ⟨gy3, 0, none⟩), 1, ⟨7, nils (1), [9223372036854775807], 0, 0, false⟩⟩ : RO)].flatMap cRO = [.int .i64 (7), .slice Ay2 (1) cy2, .slice (some ⟨gy1, 0, none⟩) 1 1, .int .i64 (0), .int .i64 (0), .bool false, .int .i64 (7), .slice Ay4 (1) cy4, .slice (some ⟨gy3, 0, none⟩) 1 1, .int .i64 (0), .int .i64 (0), .bool false] := by simp [cRO, obC, nils_len]
              replace honey5 := Fact.mk honey5
              replace hfly5 := Fact.mk hfly5
              have hqy5 := fun (W : World) (g : Nat) (h : Mem w0 W (Blk g (.cells [.int .i64 (7), .slice Ay2 (1) cy2, .slice (some ⟨gy1, 0, none⟩) 1 1, .int .i64 (0), .int .i64 (0), .bool false, .int .i64 (7), .slice Ay4 (1) cy4, .slice (some ⟨gy3, 0, none⟩) 1 1, .int .i64 (0), .int .i64 (0), .bool false].toArray 71) :: Own 2 (.slice Ay4 (1) cy4) (fV (nils (1))) :: Own 1 (.slice (some ⟨gy3, 0, none⟩) 1 1) (nums .i64 [9223372036854775807]) :: Own 2 (.slice Ay2 (1) cy2) (fV (nils (1))) :: Own 1 (.slice (some ⟨gy1, 0, none⟩) 1 1) (nums .i64 [-1]) :: Own 6 (.slice A (210 + 11 * k) c) (xs.flatMap cRO) :: (xs.map RoC ++ L))) => (h.perm (perm_c fun D x => by simp only [List.map_append, List.map_cons, List.map_nil, List.count_append, List.count_cons, List.count_nil]; omega) : Mem w0 W (Own 6 (.slice A (210 + 11 * k) c) (xs.flatMap cRO) :: Blk g (.cells [.int .i64 (7), .slice Ay2 (1) cy2, .slice (some ⟨gy1, 0, none⟩) 1 1, .int .i64 (0), .int .i64 (0), .bool false, .int .i64 (7), .slice Ay4 (1) cy4, .slice (some ⟨gy3, 0, none⟩) 1 1, .int .i64 (0), .int .i64 (0), .bool false].toArray 71) :: Own 2 (.slice Ay4 (1) cy4) (fV (nils (1))) :: Own 1 (.slice (some ⟨gy3, 0, none⟩) 1 1) (nums .i64 [9223372036854775807]) :: Own 2 (.slice Ay2 (1) cy2) (fV (nils (1))) :: Own 1 (.slice (some ⟨gy1, 0, none⟩) 1 1) (nums .i64 [-1]) :: (xs.map RoC ++ L)))
              replace hqy5 := Fact.mk hqy5
              go_wp2_with (at_builtin; refine wp_app rfl _ _ _ rfl 71 iO _ 6 80 ty_Os hiO oz0 oz1 oz2 rfl A (210 + 11 * k) c _ rfl (hqy5.out _ _ (hmy4.alloc _)) _ 2 2 [.int .i64 (7), .slice Ay2 (1) cy2, .slice (some ⟨gy1, 0, none⟩) 1 1, .int .i64 (0), .int .i64 (0), .bool false, .int .i64 (7), .slice Ay4 (1) cy4, .slice (some ⟨gy3, 0, none⟩) 1 1, .int .i64 (0), .int .i64 (0), .bool false] rfl (RdC.lit _ _ _ _ _ rfl (by simp [maxLen]) honey5.out) (by unfold maxLen; omega) (by omega) ?_; intro By5 dy5 wy5 hzy5)
              have hry5_0 : Mem w0 wy5 (Own 2 (.slice Ay2 (1) cy2) (fV (nils (1))) :: Own 1 (.slice (some ⟨gy1, 0, none⟩) 1 1) (nums .i64 [-1]) :: Own 6 (.slice By5 (210 + 11 * k + 2) dy5) (xs.flatMap cRO ++ [.int .i64 (7), .slice Ay2 (1) cy2, .slice (some ⟨gy1, 0, none⟩) 1 1, .int .i64 (0), .int .i64 (0), .bool false, .int .i64 (7), .slice Ay4 (1) cy4, .slice (some ⟨gy3, 0, none⟩) 1 1, .int .i64 (0), .int .i64 (0), .bool false]) :: Own 2 (.slice Ay4 (1) cy4) (fV (nils (1))) :: Own 1 (.slice (some ⟨gy3, 0, none⟩) 1 1) (nums .i64 [9223372036854775807]) :: (xs.map RoC ++ L)) := hzy5.drop2.perm (perm_c fun D x => by simp only [List.map_append, List.map_cons, List.map_nil, List.count_append, List.count_cons, List.count_nil]; omega)
              have hty5_0 := roc_both (7) (0) (0) false hry5_0 (nils_len _) rfl
              have hry5_1 : Mem w0 wy5 (Own 2 (.slice Ay4 (1) cy4) (fV (nils (1))) :: Own 1 (.slice (some ⟨gy3, 0, none⟩) 1 1) (nums .i64 [9223372036854775807]) :: RoC (⟨Ay2, cy2, (some ⟨gy1, 0, none⟩), 1, ⟨7, nils (1), [-1], 0, 0, false⟩⟩ : RO) :: Own 6 (.slice By5 (210 + 11 * k + 2) dy5) (xs.flatMap cRO ++ [.int .i64 (7), .slice Ay2 (1) cy2, .slice (some ⟨gy1, 0, none⟩) 1 1, .int .i64 (0), .int .i64 (0), .bool false, .int .i64 (7), .slice Ay4 (1) cy4, .slice (some ⟨gy3, 0, none⟩) 1 1, .int .i64 (0), .int .i64 (0), .bool false]) :: (xs.map RoC ++ L)) := hty5_0.perm (perm_c fun D x => by simp only [List.map_append, List.map_cons, List.map_nil, List.count_append, List.count_cons, List.count_nil]; omega)
              have hty5_1 := roc_both (7) (0) (0) false hry5_1 (nils_len _) rfl
              have hFy5 : Mem w0 wy5 (Own 6 (.slice By5 (210 + 11 * k + 2) dy5) ((xs ++ [(⟨Ay2, cy2, (some ⟨gy1, 0, none⟩), 1, ⟨7, nils (1), [-1], 0, 0, false⟩⟩ : RO), (⟨Ay4, cy4, (some ⟨gy3, 0, none⟩), 1, ⟨7, nils (1), [9223372036854775807], 0, 0, false⟩⟩ : RO)]).flatMap cRO) :: ((xs ++ [(⟨Ay2, cy2, (some ⟨gy1, 0, none⟩), 1, ⟨7, nils (1), [-1], 0, 0, false⟩⟩ : RO), (⟨Ay4, cy4, (some ⟨gy3, 0, none⟩), 1, ⟨7, nils (1), [9223372036854775807], 0, 0, false⟩⟩ : RO)]).map RoC ++ L)) := by
                rw [List.flatMap_append, List.map_append, hfly5.out]
                exact hty5_1.perm (perm_c fun D x => by simp only [List.map_append, List.map_cons, List.map_nil, List.count_append, List.count_cons, List.count_nil]; omega)
              have hEy5 : ∀ x, x ∈ xs ++ [(⟨Ay2, cy2, (some ⟨gy1, 0, none⟩), 1, ⟨7, nils (1), [-1], 0, 0, false⟩⟩ : RO), (⟨Ay4, cy4, (some ⟨gy3, 0, none⟩), 1, ⟨7, nils (1), [9223372036854775807], 0, 0, false⟩⟩ : RO)] → EdgOk x := by
                intro x hx
                rcases List.mem_append.1 hx with hx | hx
                · exact hE x hx
                · simp only [List.mem_cons, List.not_mem_nil, or_false] at hx
                  rcases hx with rfl | rfl
                  · exact edg_mk _ _ _ _ _ _ _ _ _ _ (.inl ⟨_, rfl, by omega⟩) (by decide)
                  · exact edg_mk _ _ _ _ _ _ _ _ _ _ (.inl ⟨_, rfl, by omega⟩) (by decide)
              clear hmy4
              replace hE := Fact.mk hEy5
              clear hEy5
              obtain ⟨ys, hys⟩ : ∃ ys, ys = xs ++ [(⟨Ay2, cy2, (some ⟨gy1, 0, none⟩), 1, ⟨7, nils (1), [-1], 0, 0, false⟩⟩ : RO), (⟨Ay4, cy4, (some ⟨gy3, 0, none⟩), 1, ⟨7, nils (1), [9223372036854775807], 0, 0, false⟩⟩ : RO)] := ⟨_, rfl⟩
              rw [← hys] at hFy5 hE
              clear hys
              go_wp2_with fail
              have hmz1 := (hFy5.alloc (.cells [.int .i64 3, .int .i64 3].toArray 2))
              generalize hgb : wy5.heap.size = gz1 at hmz1 ⊢
              generalize hw1 : (wy5.alloc (.cells [.int .i64 3, .int .i64 3].toArray 2)) = wz1 at hmz1 ⊢
              clear hw1 hgb hFy5
              replace hmz1 := hmz1.blk_own (n := 2) (size := 1) (cs := nums .i64 [3, 3]) rfl (by unfold maxLen; omega) (One.nums _ _)
              go_wp2_with fail
              refine (many_ok w0 wz1 _ hmz1 (2) (by omega) (2) (by omega)).mono ?_
              rintro e wz2 ⟨Az2, cz2, rfl, hmz2⟩
              clear hmz1
              go_wp2_with fail
              have hmz3 := (hmz2.alloc (.cells [.int .i64 3, .int .i64 0, .int .i64 3].toArray 2))
              generalize hgb : wz2.heap.size = gz3 at hmz3 ⊢
              generalize hw1 : (wz2.alloc (.cells [.int .i64 3, .int .i64 0, .int .i64 3].toArray 2)) = wz3 at hmz3 ⊢
              clear hw1 hgb hmz2
              replace hmz3 := hmz3.blk_own (n := 3) (size := 1) (cs := nums .i64 [3, 0, 3]) rfl (by unfold maxLen; omega) (One.nums _ _)
              go_wp2_with fail
              refine (many_ok w0 wz3 _ hmz3 (3) (by omega) (3) (by omega)).mono ?_
              rintro e wz4 ⟨Az4, cz4, rfl, hmz4⟩
              clear hmz3
              replace hE := hE.out
              have honez5 : One [.int .i64 (7), .slice Az2 (2) cz2, .slice (some ⟨gz1, 0, none⟩) 2 2, .int .i64 (0), .int .i64 (0), .bool false, .int .i64 (7), .slice Az4 (3) cz4, .slice (some ⟨gz3, 0, none⟩) 3 3, .int .i64 (0), .int .i64 (0), .bool false] := by intro u hu; simp only [List.mem_cons, List.not_mem_nil, or_false] at hu; repeat (first | (rcases hu with rfl | hu; · rfl) | (subst hu; rfl))
              have hflz5 : [(⟨Az2, cz2, (some ⟨gz1, 0, none⟩), 2, ⟨7, nils (2), [3, 3], 0, 0, false⟩⟩ : RO), (⟨Az4, cz4, (some ⟨gz3, 0, none⟩), 3, ⟨7, nils (3), [3, 0, 3], 0, 0, false⟩⟩ : RO)].flatMap cRO = [.int .i64 (7), .slice Az2 (2) cz2, .slice (some ⟨gz1, 0, none⟩) 2 2, .int .i64 (0), .int .i64 (0), .bool false, .int .i64 (7), .slice Az4 (3) cz4, .slice (some ⟨gz3, 0, none⟩) 3 3, .int .i64 (0), .int .i64 (0), .bool false] := by simp [cRO, obC, nils_len]
              replace honez5 := Fact.mk honez5
              replace hflz5 := Fact.mk hflz5
              have hqz5 := fun (W : World) (g : Nat) (h : Mem w0 W (Blk g (.cells [.int .i64 (7), .slice Az2 (2) cz2, .slice (some ⟨gz1, 0, none⟩) 2 2, .int .i64 (0), .int .i64 (0), .bool false, .int .i64 (7), .slice Az4 (3) cz4, .slice (some ⟨gz3, 0, none⟩) 3 3, .int .i64 (0), .int .i64 (0), .bool false].toArray 71) :: Own 2 (.slice Az4 (3) cz4) (fV (nils (3))) :: Own 1 (.slice (some ⟨gz3, 0, none⟩) 3 3) (nums .i64 [3, 0, 3]) :: Own 2 (.slice Az2 (2) cz2) (fV (nils (2))) :: Own 1 (.slice (some ⟨gz1, 0, none⟩) 2 2) (nums .i64 [3, 3]) :: Own 6 (.slice By5 (210 + 11 * k + 2) dy5) (ys.flatMap cRO) :: (ys.map RoC ++ L))) => (h.perm (perm_c fun D x => by simp only [List.map_append, List.map_cons, List.map_nil, List.count_append, List.count_cons, List.count_nil]; omega) : Mem w0 W (Own 6 (.slice By5 (210 + 11 * k + 2) dy5) (ys.flatMap cRO) :: Blk g (.cells [.int .i64 (7), .slice Az2 (2) cz2, .slice (some ⟨gz1, 0, none⟩) 2 2, .int .i64 (0), .int .i64 (0), .bool false, .int .i64 (7), .slice Az4 (3) cz4, .slice (some ⟨gz3, 0, none⟩) 3 3, .int .i64 (0), .int .i64 (0), .bool false].toArray 71) :: Own 2 (.slice Az4 (3) cz4) (fV (nils (3))) :: Own 1 (.slice (some ⟨gz3, 0, none⟩) 3 3) (nums .i64 [3, 0, 3]) :: Own 2 (.slice Az2 (2) cz2) (fV (nils (2))) :: Own 1 (.slice (some ⟨gz1, 0, none⟩) 2 2) (nums .i64 [3, 3]) :: (ys.map RoC ++ L)))
              replace hqz5 := Fact.mk hqz5
              go_wp2_with (at_builtin; refine wp_app rfl _ _ _ rfl 71 iO _ 6 80 ty_Os hiO oz0 oz1 oz2 rfl By5 (210 + 11 * k + 2) dy5 _ rfl (hqz5.out _ _ (hmz4.alloc _)) _ 2 2 [.int .i64 (7), .slice Az2 (2) cz2, .slice (some ⟨gz1, 0, none⟩) 2 2, .int .i64 (0), .int .i64 (0), .bool false, .int .i64 (7), .slice Az4 (3) cz4, .slice (some ⟨gz3, 0, none⟩) 3 3, .int .i64 (0), .int .i64 (0), .bool false] rfl (RdC.lit _ _ _ _ _ rfl (by simp [maxLen]) honez5.out) (by unfold maxLen; omega) (by omega) ?_; intro Bz5 dz5 wz5 hzz5)
              have hrz5_0 : Mem w0 wz5 (Own 2 (.slice Az2 (2) cz2) (fV (nils (2))) :: Own 1 (.slice (some ⟨gz1, 0, none⟩) 2 2) (nums .i64 [3, 3]) :: Own 6 (.slice Bz5 (210 + 11 * k + 2 + 2) dz5) (ys.flatMap cRO ++ [.int .i64 (7), .slice Az2 (2) cz2, .slice (some ⟨gz1, 0, none⟩) 2 2, .int .i64 (0), .int .i64 (0), .bool false, .int .i64 (7), .slice Az4 (3) cz4, .slice (some ⟨gz3, 0, none⟩) 3 3, .int .i64 (0), .int .i64 (0), .bool false]) :: Own 2 (.slice Az4 (3) cz4) (fV (nils (3))) :: Own 1 (.slice (some ⟨gz3, 0, none⟩) 3 3) (nums .i64 [3, 0, 3]) :: (ys.map RoC ++ L)) := hzz5.drop2.perm (perm_c fun D x => by simp only [List.map_append, List.map_cons, List.map_nil, List.count_append, List.count_cons, List.count_nil]; omega)
              have htz5_0 := roc_both (7) (0) (0) false hrz5_0 (nils_len _) rfl
              have hrz5_1 : Mem w0 wz5 (Own 2 (.slice Az4 (3) cz4) (fV (nils (3))) :: Own 1 (.slice (some ⟨gz3, 0, none⟩) 3 3) (nums .i64 [3, 0, 3]) :: RoC (⟨Az2, cz2, (some ⟨gz1, 0, none⟩), 2, ⟨7, nils (2), [3, 3], 0, 0, false⟩⟩ : RO) :: Own 6 (.slice Bz5 (210 + 11 * k + 2 + 2) dz5) (ys.flatMap cRO ++ [.int .i64 (7), .slice Az2 (2) cz2, .slice (some ⟨gz1, 0, none⟩) 2 2, .int .i64 (0), .int .i64 (0), .bool false, .int .i64 (7), .slice Az4 (3) cz4, .slice (some ⟨gz3, 0, none⟩) 3 3, .int .i64 (0), .int .i64 (0), .bool false]) :: (ys.map RoC ++ L)) := htz5_0.perm (perm_c fun D x => by simp only [List.map_append, List.map_cons, List.map_nil, List.count_append, List.count_cons, List.count_nil]; omega)
              have htz5_1 := roc_both (7) (0) (0) false hrz5_1 (nils_len _) rfl
              have hFz5 : Mem w0 wz5 (Own 6 (.slice Bz5 (210 + 11 * k + 2 + 2) dz5) ((ys ++ [(⟨Az2, cz2, (some ⟨gz1, 0, none⟩), 2, ⟨7, nils (2), [3, 3], 0, 0, false⟩⟩ : RO), (⟨Az4, cz4, (some ⟨gz3, 0, none⟩), 3, ⟨7, nils (3), [3, 0, 3], 0, 0, false⟩⟩ : RO)]).flatMap cRO) :: ((ys ++ [(⟨Az2, cz2, (some ⟨gz1, 0, none⟩), 2, ⟨7, nils (2), [3, 3], 0, 0, false⟩⟩ : RO), (⟨Az4, cz4, (some ⟨gz3, 0, none⟩), 3, ⟨7, nils (3), [3, 0, 3], 0, 0, false⟩⟩ : RO)]).map RoC ++ L)) := by
                rw [List.flatMap_append, List.map_append, hflz5.out]
                exact htz5_1.perm (perm_c fun D x => by simp only [List.map_append, List.map_cons, List.map_nil, List.count_append, List.count_cons, List.count_nil]; omega)
              have hEz5 : ∀ x, x ∈ ys ++ [(⟨Az2, cz2, (some ⟨gz1, 0, none⟩), 2, ⟨7, nils (2), [3, 3], 0, 0, false⟩⟩ : RO), (⟨Az4, cz4, (some ⟨gz3, 0, none⟩), 3, ⟨7, nils (3), [3, 0, 3], 0, 0, false⟩⟩ : RO)] → EdgOk x := by
                intro x hx
                rcases List.mem_append.1 hx with hx | hx
                · exact hE x hx
                · simp only [List.mem_cons, List.not_mem_nil, or_false] at hx
                  rcases hx with rfl | rfl
                  · exact edg_mk _ _ _ _ _ _ _ _ _ _ (.inl ⟨_, rfl, by omega⟩) (by decide)
                  · exact edg_mk _ _ _ _ _ _ _ _ _ _ (.inl ⟨_, rfl, by omega⟩) (by decide)
              clear hmz4
              replace hE := Fact.mk hEz5
              clear hEz5
              go_ret
              have hl357 : 210 + 11 * k + 2 + 2 = 357 := by have := hk13.out; omega
              rw [hl357] at hFz5 ⊢
              exact ⟨Bz5, dz5, _, rfl, hE.out, hFz5⟩
end Go.Proofs.Ytpibchjkmaghnaa
namespace Go.Proofs.Ytpibchjkmaghnaa
open Go.RowKit Go.Mm
set_option maxHeartbeats 16000000
set_option maxRecDepth 100000
set_option linter.unusedSimpArgs false
theorem plain_ok (w : World) (n : Int) : Calls Try.prog 73 #[.int .i64 n] w fun e w' => e = .returned (.agg #[.int .i64 2, .int .i64 n]) ∧ Gr w w' := by
  go_enter Try.func73, Try.ntmps73
  go_wp2_with (refine wp_setrow rfl 27 _ _ rfl w.heap.size rfl 27 _ [.int .i64 2, .int .i64 n] rfl ((Mem.start w).alloc _) sz_V rfl (cV_one (2, n)) ?_; intro w9 hm9)
  refine bodyPost_ret (Mm.res_cell rfl _ w.heap.size 27 [.int .i64 2, .int .i64 n] (0, 0) rfl hm9 m0 row_V sz_V) rfl ⟨rfl, hm9.below⟩
theorem cells_gr {w w' : World} {g : Nat} {a b : Value} (hg : Gr w w') (h0 : w.cell? ⟨g, 0, none⟩ = some a) (h1 : w.cell? ⟨g, 1, none⟩ = some b) : w'.cell? ⟨g, 0, none⟩ = some a ∧ w'.cell? ⟨g, 1, none⟩ = some b := ⟨hg.cell h0, hg.cell h1⟩
theorem load_one (w0 w : World) (L : List Chunk) (g : Nat) (cells : List Value) (hm : Mem w0 w (Blk g (.cells cells.toArray 71) :: L)) (x : RO) (hc : cRO x = cells) (hr : RoC x ∈ L) (hE : EdgOk x) (hl : loadB [x.ob] = true) (b : Int) (hb0 : 0 ≤ b) (hb1 : b ≤ 1048576) :
    Calls Try.prog 59 #[.int .i64 b, .int .i64 0, .slice (some ⟨g, 0, none⟩) 1 1] w fun e w' => ∃ h : Hp, h.abs = ⟨b, 0, [x.ob]⟩ ∧ h.Ok ∧ e = .returned (.tuple #[.pointer (some ⟨h.g, 0, none⟩), .bool true]) ∧ Mem w0 w' (HpC h :: L) := by
  subst hc
  have hm1 := hm.blk_own (n := 1) (size := 6) (by simp [cRO_len]) (by unfold maxLen; omega) (cRO_one x)
  have hrd := hm1.rd m0
  have ho : ObsR w (some ⟨g, 0, none⟩) 1 1 [x] := ⟨by simpa using hrd, fun y hy => by
    simp only [List.mem_singleton] at hy
    subst hy
    exact RoC.reads (hm1.ok _ (.tail _ hr))⟩
  refine (load_ok w0 w _ hm1 b 0 (by omega) (by omega) (some ⟨g, 0, none⟩) 1 1 [x] ⟨ho⟩ (by omega) (fun y hy => ?_) (fun y hy => ?_)).mono ?_
  · simp only [List.mem_singleton] at hy
    subst hy
    have h1 := hE.items
    have h2 := hE.keys
    omega
  · simp only [List.mem_singleton] at hy
    subst hy
    exact hE.wf
  · rintro e w' (⟨_, h, ha, hok, he, hm2⟩ | ⟨hf, _, _⟩)
    · refine ⟨h, ?_, hok, he, hm2.drop2⟩
      rw [ha, show max b 0 = b by omega]
      rfl
    · rw [load_eq] at hf
      rw [show ([x].map (·.ob)) = [x.ob] from rfl, hl] at hf
      cases hf
def arrO (xs : List V2) : Ob := ⟨6, xs, [], 0, 0, false⟩
def recO (xs : List V2) (ks : List Int) : Ob := ⟨7, xs, ks, 0, 0, false⟩
theorem full_load : loadB [arrO (nils 4095)] = true := by
  unfold loadB
  simp only [List.all_cons, List.all_nil, Bool.and_true]
  unfold refB tabB arrO
  simp only [nils_len]
  have : (nils 4095).all (rightV [⟨6, nils 4095, [], 0, 0, false⟩]) = true := List.all_eq_true.2 fun v hv => by
    obtain rfl := List.eq_of_mem_replicate hv
    rfl
  rw [this]
  rfl
theorem arr_at (b s : Int) (xs : List V2) : (⟨b, s, [arrO xs]⟩ : Hs).obAt (6, 0) 6 = some 0 := rfl
theorem rec_at (b s : Int) (xs : List V2) (ks : List Int) : (⟨b, s, [recO xs ks]⟩ : Hs).obAt (7, 0) 7 = some 0 := rfl
theorem full_push1 : pushT ⟨1, 0, [arrO (nils 4095)]⟩ (6, 0) = 0 ∧ pushB ⟨1, 0, [arrO (nils 4095)]⟩ (6, 0) = true ∧ pushS ⟨1, 0, [arrO (nils 4095)]⟩ (6, 0) (2, 7) = ⟨1, 1, [arrO (nils 4095 ++ [(2, 7)])]⟩ := by
  unfold pushT pushB pushS
  rw [arr_at]
  simp only [show ((⟨1, 0, [arrO (nils 4095)]⟩ : Hs).objs.getD 0 ob0) = arrO (nils 4095) from rfl, show (arrO (nils 4095)).items.length = 4095 from nils_len _]
  exact ⟨rfl, rfl, rfl⟩
theorem full_push2 : pushT ⟨1, 1, [arrO (nils 4095 ++ [(2, 7)])]⟩ (6, 0) = 8 ∧ pushB ⟨1, 1, [arrO (nils 4095 ++ [(2, 7)])]⟩ (6, 0) = true ∧ pushS ⟨1, 1, [arrO (nils 4095 ++ [(2, 7)])]⟩ (6, 0) (2, 8) = ⟨1, 1, [arrO (nils 4095 ++ [(2, 7)])]⟩ := by
  unfold pushT pushB pushS
  rw [arr_at]
  simp only [show ((⟨1, 1, [arrO (nils 4095 ++ [(2, 7)])]⟩ : Hs).objs.getD 0 ob0) = arrO (nils 4095 ++ [(2, 7)]) from rfl, show (arrO (nils 4095 ++ [(2, 7)])).items.length = 4096 from (by show (nils 4095 ++ [(2, 7)]).length = _; rw [List.length_append, nils_len]; rfl)]
  exact ⟨rfl, rfl, rfl⟩
theorem full_size : sizeN ⟨1, 1, [arrO (nils 4095 ++ [(2, 7)])]⟩ (6, 0) = 4096 ∧ sizeT ⟨1, 1, [arrO (nils 4095 ++ [(2, 7)])]⟩ (6, 0) = 0 := by
  unfold sizeN sizeT
  rw [show nm (⟨1, 1, [arrO (nils 4095 ++ [(2, 7)])]⟩ : Hs).objs (6, 0) = some 0 from rfl]
  simp only [show ((⟨1, 1, [arrO (nils 4095 ++ [(2, 7)])]⟩ : Hs).objs.getD 0 ob0) = arrO (nils 4095 ++ [(2, 7)]) from rfl, show (arrO (nils 4095 ++ [(2, 7)])).items.length = 4096 from (by show (nils 4095 ++ [(2, 7)]).length = _; rw [List.length_append, nils_len]; rfl)]
  exact ⟨rfl, rfl⟩
theorem full_get : getV ⟨1, 1, [arrO (nils 4095 ++ [(2, 7)])]⟩ (6, 0) 4095 = (2, 7) ∧ getT ⟨1, 1, [arrO (nils 4095 ++ [(2, 7)])]⟩ (6, 0) 4095 = 0 := by
  unfold getV getT
  rw [arr_at]
  simp only [show ((⟨1, 1, [arrO (nils 4095 ++ [(2, 7)])]⟩ : Hs).objs.getD 0 ob0) = arrO (nils 4095 ++ [(2, 7)]) from rfl, show (arrO (nils 4095 ++ [(2, 7)])).items.length = 4096 from (by show (nils 4095 ++ [(2, 7)]).length = _; rw [List.length_append, nils_len]; rfl)]
  refine ⟨?_, rfl⟩
  rw [if_pos (by omega)]
  show (nils 4095 ++ [(2, 7)]).getD 4095 (0, 0) = (2, 7)
  rw [List.getD_eq_getElem?_getD, List.getElem?_append_right (by rw [nils_len]; omega), nils_len]
  rfl
theorem fill_load : loadB [recO (nils 255) (keysTo 255)] = true := by kernel_rfl
abbrev far : Int := 1125899906842624
theorem fill_set1 : setFT ⟨2, 0, [recO (nils 255) (keysTo 255)]⟩ (7, 0) far = 0 ∧ setFB ⟨2, 0, [recO (nils 255) (keysTo 255)]⟩ (7, 0) far = true ∧ setFS ⟨2, 0, [recO (nils 255) (keysTo 255)]⟩ (7, 0) far (2, 7) = ⟨2, 2, [recO (nils 255 ++ [(2, 7)]) (keysTo 255 ++ [far])]⟩ := ⟨by kernel_rfl, by kernel_rfl, by kernel_rfl⟩
theorem fill_set2 : setFT ⟨2, 2, [recO (nils 255 ++ [(2, 7)]) (keysTo 255 ++ [far])]⟩ (7, 0) 1125899906842625 = 8 ∧ setFB ⟨2, 2, [recO (nils 255 ++ [(2, 7)]) (keysTo 255 ++ [far])]⟩ (7, 0) 1125899906842625 = true ∧ setFS ⟨2, 2, [recO (nils 255 ++ [(2, 7)]) (keysTo 255 ++ [far])]⟩ (7, 0) 1125899906842625 (2, 8) = ⟨2, 2, [recO (nils 255 ++ [(2, 7)]) (keysTo 255 ++ [far])]⟩ := ⟨by kernel_rfl, by kernel_rfl, by kernel_rfl⟩
theorem fill_set3 : setFT ⟨2, 2, [recO (nils 255 ++ [(2, 7)]) (keysTo 255 ++ [far])]⟩ (7, 0) far = 0 ∧ setFB ⟨2, 2, [recO (nils 255 ++ [(2, 7)]) (keysTo 255 ++ [far])]⟩ (7, 0) far = true ∧ setFS ⟨2, 2, [recO (nils 255 ++ [(2, 7)]) (keysTo 255 ++ [far])]⟩ (7, 0) far (2, 9) = ⟨2, 2, [recO (nils 255 ++ [(2, 9)]) (keysTo 255 ++ [far])]⟩ := ⟨by kernel_rfl, by kernel_rfl, by kernel_rfl⟩
theorem fill_ask : fieldV ⟨2, 2, [recO (nils 255 ++ [(2, 9)]) (keysTo 255 ++ [far])]⟩ (7, 0) far = (2, 9) ∧ fieldT ⟨2, 2, [recO (nils 255 ++ [(2, 9)]) (keysTo 255 ++ [far])]⟩ (7, 0) far = 0 ∧ hasB ⟨2, 2, [recO (nils 255 ++ [(2, 9)]) (keysTo 255 ++ [far])]⟩ (7, 0) far = true ∧ sizeN ⟨2, 2, [recO (nils 255 ++ [(2, 9)]) (keysTo 255 ++ [far])]⟩ (7, 0) = 256 := ⟨by kernel_rfl, by kernel_rfl, by kernel_rfl, by kernel_rfl⟩
theorem fill_del : delT ⟨2, 2, [recO (nils 255 ++ [(2, 9)]) (keysTo 255 ++ [far])]⟩ (7, 0) far = 0 ∧ delS ⟨2, 2, [recO (nils 255 ++ [(2, 9)]) (keysTo 255 ++ [far])]⟩ (7, 0) far = ⟨2, 2, [recO (nils 255) (keysTo 255)]⟩ ∧ fieldT ⟨2, 2, [recO (nils 255) (keysTo 255)]⟩ (7, 0) far = 4 := ⟨by kernel_rfl, by kernel_rfl, by kernel_rfl⟩
theorem full_ok (w0 w : World) (L : List Chunk) (hm : Mem w0 w L) :
    Calls Try.prog 41 #[] w fun e w' => e = .returned (.bool true) ∧ Mem w0 w' L := by
  go_enter Try.func41, Try.ntmps41
  go_wp2_with fail
  refine (many_ok w0 w _ hm 4095 (by omega) 4095 (by omega)).mono ?_
  rintro e w1 ⟨A, c, rfl, hm1⟩
  clear hm
  go_wp2_with fail
  have hm2 := (roc_items 6 0 0 false hm1 (nils_len _)).alloc (.cells (obC 6 A 4095 c none 0 0 0 0 false).toArray 71)
  generalize hgb : w1.heap.size = g2 at hm2 ⊢
  unfold obC at hm2
  generalize hw1 : w1.alloc (.cells [.int .i64 6, .slice A 4095 c, .slice none 0 0, .int .i64 0, .int .i64 0, .bool false].toArray 71) = w2 at hm2 ⊢
  clear hw1 hgb hm1
  refine (load_one w0 w2 _ g2 _ hm2 ⟨A, c, none, 0, arrO (nils 4095)⟩ (by simp [cRO, obC, arrO, nils_len]) m0 (edg_mk _ _ _ _ _ _ _ _ _ _ (.inl ⟨_, rfl, by omega⟩) (by decide)) full_load 1 (by omega) (by omega)).mono ?_
  rintro e w3 ⟨h, ha, hok, rfl, hm3⟩
  clear hm2
  replace ha : Fact (h.abs = ⟨1, 0, [arrO (nils 4095)]⟩) := ⟨ha⟩
  replace hok := Fact.mk hok
  go_upto_region 5 with (refine wp_setrow rfl 27 _ _ rfl w3.heap.size rfl 27 _ [.int .i64 6, .int .i64 0] rfl (hm3.alloc _) sz_V rfl (cV_one (6, 0)) ?_; intro w4 hm4)
  generalize w3.heap.size = g3 at hm4 ⊢
  replace hm4 := hm4.swap
  clear hm3
  have hp1 := fun (W : World) (L1 : List Chunk) (h0 : Mem w0 W (HpC h :: L1)) => push_any w0 W L1 h h0 hok 6 0 2 7
  rw [ha.out, full_push1.1, full_push1.2.1, full_push1.2.2] at hp1
  replace hp1 := Fact.mk hp1
  go_upto_region 5 with (fail)
  have hm1a := hm4.drew
  have hS1 : w4.drew.cell? ⟨g3, 0, none⟩ = some (.int .i64 6) ∧ w4.drew.cell? ⟨g3, 1, none⟩ = some (.int .i64 0) := ⟨hm1a.cell m1 0 rfl, hm1a.cell m1 1 rfl⟩
  refine wp_region_until (S := fun W => W.cell? ⟨g3, 0, none⟩ = some (.int .i64 6) ∧ W.cell? ⟨g3, 1, none⟩ = some (.int .i64 0)) 8 (by kernel_rfl) ?_
  generalize w4.drew = w1a at hm1a hS1 ⊢
  clear hm4
  refine wpAnyU_take 0 (v := ?vs10) rfl (by kernel_rfl) (by kernel_rfl) (fun _ _ _ h => h) hS1 (Or.inl ⟨rfl, ?ys10⟩) ?rs10
  case ys10 =>
    intro W hW
    obtain ⟨hW0, hW1⟩ := hW
    go_simp
    try with_reducible rfl
  try simp only [Act.put, List.getElem_toArray, List.getElem_cons_succ, List.getElem_cons_zero, List.setIfInBounds_toArray, List.set_cons_zero, List.set_cons_succ]
  refine wpAnyU_take 1 (v := ?vs11) rfl (by kernel_rfl) (by kernel_rfl) (fun _ _ _ h => h) hS1 (Or.inl ⟨rfl, ?ys11⟩) ?rs11
  case ys11 =>
    intro W hW
    obtain ⟨hW0, hW1⟩ := hW
    go_simp
    try with_reducible rfl
  try simp only [Act.put, List.getElem_toArray, List.getElem_cons_succ, List.getElem_cons_zero, List.setIfInBounds_toArray, List.set_cons_zero, List.set_cons_succ]
  refine wpAnyU_one 2 (by kernel_rfl) rfl (fun K hK => ?_)
  refine step_call rfl 73 Try.f73 Try.func73 (by kernel_rfl) (by kernel_rfl) _ _ rfl #[.int .i64 7] (by simp [Act.eval]) ?_
  refine (plain_ok w1a 7).mono ?_
  rintro e w1b ⟨rfl, hgp⟩
  refine ⟨_, rfl, ?_⟩
  have hm1b := hm1a.gr hgp
  have hT1 := cells_gr hgp hS1.1 hS1.2
  refine hK _ _ (fun _ => hT1) ?_
  clear hK K hS1 hm1a hgp
  try simp only [Act.put, List.getElem_toArray, List.getElem_cons_succ, List.getElem_cons_zero, List.setIfInBounds_toArray, List.set_cons_zero, List.set_cons_succ]
  refine wpAnyU_one 3 (by kernel_rfl) rfl (fun K hK => ?_)
  refine step_call rfl 70 Try.f70 Try.func70 (by kernel_rfl) (by kernel_rfl) _ _ rfl #[.pointer (some ⟨h.g, 0, none⟩), .agg #[.int .i64 6, .int .i64 0], .agg #[.int .i64 2, .int .i64 7]] (by simp [Act.eval]) ?_
  refine (hp1.out w1b _ hm1b).mono ?_
  rintro e w1c ⟨rfl, h1, hg1, ha1, ho1, hm1c⟩
  refine ⟨_, rfl, ?_⟩
  have hU1 : w1c.cell? ⟨g3, 0, none⟩ = some (.int .i64 6) ∧ w1c.cell? ⟨g3, 1, none⟩ = some (.int .i64 0) := ⟨hm1c.cell m1 0 rfl, hm1c.cell m1 1 rfl⟩
  refine hK _ _ (fun _ => hU1) ?_
  clear hK K hT1 hm1b
  try simp only [Act.put, List.getElem_toArray, List.getElem_cons_succ, List.getElem_cons_zero, List.setIfInBounds_toArray, List.set_cons_zero, List.set_cons_succ]
  refine wpAnyU_take 4 (v := ?vu14) rfl (by kernel_rfl) (by kernel_rfl) (fun _ _ _ h => h) hU1 (Or.inl ⟨rfl, ?yu14⟩) ?ru14
  case yu14 =>
    intro W hW
    obtain ⟨hW0, hW1⟩ := hW
    go_simp
    try with_reducible rfl
  try simp only [Act.put, List.getElem_toArray, List.getElem_cons_succ, List.getElem_cons_zero, List.setIfInBounds_toArray, List.set_cons_zero, List.set_cons_succ]
  refine wpAnyU_take 5 (v := ?vu15) rfl (by kernel_rfl) (by kernel_rfl) (fun _ _ _ h => h) hU1 (Or.inl ⟨rfl, ?yu15⟩) ?ru15
  case yu15 =>
    intro W hW
    obtain ⟨hW0, hW1⟩ := hW
    go_simp
    try with_reducible rfl
  try simp only [Act.put, List.getElem_toArray, List.getElem_cons_succ, List.getElem_cons_zero, List.setIfInBounds_toArray, List.set_cons_zero, List.set_cons_succ]
  refine wpAnyU_take 6 (v := ?vu16) rfl (by kernel_rfl) (by kernel_rfl) (fun _ _ _ h => h) hU1 (Or.inl ⟨rfl, ?yu16⟩) ?ru16
  case yu16 =>
    intro W hW
    obtain ⟨hW0, hW1⟩ := hW
    go_simp
    try with_reducible rfl
  try simp only [Act.put, List.getElem_toArray, List.getElem_cons_succ, List.getElem_cons_zero, List.setIfInBounds_toArray, List.set_cons_zero, List.set_cons_succ]
  refine wpAnyU_one 7 (by kernel_rfl) rfl (fun K hK => ?_)
  go_simp
  refine hK _ _ (fun _ => hU1) ?_
  clear hK K
  try simp only [Act.put, List.getElem_toArray, List.getElem_cons_succ, List.getElem_cons_zero, List.setIfInBounds_toArray, List.set_cons_zero, List.set_cons_succ]
  refine wpAnyU_one 8 (by kernel_rfl) rfl (fun K hK => ?_)
  go_simp
  refine hK _ _ (fun h => absurd h (by decide)) ?_
  clear hK K hU1
  try simp only [Act.put, List.getElem_toArray, List.getElem_cons_succ, List.getElem_cons_zero, List.setIfInBounds_toArray, List.set_cons_zero, List.set_cons_succ]
  refine wpAnyU_done (by kernel_rfl) ?_ _
  replace hg1 := Fact.mk hg1
  replace ha1 := Fact.mk ha1
  replace ho1 := Fact.mk ho1
  clear hp1
  have hp2 := fun (W : World) (L1 : List Chunk) (h0 : Mem w0 W (HpC h1 :: L1)) => push_any w0 W L1 h1 h0 ho1 6 0 2 8
  rw [ha1.out, full_push2.1, full_push2.2.1, full_push2.2.2, hg1.out] at hp2
  replace hp2 := Fact.mk hp2
  go_upto_region 6 with (fail)
  have hm2a := hm1c.drew
  have hS2 : w1c.drew.cell? ⟨g3, 0, none⟩ = some (.int .i64 6) ∧ w1c.drew.cell? ⟨g3, 1, none⟩ = some (.int .i64 0) := ⟨hm2a.cell m1 0 rfl, hm2a.cell m1 1 rfl⟩
  refine wp_region_until (S := fun W => W.cell? ⟨g3, 0, none⟩ = some (.int .i64 6) ∧ W.cell? ⟨g3, 1, none⟩ = some (.int .i64 0)) 8 (by kernel_rfl) ?_
  generalize w1c.drew = w2a at hm2a hS2 ⊢
  clear hm1c
  refine wpAnyU_take 0 (v := ?vs20) rfl (by kernel_rfl) (by kernel_rfl) (fun _ _ _ h => h) hS2 (Or.inl ⟨rfl, ?ys20⟩) ?rs20
  case ys20 =>
    intro W hW
    obtain ⟨hW0, hW1⟩ := hW
    go_simp
    try with_reducible rfl
  try simp only [Act.put, List.getElem_toArray, List.getElem_cons_succ, List.getElem_cons_zero, List.setIfInBounds_toArray, List.set_cons_zero, List.set_cons_succ]
  refine wpAnyU_take 1 (v := ?vs21) rfl (by kernel_rfl) (by kernel_rfl) (fun _ _ _ h => h) hS2 (Or.inl ⟨rfl, ?ys21⟩) ?rs21
  case ys21 =>
    intro W hW
    obtain ⟨hW0, hW1⟩ := hW
    go_simp
    try with_reducible rfl
  try simp only [Act.put, List.getElem_toArray, List.getElem_cons_succ, List.getElem_cons_zero, List.setIfInBounds_toArray, List.set_cons_zero, List.set_cons_succ]
  refine wpAnyU_one 2 (by kernel_rfl) rfl (fun K hK => ?_)
  refine step_call rfl 73 Try.f73 Try.func73 (by kernel_rfl) (by kernel_rfl) _ _ rfl #[.int .i64 8] (by simp [Act.eval]) ?_
  refine (plain_ok w2a 8).mono ?_
  rintro e w2b ⟨rfl, hgp⟩
  refine ⟨_, rfl, ?_⟩
  have hm2b := hm2a.gr hgp
  have hT2 := cells_gr hgp hS2.1 hS2.2
  refine hK _ _ (fun _ => hT2) ?_
  clear hK K hS2 hm2a hgp
  try simp only [Act.put, List.getElem_toArray, List.getElem_cons_succ, List.getElem_cons_zero, List.setIfInBounds_toArray, List.set_cons_zero, List.set_cons_succ]
  refine wpAnyU_one 3 (by kernel_rfl) rfl (fun K hK => ?_)
  refine step_call rfl 70 Try.f70 Try.func70 (by kernel_rfl) (by kernel_rfl) _ _ rfl #[.pointer (some ⟨h.g, 0, none⟩), .agg #[.int .i64 6, .int .i64 0], .agg #[.int .i64 2, .int .i64 8]] (by simp [Act.eval]) ?_
  refine (hp2.out w2b _ hm2b).mono ?_
  rintro e w2c ⟨rfl, h2, hg2, ha2, ho2, hm2c⟩
  refine ⟨_, rfl, ?_⟩
  have hU2 : w2c.cell? ⟨g3, 0, none⟩ = some (.int .i64 6) ∧ w2c.cell? ⟨g3, 1, none⟩ = some (.int .i64 0) := ⟨hm2c.cell m1 0 rfl, hm2c.cell m1 1 rfl⟩
  refine hK _ _ (fun _ => hU2) ?_
  clear hK K hT2 hm2b
  try simp only [Act.put, List.getElem_toArray, List.getElem_cons_succ, List.getElem_cons_zero, List.setIfInBounds_toArray, List.set_cons_zero, List.set_cons_succ]
  refine wpAnyU_take 4 (v := ?vu24) rfl (by kernel_rfl) (by kernel_rfl) (fun _ _ _ h => h) hU2 (Or.inl ⟨rfl, ?yu24⟩) ?ru24
  case yu24 =>
    intro W hW
    obtain ⟨hW0, hW1⟩ := hW
    go_simp
    try with_reducible rfl
  try simp only [Act.put, List.getElem_toArray, List.getElem_cons_succ, List.getElem_cons_zero, List.setIfInBounds_toArray, List.set_cons_zero, List.set_cons_succ]
  refine wpAnyU_take 5 (v := ?vu25) rfl (by kernel_rfl) (by kernel_rfl) (fun _ _ _ h => h) hU2 (Or.inl ⟨rfl, ?yu25⟩) ?ru25
  case yu25 =>
    intro W hW
    obtain ⟨hW0, hW1⟩ := hW
    go_simp
    try with_reducible rfl
  try simp only [Act.put, List.getElem_toArray, List.getElem_cons_succ, List.getElem_cons_zero, List.setIfInBounds_toArray, List.set_cons_zero, List.set_cons_succ]
  refine wpAnyU_take 6 (v := ?vu26) rfl (by kernel_rfl) (by kernel_rfl) (fun _ _ _ h => h) hU2 (Or.inl ⟨rfl, ?yu26⟩) ?ru26
  case yu26 =>
    intro W hW
    obtain ⟨hW0, hW1⟩ := hW
    go_simp
    try with_reducible rfl
  try simp only [Act.put, List.getElem_toArray, List.getElem_cons_succ, List.getElem_cons_zero, List.setIfInBounds_toArray, List.set_cons_zero, List.set_cons_succ]
  refine wpAnyU_one 7 (by kernel_rfl) rfl (fun K hK => ?_)
  go_simp
  refine hK _ _ (fun _ => hU2) ?_
  clear hK K
  try simp only [Act.put, List.getElem_toArray, List.getElem_cons_succ, List.getElem_cons_zero, List.setIfInBounds_toArray, List.set_cons_zero, List.set_cons_succ]
  refine wpAnyU_one 8 (by kernel_rfl) rfl (fun K hK => ?_)
  go_simp
  refine hK _ _ (fun h => absurd h (by decide)) ?_
  clear hK K hU2
  try simp only [Act.put, List.getElem_toArray, List.getElem_cons_succ, List.getElem_cons_zero, List.setIfInBounds_toArray, List.set_cons_zero, List.set_cons_succ]
  refine wpAnyU_done (by kernel_rfl) ?_ _
  replace hg2 := Fact.mk hg2
  replace ha2 := Fact.mk ha2
  replace ho2 := Fact.mk ho2
  clear hp2
  have hp3 := fun (W : World) (L1 : List Chunk) (h0 : Mem w0 W (HpC h2 :: L1)) => size_any w0 W L1 h2 h0 ho2 6 0
  rw [ha2.out, full_size.1, full_size.2, hg2.out] at hp3
  replace hp3 := Fact.mk hp3
  go_wp2_with (refine wp_rng rfl 27 _ rfl g3 0 rfl [.int .i64 6, .int .i64 0] (rng_blk hm2c m1) row_V sz_V ?_)
  refine (hp3.out w2c _ hm2c).mono ?_
  rintro e w5 ⟨rfl, hm5⟩
  clear hm2c hp3
  have hp4 := fun (W : World) (L1 : List Chunk) (h0 : Mem w0 W (HpC h2 :: L1)) => get_ok w0 W L1 h2 h0 ho2 6 0 4095
  rw [ha2.out, full_get.1, full_get.2, hg2.out] at hp4
  replace hp4 := Fact.mk hp4
  go_wp2_with (refine wp_rng rfl 27 _ rfl g3 0 rfl [.int .i64 6, .int .i64 0] (rng_blk hm5 m1) row_V sz_V ?_)
  refine (hp4.out w5 _ hm5).mono ?_
  rintro e w6 ⟨rfl, hm6⟩
  clear hm5 hp4
  go_upto_region 9 with (refine wp_setrow rfl 27 _ _ rfl w6.heap.size rfl 27 _ [.int .i64 2, .int .i64 7] rfl (hm6.alloc _) sz_V rfl (cV_one (2, 7)) ?_; intro w7 hm7)
  generalize w6.heap.size = g10 at hm7 ⊢
  clear hm6
  have hspe : h2.spent = 1 := congrArg Hs.spent ha2.out
  go_upto_region 9 with (fail)
  have hm3a := hm7.drew
  have hS3 : w7.drew.cell? ⟨g10, 0, none⟩ = some (.int .i64 2) ∧ w7.drew.cell? ⟨g10, 1, none⟩ = some (.int .i64 7) := ⟨hm3a.cell m0 0 rfl, hm3a.cell m0 1 rfl⟩
  refine wp_region_until (S := fun W => W.cell? ⟨g10, 0, none⟩ = some (.int .i64 2) ∧ W.cell? ⟨g10, 1, none⟩ = some (.int .i64 7)) 30 (by kernel_rfl) ?_
  generalize w7.drew = w3a at hm3a hS3 ⊢
  clear hm7
  refine wpAnyU_take 0 (v := ?vs30) rfl (by kernel_rfl) (by kernel_rfl) (fun _ _ _ h => h) hS3 (Or.inl ⟨rfl, ?ys30⟩) ?rs30
  case ys30 =>
    intro W hW
    obtain ⟨hW0, hW1⟩ := hW
    go_simp
    try with_reducible rfl
  try simp only [Act.put, List.getElem_toArray, List.getElem_cons_succ, List.getElem_cons_zero, List.setIfInBounds_toArray, List.set_cons_zero, List.set_cons_succ]
  refine wpAnyU_take 1 (v := ?vs31) rfl (by kernel_rfl) (by kernel_rfl) (fun _ _ _ h => h) hS3 (Or.inl ⟨rfl, ?ys31⟩) ?rs31
  case ys31 =>
    intro W hW
    obtain ⟨hW0, hW1⟩ := hW
    go_simp
    try with_reducible rfl
  try simp only [Act.put, List.getElem_toArray, List.getElem_cons_succ, List.getElem_cons_zero, List.setIfInBounds_toArray, List.set_cons_zero, List.set_cons_succ]
  refine wpAnyU_take 2 (v := ?vs32) rfl (by kernel_rfl) (by kernel_rfl) (fun _ _ _ h => h) hS3 (Or.inl ⟨rfl, ?ys32⟩) ?rs32
  case ys32 =>
    intro W hW
    obtain ⟨hW0, hW1⟩ := hW
    go_simp
    try with_reducible rfl
  try simp only [Act.put, List.getElem_toArray, List.getElem_cons_succ, List.getElem_cons_zero, List.setIfInBounds_toArray, List.set_cons_zero, List.set_cons_succ]
  refine wpAnyU_take 3 (v := ?vs33) rfl (by kernel_rfl) (by kernel_rfl) (fun _ _ _ h => h) hS3 (Or.inl ⟨rfl, ?ys33⟩) ?rs33
  case ys33 =>
    intro W hW
    obtain ⟨hW0, hW1⟩ := hW
    go_simp
    try with_reducible rfl
  try simp only [Act.put, List.getElem_toArray, List.getElem_cons_succ, List.getElem_cons_zero, List.setIfInBounds_toArray, List.set_cons_zero, List.set_cons_succ]
  refine wpAnyU_take 4 (v := ?vs34) rfl (by kernel_rfl) (by kernel_rfl) (fun _ _ _ h => h) hS3 (Or.inl ⟨rfl, ?ys34⟩) ?rs34
  case ys34 =>
    intro W hW
    obtain ⟨hW0, hW1⟩ := hW
    go_simp
    try with_reducible rfl
  try simp only [Act.put, List.getElem_toArray, List.getElem_cons_succ, List.getElem_cons_zero, List.setIfInBounds_toArray, List.set_cons_zero, List.set_cons_succ]
  refine wpAnyU_take 5 (v := ?vs35) rfl (by kernel_rfl) (by kernel_rfl) (fun _ _ _ h => h) hS3 (Or.inl ⟨rfl, ?ys35⟩) ?rs35
  case ys35 =>
    intro W hW
    obtain ⟨hW0, hW1⟩ := hW
    go_simp
    try with_reducible rfl
  try simp only [Act.put, List.getElem_toArray, List.getElem_cons_succ, List.getElem_cons_zero, List.setIfInBounds_toArray, List.set_cons_zero, List.set_cons_succ]
  refine wpAnyU_take 6 (v := ?vs36) rfl (by kernel_rfl) (by kernel_rfl) (fun _ _ _ h => h) hS3 (Or.inl ⟨rfl, ?ys36⟩) ?rs36
  case ys36 =>
    intro W hW
    obtain ⟨hW0, hW1⟩ := hW
    go_simp
    try with_reducible rfl
  try simp only [Act.put, List.getElem_toArray, List.getElem_cons_succ, List.getElem_cons_zero, List.setIfInBounds_toArray, List.set_cons_zero, List.set_cons_succ]
  refine wpAnyU_take 7 (v := ?vs37) rfl (by kernel_rfl) (by kernel_rfl) (fun _ _ _ h => h) hS3 (Or.inl ⟨rfl, ?ys37⟩) ?rs37
  case ys37 =>
    intro W hW
    obtain ⟨hW0, hW1⟩ := hW
    go_simp
    try with_reducible rfl
  try simp only [Act.put, List.getElem_toArray, List.getElem_cons_succ, List.getElem_cons_zero, List.setIfInBounds_toArray, List.set_cons_zero, List.set_cons_succ]
  refine wpAnyU_take 8 (v := ?vs38) rfl (by kernel_rfl) (by kernel_rfl) (fun _ _ _ h => h) hS3 (Or.inl ⟨rfl, ?ys38⟩) ?rs38
  case ys38 =>
    intro W hW
    obtain ⟨hW0, hW1⟩ := hW
    go_simp
    try with_reducible rfl
  try simp only [Act.put, List.getElem_toArray, List.getElem_cons_succ, List.getElem_cons_zero, List.setIfInBounds_toArray, List.set_cons_zero, List.set_cons_succ]
  refine wpAnyU_take 9 (v := ?vs39) rfl (by kernel_rfl) (by kernel_rfl) (fun _ _ _ h => h) hS3 (Or.inl ⟨rfl, ?ys39⟩) ?rs39
  case ys39 =>
    intro W hW
    obtain ⟨hW0, hW1⟩ := hW
    go_simp
    try with_reducible rfl
  try simp only [Act.put, List.getElem_toArray, List.getElem_cons_succ, List.getElem_cons_zero, List.setIfInBounds_toArray, List.set_cons_zero, List.set_cons_succ]
  refine wpAnyU_take 10 (v := ?vs310) rfl (by kernel_rfl) (by kernel_rfl) (fun _ _ _ h => h) hS3 (Or.inl ⟨rfl, ?ys310⟩) ?rs310
  case ys310 =>
    intro W hW
    obtain ⟨hW0, hW1⟩ := hW
    go_simp
    try with_reducible rfl
  try simp only [Act.put, List.getElem_toArray, List.getElem_cons_succ, List.getElem_cons_zero, List.setIfInBounds_toArray, List.set_cons_zero, List.set_cons_succ]
  refine wpAnyU_take 11 (v := ?vs311) rfl (by kernel_rfl) (by kernel_rfl) (fun _ _ _ h => h) hS3 (Or.inl ⟨rfl, ?ys311⟩) ?rs311
  case ys311 =>
    intro W hW
    obtain ⟨hW0, hW1⟩ := hW
    go_simp
    try with_reducible rfl
  try simp only [Act.put, List.getElem_toArray, List.getElem_cons_succ, List.getElem_cons_zero, List.setIfInBounds_toArray, List.set_cons_zero, List.set_cons_succ]
  refine wpAnyU_take 12 (v := ?vs312) rfl (by kernel_rfl) (by kernel_rfl) (fun _ _ _ h => h) hS3 (Or.inl ⟨rfl, ?ys312⟩) ?rs312
  case ys312 =>
    intro W hW
    obtain ⟨hW0, hW1⟩ := hW
    go_simp
    try with_reducible rfl
  try simp only [Act.put, List.getElem_toArray, List.getElem_cons_succ, List.getElem_cons_zero, List.setIfInBounds_toArray, List.set_cons_zero, List.set_cons_succ]
  refine wpAnyU_take 13 (v := ?vs313) rfl (by kernel_rfl) (by kernel_rfl) (fun _ _ _ h => h) hS3 (Or.inl ⟨rfl, ?ys313⟩) ?rs313
  case ys313 =>
    intro W hW
    obtain ⟨hW0, hW1⟩ := hW
    go_simp
    try with_reducible rfl
  try simp only [Act.put, List.getElem_toArray, List.getElem_cons_succ, List.getElem_cons_zero, List.setIfInBounds_toArray, List.set_cons_zero, List.set_cons_succ]
  refine wpAnyU_take 14 (v := ?vs314) rfl (by kernel_rfl) (by kernel_rfl) (fun _ _ _ h => h) hS3 (Or.inl ⟨rfl, ?ys314⟩) ?rs314
  case ys314 =>
    intro W hW
    obtain ⟨hW0, hW1⟩ := hW
    go_simp
    try with_reducible rfl
  try simp only [Act.put, List.getElem_toArray, List.getElem_cons_succ, List.getElem_cons_zero, List.setIfInBounds_toArray, List.set_cons_zero, List.set_cons_succ]
  refine wpAnyU_take 15 (v := ?vs315) rfl (by kernel_rfl) (by kernel_rfl) (fun _ _ _ h => h) hS3 (Or.inl ⟨rfl, ?ys315⟩) ?rs315
  case ys315 =>
    intro W hW
    obtain ⟨hW0, hW1⟩ := hW
    go_simp
    try with_reducible rfl
  try simp only [Act.put, List.getElem_toArray, List.getElem_cons_succ, List.getElem_cons_zero, List.setIfInBounds_toArray, List.set_cons_zero, List.set_cons_succ]
  refine wpAnyU_take 16 (v := ?vs316) rfl (by kernel_rfl) (by kernel_rfl) (fun _ _ _ h => h) hS3 (Or.inl ⟨rfl, ?ys316⟩) ?rs316
  case ys316 =>
    intro W hW
    obtain ⟨hW0, hW1⟩ := hW
    go_simp
    try with_reducible rfl
  try simp only [Act.put, List.getElem_toArray, List.getElem_cons_succ, List.getElem_cons_zero, List.setIfInBounds_toArray, List.set_cons_zero, List.set_cons_succ]
  refine wpAnyU_take 17 (v := ?vs317) rfl (by kernel_rfl) (by kernel_rfl) (fun _ _ _ h => h) hS3 (Or.inl ⟨rfl, ?ys317⟩) ?rs317
  case ys317 =>
    intro W hW
    obtain ⟨hW0, hW1⟩ := hW
    go_simp
    try with_reducible rfl
  try simp only [Act.put, List.getElem_toArray, List.getElem_cons_succ, List.getElem_cons_zero, List.setIfInBounds_toArray, List.set_cons_zero, List.set_cons_succ]
  refine wpAnyU_one 18 (by kernel_rfl) rfl (fun K hK => ?_)
  refine step_callw rfl 73 Try.f73 Try.func73 (by kernel_rfl) (by kernel_rfl) _ _ rfl #[.int .i64 7] (by simp [Act.eval]) ?_
  refine (plain_ok w3a 7).mono ?_
  rintro e w3b ⟨rfl, hgp⟩
  refine ⟨_, rfl, ?_⟩
  have hm3b := hm3a.gr hgp
  have hT3 := cells_gr hgp hS3.1 hS3.2
  refine hK _ _ (fun _ => hT3) ?_
  clear hK K hS3 hm3a hgp
  try simp only [Act.put, List.getElem_toArray, List.getElem_cons_succ, List.getElem_cons_zero, List.setIfInBounds_toArray, List.set_cons_zero, List.set_cons_succ]
  refine wpAnyU_take 19 (v := ?vt319) rfl (by kernel_rfl) (by kernel_rfl) (fun _ _ _ h => h) hT3 (Or.inl ⟨rfl, ?yt319⟩) ?rt319
  case yt319 =>
    intro W hW
    obtain ⟨hW0, hW1⟩ := hW
    go_simp
    try with_reducible rfl
  try simp only [Act.put, List.getElem_toArray, List.getElem_cons_succ, List.getElem_cons_zero, List.setIfInBounds_toArray, List.set_cons_zero, List.set_cons_succ]
  refine wpAnyU_take 20 (v := ?vt320) rfl (by kernel_rfl) (by kernel_rfl) (fun _ _ _ h => h) hT3 (Or.inl ⟨rfl, ?yt320⟩) ?rt320
  case yt320 =>
    intro W hW
    obtain ⟨hW0, hW1⟩ := hW
    go_simp
    try with_reducible rfl
  try simp only [Act.put, List.getElem_toArray, List.getElem_cons_succ, List.getElem_cons_zero, List.setIfInBounds_toArray, List.set_cons_zero, List.set_cons_succ]
  refine wpAnyU_take 21 (v := ?vt321) rfl (by kernel_rfl) (by kernel_rfl) (fun _ _ _ h => h) hT3 (Or.inl ⟨rfl, ?yt321⟩) ?rt321
  case yt321 =>
    intro W hW
    obtain ⟨hW0, hW1⟩ := hW
    go_simp
    try with_reducible rfl
  try simp only [Act.put, List.getElem_toArray, List.getElem_cons_succ, List.getElem_cons_zero, List.setIfInBounds_toArray, List.set_cons_zero, List.set_cons_succ]
  refine wpAnyU_take 22 (v := ?vt322) rfl (by kernel_rfl) (by kernel_rfl) (fun _ _ _ h => h) hT3 (Or.inl ⟨rfl, ?yt322⟩) ?rt322
  case yt322 =>
    intro W hW
    obtain ⟨hW0, hW1⟩ := hW
    go_simp
    try with_reducible rfl
  try simp only [Act.put, List.getElem_toArray, List.getElem_cons_succ, List.getElem_cons_zero, List.setIfInBounds_toArray, List.set_cons_zero, List.set_cons_succ]
  refine wpAnyU_take 23 (v := ?vt323) rfl (by kernel_rfl) (by kernel_rfl) (fun _ _ _ h => h) hT3 (Or.inl ⟨rfl, ?yt323⟩) ?rt323
  case yt323 =>
    intro W hW
    obtain ⟨hW0, hW1⟩ := hW
    go_simp
    try with_reducible rfl
  try simp only [Act.put, List.getElem_toArray, List.getElem_cons_succ, List.getElem_cons_zero, List.setIfInBounds_toArray, List.set_cons_zero, List.set_cons_succ]
  refine wpAnyU_take 24 (v := ?vt324) rfl (by kernel_rfl) (by kernel_rfl) (fun _ _ _ h => h) hT3 (Or.inl ⟨rfl, ?yt324⟩) ?rt324
  case yt324 =>
    intro W hW
    obtain ⟨hW0, hW1⟩ := hW
    go_simp
    try with_reducible rfl
  try simp only [Act.put, List.getElem_toArray, List.getElem_cons_succ, List.getElem_cons_zero, List.setIfInBounds_toArray, List.set_cons_zero, List.set_cons_succ]
  refine wpAnyU_take 25 (v := ?vt325) rfl (by kernel_rfl) (by kernel_rfl) (fun _ _ _ h => h) hT3 (Or.inl ⟨rfl, ?yt325⟩) ?rt325
  case yt325 =>
    intro W hW
    obtain ⟨hW0, hW1⟩ := hW
    go_simp
    try with_reducible rfl
  try simp only [Act.put, List.getElem_toArray, List.getElem_cons_succ, List.getElem_cons_zero, List.setIfInBounds_toArray, List.set_cons_zero, List.set_cons_succ]
  refine wpAnyU_take 26 (v := ?vt326) rfl (by kernel_rfl) (by kernel_rfl) (fun _ _ _ h => h) hT3 (Or.inl ⟨rfl, ?yt326⟩) ?rt326
  case yt326 =>
    intro W hW
    obtain ⟨hW0, hW1⟩ := hW
    go_simp
    try with_reducible rfl
  try simp only [Act.put, List.getElem_toArray, List.getElem_cons_succ, List.getElem_cons_zero, List.setIfInBounds_toArray, List.set_cons_zero, List.set_cons_succ]
  refine wpAnyU_one 27 (by kernel_rfl) rfl (fun K hK => ?_)
  refine step_callw rfl 19 Try.f19 Try.func19 (by kernel_rfl) (by kernel_rfl) _ _ rfl #[.pointer (some ⟨h.g, 0, none⟩)] (by simp [Act.eval]) ?_
  have hsp := heapSpent_ok w0 w3b _ h2 hm3b m1
  rw [hg2.out, hspe] at hsp
  refine hsp.mono ?_
  rintro e w3c ⟨rfl, rfl⟩
  clear hsp
  refine ⟨_, rfl, ?_⟩
  refine hK _ _ (fun _ => hT3) ?_
  clear hK K
  try simp only [Act.put, List.getElem_toArray, List.getElem_cons_succ, List.getElem_cons_zero, List.setIfInBounds_toArray, List.set_cons_zero, List.set_cons_succ]
  refine wpAnyU_take 28 (v := ?vu328) rfl (by kernel_rfl) (by kernel_rfl) (fun _ _ _ h => h) hT3 (Or.inl ⟨rfl, ?yu328⟩) ?ru328
  case yu328 =>
    intro W hW
    obtain ⟨hW0, hW1⟩ := hW
    go_simp
    try with_reducible rfl
  try simp only [Act.put, List.getElem_toArray, List.getElem_cons_succ, List.getElem_cons_zero, List.setIfInBounds_toArray, List.set_cons_zero, List.set_cons_succ]
  refine wpAnyU_take 29 (v := ?vu329) rfl (by kernel_rfl) (by kernel_rfl) (fun _ _ _ h => h) hT3 (Or.inl ⟨rfl, ?yu329⟩) ?ru329
  case yu329 =>
    intro W hW
    obtain ⟨hW0, hW1⟩ := hW
    go_simp
    try with_reducible rfl
  try simp only [Act.put, List.getElem_toArray, List.getElem_cons_succ, List.getElem_cons_zero, List.setIfInBounds_toArray, List.set_cons_zero, List.set_cons_succ]
  refine wpAnyU_one 30 (by kernel_rfl) rfl (fun K hK => ?_)
  go_simp
  refine hK _ _ (fun h => absurd h (by decide)) ?_
  clear hK K hT3
  try simp only [Act.put, List.getElem_toArray, List.getElem_cons_succ, List.getElem_cons_zero, List.setIfInBounds_toArray, List.set_cons_zero, List.set_cons_succ]
  refine wpAnyU_done (by kernel_rfl) ?_ _
  go_wp2
  go_ret
  exact ⟨rfl, hm3b.sub (.cons _ (.cons _ (.cons _ (.cons _ (.refl _)))))⟩
theorem filled_ok (w0 w : World) (L : List Chunk) (hm : Mem w0 w L) :
    Calls Try.prog 43 #[] w fun e w' => e = .returned (.bool true) ∧ Mem w0 w' L := by
  have hw1 : Fact ((Lit.int .i64 1125899906842624).wf = true) := ⟨by decide⟩
  have hw2 : Fact ((Lit.int .i64 1125899906842625).wf = true) := ⟨by decide⟩
  go_enter Try.func43, Try.ntmps43
  go_wp2_with fail
  refine (keyed_ok w0 w _ hm 255 (by omega) 255 (by omega)).mono ?_
  rintro e w1 ⟨x, rfl, hx, hm1⟩
  clear hm
  replace hx := Fact.mk hx
  unfold cRO obC
  go_wp2_with fail
  have hm2 := hm1.alloc (.cells (cRO x).toArray 71)
  unfold cRO obC at hm2
  generalize hgb : w1.heap.size = g2 at hm2 ⊢
  generalize hwx : w1.alloc (.cells [.int .i64 x.ob.kind, .slice x.A x.ob.items.length x.c, .slice x.KA x.ob.keys.length x.kc, .int .i64 x.ob.fn, .int .i64 x.ob.cap, .bool x.ob.shut].toArray 71) = w2 at hm2 ⊢
  clear hwx hgb hm1
  refine (load_one w0 w2 _ g2 _ hm2 x rfl m0 (edg_keyed hx.out (by omega)) (by rw [hx.out]; exact fill_load) 2 (by omega) (by omega)).mono ?_
  rintro e w3 ⟨h, ha, hok, rfl, hm3⟩
  clear hm2
  rw [hx.out] at ha
  replace ha : Fact (h.abs = ⟨2, 0, [recO (nils 255) (keysTo 255)]⟩) := ⟨ha⟩
  replace hok := Fact.mk hok
  go_upto_region 5 with (refine wp_setrow rfl 27 _ _ rfl w3.heap.size rfl 27 _ [.int .i64 7, .int .i64 0] rfl (hm3.alloc _) sz_V rfl (cV_one (7, 0)) ?_; intro w4 hm4)
  generalize w3.heap.size = g3 at hm4 ⊢
  replace hm4 := hm4.swap
  clear hm3
  have hp1 := fun (W : World) (L1 : List Chunk) (h0 : Mem w0 W (HpC h :: L1)) => setF_any w0 W L1 h h0 hok 7 0 1125899906842624 hw1 2 7
  rw [ha.out, fill_set1.1, fill_set1.2.1, fill_set1.2.2] at hp1
  replace hp1 := Fact.mk hp1
  go_upto_region 5 with (fail)
  have hm1a := hm4.drew
  have hS1 : w4.drew.cell? ⟨g3, 0, none⟩ = some (.int .i64 7) ∧ w4.drew.cell? ⟨g3, 1, none⟩ = some (.int .i64 0) := ⟨hm1a.cell m1 0 rfl, hm1a.cell m1 1 rfl⟩
  refine wp_region_until (S := fun W => W.cell? ⟨g3, 0, none⟩ = some (.int .i64 7) ∧ W.cell? ⟨g3, 1, none⟩ = some (.int .i64 0)) 8 (by kernel_rfl) ?_
  generalize w4.drew = w1a at hm1a hS1 ⊢
  clear hm4
  refine wpAnyU_take 0 (v := ?vs10) rfl (by kernel_rfl) (by kernel_rfl) (fun _ _ _ h => h) hS1 (Or.inl ⟨rfl, ?ys10⟩) ?rs10
  case ys10 =>
    intro W hW
    obtain ⟨hW0, hW1⟩ := hW
    go_simp
    try with_reducible rfl
  try simp only [Act.put, List.getElem_toArray, List.getElem_cons_succ, List.getElem_cons_zero, List.setIfInBounds_toArray, List.set_cons_zero, List.set_cons_succ]
  refine wpAnyU_take 1 (v := ?vs11) rfl (by kernel_rfl) (by kernel_rfl) (fun _ _ _ h => h) hS1 (Or.inl ⟨rfl, ?ys11⟩) ?rs11
  case ys11 =>
    intro W hW
    obtain ⟨hW0, hW1⟩ := hW
    go_simp
    try with_reducible rfl
  try simp only [Act.put, List.getElem_toArray, List.getElem_cons_succ, List.getElem_cons_zero, List.setIfInBounds_toArray, List.set_cons_zero, List.set_cons_succ]
  refine wpAnyU_one 2 (by kernel_rfl) rfl (fun K hK => ?_)
  refine step_call rfl 73 Try.f73 Try.func73 (by kernel_rfl) (by kernel_rfl) _ _ rfl #[.int .i64 7] (by simp [Act.eval]) ?_
  refine (plain_ok w1a 7).mono ?_
  rintro e w1b ⟨rfl, hgp⟩
  refine ⟨_, rfl, ?_⟩
  have hm1b := hm1a.gr hgp
  have hT1 := cells_gr hgp hS1.1 hS1.2
  refine hK _ _ (fun _ => hT1) ?_
  clear hK K hS1 hm1a hgp
  try simp only [Act.put, List.getElem_toArray, List.getElem_cons_succ, List.getElem_cons_zero, List.setIfInBounds_toArray, List.set_cons_zero, List.set_cons_succ]
  refine wpAnyU_one 3 (by kernel_rfl) rfl (fun K hK => ?_)
  refine step_call rfl 24 Try.f24 Try.func24 (by kernel_rfl) (by kernel_rfl) _ _ rfl #[.pointer (some ⟨h.g, 0, none⟩), .agg #[.int .i64 7, .int .i64 0], .int .i64 1125899906842624, .agg #[.int .i64 2, .int .i64 7]] (by simp [Act.eval]) ?_
  refine (hp1.out w1b _ hm1b).mono ?_
  rintro e w1c ⟨rfl, h1, hg1, ha1, ho1, hm1c⟩
  refine ⟨_, rfl, ?_⟩
  have hU1 : w1c.cell? ⟨g3, 0, none⟩ = some (.int .i64 7) ∧ w1c.cell? ⟨g3, 1, none⟩ = some (.int .i64 0) := ⟨hm1c.cell m1 0 rfl, hm1c.cell m1 1 rfl⟩
  refine hK _ _ (fun _ => hU1) ?_
  clear hK K hT1 hm1b
  try simp only [Act.put, List.getElem_toArray, List.getElem_cons_succ, List.getElem_cons_zero, List.setIfInBounds_toArray, List.set_cons_zero, List.set_cons_succ]
  refine wpAnyU_take 4 (v := ?vu14) rfl (by kernel_rfl) (by kernel_rfl) (fun _ _ _ h => h) hU1 (Or.inl ⟨rfl, ?yu14⟩) ?ru14
  case yu14 =>
    intro W hW
    obtain ⟨hW0, hW1⟩ := hW
    go_simp
    try with_reducible rfl
  try simp only [Act.put, List.getElem_toArray, List.getElem_cons_succ, List.getElem_cons_zero, List.setIfInBounds_toArray, List.set_cons_zero, List.set_cons_succ]
  refine wpAnyU_take 5 (v := ?vu15) rfl (by kernel_rfl) (by kernel_rfl) (fun _ _ _ h => h) hU1 (Or.inl ⟨rfl, ?yu15⟩) ?ru15
  case yu15 =>
    intro W hW
    obtain ⟨hW0, hW1⟩ := hW
    go_simp
    try with_reducible rfl
  try simp only [Act.put, List.getElem_toArray, List.getElem_cons_succ, List.getElem_cons_zero, List.setIfInBounds_toArray, List.set_cons_zero, List.set_cons_succ]
  refine wpAnyU_take 6 (v := ?vu16) rfl (by kernel_rfl) (by kernel_rfl) (fun _ _ _ h => h) hU1 (Or.inl ⟨rfl, ?yu16⟩) ?ru16
  case yu16 =>
    intro W hW
    obtain ⟨hW0, hW1⟩ := hW
    go_simp
    try with_reducible rfl
  try simp only [Act.put, List.getElem_toArray, List.getElem_cons_succ, List.getElem_cons_zero, List.setIfInBounds_toArray, List.set_cons_zero, List.set_cons_succ]
  refine wpAnyU_one 7 (by kernel_rfl) rfl (fun K hK => ?_)
  go_simp
  refine hK _ _ (fun _ => hU1) ?_
  clear hK K
  try simp only [Act.put, List.getElem_toArray, List.getElem_cons_succ, List.getElem_cons_zero, List.setIfInBounds_toArray, List.set_cons_zero, List.set_cons_succ]
  refine wpAnyU_one 8 (by kernel_rfl) rfl (fun K hK => ?_)
  go_simp
  refine hK _ _ (fun h => absurd h (by decide)) ?_
  clear hK K hU1
  try simp only [Act.put, List.getElem_toArray, List.getElem_cons_succ, List.getElem_cons_zero, List.setIfInBounds_toArray, List.set_cons_zero, List.set_cons_succ]
  refine wpAnyU_done (by kernel_rfl) ?_ _
  replace hg1 := Fact.mk hg1
  replace ha1 := Fact.mk ha1
  replace ho1 := Fact.mk ho1
  clear hp1
  have hp2 := fun (W : World) (L1 : List Chunk) (h0 : Mem w0 W (HpC h1 :: L1)) => setF_any w0 W L1 h1 h0 ho1 7 0 1125899906842625 hw2 2 8
  rw [ha1.out, fill_set2.1, fill_set2.2.1, fill_set2.2.2, hg1.out] at hp2
  replace hp2 := Fact.mk hp2
  go_upto_region 6 with (fail)
  have hm2a := hm1c.drew
  have hS2 : w1c.drew.cell? ⟨g3, 0, none⟩ = some (.int .i64 7) ∧ w1c.drew.cell? ⟨g3, 1, none⟩ = some (.int .i64 0) := ⟨hm2a.cell m1 0 rfl, hm2a.cell m1 1 rfl⟩
  refine wp_region_until (S := fun W => W.cell? ⟨g3, 0, none⟩ = some (.int .i64 7) ∧ W.cell? ⟨g3, 1, none⟩ = some (.int .i64 0)) 8 (by kernel_rfl) ?_
  generalize w1c.drew = w2a at hm2a hS2 ⊢
  clear hm1c
  refine wpAnyU_take 0 (v := ?vs20) rfl (by kernel_rfl) (by kernel_rfl) (fun _ _ _ h => h) hS2 (Or.inl ⟨rfl, ?ys20⟩) ?rs20
  case ys20 =>
    intro W hW
    obtain ⟨hW0, hW1⟩ := hW
    go_simp
    try with_reducible rfl
  try simp only [Act.put, List.getElem_toArray, List.getElem_cons_succ, List.getElem_cons_zero, List.setIfInBounds_toArray, List.set_cons_zero, List.set_cons_succ]
  refine wpAnyU_take 1 (v := ?vs21) rfl (by kernel_rfl) (by kernel_rfl) (fun _ _ _ h => h) hS2 (Or.inl ⟨rfl, ?ys21⟩) ?rs21
  case ys21 =>
    intro W hW
    obtain ⟨hW0, hW1⟩ := hW
    go_simp
    try with_reducible rfl
  try simp only [Act.put, List.getElem_toArray, List.getElem_cons_succ, List.getElem_cons_zero, List.setIfInBounds_toArray, List.set_cons_zero, List.set_cons_succ]
  refine wpAnyU_one 2 (by kernel_rfl) rfl (fun K hK => ?_)
  refine step_call rfl 73 Try.f73 Try.func73 (by kernel_rfl) (by kernel_rfl) _ _ rfl #[.int .i64 8] (by simp [Act.eval]) ?_
  refine (plain_ok w2a 8).mono ?_
  rintro e w2b ⟨rfl, hgp⟩
  refine ⟨_, rfl, ?_⟩
  have hm2b := hm2a.gr hgp
  have hT2 := cells_gr hgp hS2.1 hS2.2
  refine hK _ _ (fun _ => hT2) ?_
  clear hK K hS2 hm2a hgp
  try simp only [Act.put, List.getElem_toArray, List.getElem_cons_succ, List.getElem_cons_zero, List.setIfInBounds_toArray, List.set_cons_zero, List.set_cons_succ]
  refine wpAnyU_one 3 (by kernel_rfl) rfl (fun K hK => ?_)
  refine step_call rfl 24 Try.f24 Try.func24 (by kernel_rfl) (by kernel_rfl) _ _ rfl #[.pointer (some ⟨h.g, 0, none⟩), .agg #[.int .i64 7, .int .i64 0], .int .i64 1125899906842625, .agg #[.int .i64 2, .int .i64 8]] (by simp [Act.eval]) ?_
  refine (hp2.out w2b _ hm2b).mono ?_
  rintro e w2c ⟨rfl, h2, hg2, ha2, ho2, hm2c⟩
  refine ⟨_, rfl, ?_⟩
  have hU2 : w2c.cell? ⟨g3, 0, none⟩ = some (.int .i64 7) ∧ w2c.cell? ⟨g3, 1, none⟩ = some (.int .i64 0) := ⟨hm2c.cell m1 0 rfl, hm2c.cell m1 1 rfl⟩
  refine hK _ _ (fun _ => hU2) ?_
  clear hK K hT2 hm2b
  try simp only [Act.put, List.getElem_toArray, List.getElem_cons_succ, List.getElem_cons_zero, List.setIfInBounds_toArray, List.set_cons_zero, List.set_cons_succ]
  refine wpAnyU_take 4 (v := ?vu24) rfl (by kernel_rfl) (by kernel_rfl) (fun _ _ _ h => h) hU2 (Or.inl ⟨rfl, ?yu24⟩) ?ru24
  case yu24 =>
    intro W hW
    obtain ⟨hW0, hW1⟩ := hW
    go_simp
    try with_reducible rfl
  try simp only [Act.put, List.getElem_toArray, List.getElem_cons_succ, List.getElem_cons_zero, List.setIfInBounds_toArray, List.set_cons_zero, List.set_cons_succ]
  refine wpAnyU_take 5 (v := ?vu25) rfl (by kernel_rfl) (by kernel_rfl) (fun _ _ _ h => h) hU2 (Or.inl ⟨rfl, ?yu25⟩) ?ru25
  case yu25 =>
    intro W hW
    obtain ⟨hW0, hW1⟩ := hW
    go_simp
    try with_reducible rfl
  try simp only [Act.put, List.getElem_toArray, List.getElem_cons_succ, List.getElem_cons_zero, List.setIfInBounds_toArray, List.set_cons_zero, List.set_cons_succ]
  refine wpAnyU_take 6 (v := ?vu26) rfl (by kernel_rfl) (by kernel_rfl) (fun _ _ _ h => h) hU2 (Or.inl ⟨rfl, ?yu26⟩) ?ru26
  case yu26 =>
    intro W hW
    obtain ⟨hW0, hW1⟩ := hW
    go_simp
    try with_reducible rfl
  try simp only [Act.put, List.getElem_toArray, List.getElem_cons_succ, List.getElem_cons_zero, List.setIfInBounds_toArray, List.set_cons_zero, List.set_cons_succ]
  refine wpAnyU_one 7 (by kernel_rfl) rfl (fun K hK => ?_)
  go_simp
  refine hK _ _ (fun _ => hU2) ?_
  clear hK K
  try simp only [Act.put, List.getElem_toArray, List.getElem_cons_succ, List.getElem_cons_zero, List.setIfInBounds_toArray, List.set_cons_zero, List.set_cons_succ]
  refine wpAnyU_one 8 (by kernel_rfl) rfl (fun K hK => ?_)
  go_simp
  refine hK _ _ (fun h => absurd h (by decide)) ?_
  clear hK K hU2
  try simp only [Act.put, List.getElem_toArray, List.getElem_cons_succ, List.getElem_cons_zero, List.setIfInBounds_toArray, List.set_cons_zero, List.set_cons_succ]
  refine wpAnyU_done (by kernel_rfl) ?_ _
  replace hg2 := Fact.mk hg2
  replace ha2 := Fact.mk ha2
  replace ho2 := Fact.mk ho2
  clear hp2
  have hp3 := fun (W : World) (L1 : List Chunk) (h0 : Mem w0 W (HpC h2 :: L1)) => setF_any w0 W L1 h2 h0 ho2 7 0 1125899906842624 hw1 2 9
  rw [ha2.out, fill_set3.1, fill_set3.2.1, fill_set3.2.2, hg2.out] at hp3
  replace hp3 := Fact.mk hp3
  go_upto_region 7 with (fail)
  have hm3a := hm2c.drew
  have hS3 : w2c.drew.cell? ⟨g3, 0, none⟩ = some (.int .i64 7) ∧ w2c.drew.cell? ⟨g3, 1, none⟩ = some (.int .i64 0) := ⟨hm3a.cell m1 0 rfl, hm3a.cell m1 1 rfl⟩
  refine wp_region_until (S := fun W => W.cell? ⟨g3, 0, none⟩ = some (.int .i64 7) ∧ W.cell? ⟨g3, 1, none⟩ = some (.int .i64 0)) 8 (by kernel_rfl) ?_
  generalize w2c.drew = w3a at hm3a hS3 ⊢
  clear hm2c
  refine wpAnyU_take 0 (v := ?vs30) rfl (by kernel_rfl) (by kernel_rfl) (fun _ _ _ h => h) hS3 (Or.inl ⟨rfl, ?ys30⟩) ?rs30
  case ys30 =>
    intro W hW
    obtain ⟨hW0, hW1⟩ := hW
    go_simp
    try with_reducible rfl
  try simp only [Act.put, List.getElem_toArray, List.getElem_cons_succ, List.getElem_cons_zero, List.setIfInBounds_toArray, List.set_cons_zero, List.set_cons_succ]
  refine wpAnyU_take 1 (v := ?vs31) rfl (by kernel_rfl) (by kernel_rfl) (fun _ _ _ h => h) hS3 (Or.inl ⟨rfl, ?ys31⟩) ?rs31
  case ys31 =>
    intro W hW
    obtain ⟨hW0, hW1⟩ := hW
    go_simp
    try with_reducible rfl
  try simp only [Act.put, List.getElem_toArray, List.getElem_cons_succ, List.getElem_cons_zero, List.setIfInBounds_toArray, List.set_cons_zero, List.set_cons_succ]
  refine wpAnyU_one 2 (by kernel_rfl) rfl (fun K hK => ?_)
  refine step_call rfl 73 Try.f73 Try.func73 (by kernel_rfl) (by kernel_rfl) _ _ rfl #[.int .i64 9] (by simp [Act.eval]) ?_
  refine (plain_ok w3a 9).mono ?_
  rintro e w3b ⟨rfl, hgp⟩
  refine ⟨_, rfl, ?_⟩
  have hm3b := hm3a.gr hgp
  have hT3 := cells_gr hgp hS3.1 hS3.2
  refine hK _ _ (fun _ => hT3) ?_
  clear hK K hS3 hm3a hgp
  try simp only [Act.put, List.getElem_toArray, List.getElem_cons_succ, List.getElem_cons_zero, List.setIfInBounds_toArray, List.set_cons_zero, List.set_cons_succ]
  refine wpAnyU_one 3 (by kernel_rfl) rfl (fun K hK => ?_)
  refine step_call rfl 24 Try.f24 Try.func24 (by kernel_rfl) (by kernel_rfl) _ _ rfl #[.pointer (some ⟨h.g, 0, none⟩), .agg #[.int .i64 7, .int .i64 0], .int .i64 1125899906842624, .agg #[.int .i64 2, .int .i64 9]] (by simp [Act.eval]) ?_
  refine (hp3.out w3b _ hm3b).mono ?_
  rintro e w3c ⟨rfl, h3, hg3, ha3, ho3, hm3c⟩
  refine ⟨_, rfl, ?_⟩
  have hU3 : w3c.cell? ⟨g3, 0, none⟩ = some (.int .i64 7) ∧ w3c.cell? ⟨g3, 1, none⟩ = some (.int .i64 0) := ⟨hm3c.cell m1 0 rfl, hm3c.cell m1 1 rfl⟩
  refine hK _ _ (fun _ => hU3) ?_
  clear hK K hT3 hm3b
  try simp only [Act.put, List.getElem_toArray, List.getElem_cons_succ, List.getElem_cons_zero, List.setIfInBounds_toArray, List.set_cons_zero, List.set_cons_succ]
  refine wpAnyU_take 4 (v := ?vu34) rfl (by kernel_rfl) (by kernel_rfl) (fun _ _ _ h => h) hU3 (Or.inl ⟨rfl, ?yu34⟩) ?ru34
  case yu34 =>
    intro W hW
    obtain ⟨hW0, hW1⟩ := hW
    go_simp
    try with_reducible rfl
  try simp only [Act.put, List.getElem_toArray, List.getElem_cons_succ, List.getElem_cons_zero, List.setIfInBounds_toArray, List.set_cons_zero, List.set_cons_succ]
  refine wpAnyU_take 5 (v := ?vu35) rfl (by kernel_rfl) (by kernel_rfl) (fun _ _ _ h => h) hU3 (Or.inl ⟨rfl, ?yu35⟩) ?ru35
  case yu35 =>
    intro W hW
    obtain ⟨hW0, hW1⟩ := hW
    go_simp
    try with_reducible rfl
  try simp only [Act.put, List.getElem_toArray, List.getElem_cons_succ, List.getElem_cons_zero, List.setIfInBounds_toArray, List.set_cons_zero, List.set_cons_succ]
  refine wpAnyU_take 6 (v := ?vu36) rfl (by kernel_rfl) (by kernel_rfl) (fun _ _ _ h => h) hU3 (Or.inl ⟨rfl, ?yu36⟩) ?ru36
  case yu36 =>
    intro W hW
    obtain ⟨hW0, hW1⟩ := hW
    go_simp
    try with_reducible rfl
  try simp only [Act.put, List.getElem_toArray, List.getElem_cons_succ, List.getElem_cons_zero, List.setIfInBounds_toArray, List.set_cons_zero, List.set_cons_succ]
  refine wpAnyU_one 7 (by kernel_rfl) rfl (fun K hK => ?_)
  go_simp
  refine hK _ _ (fun _ => hU3) ?_
  clear hK K
  try simp only [Act.put, List.getElem_toArray, List.getElem_cons_succ, List.getElem_cons_zero, List.setIfInBounds_toArray, List.set_cons_zero, List.set_cons_succ]
  refine wpAnyU_one 8 (by kernel_rfl) rfl (fun K hK => ?_)
  go_simp
  refine hK _ _ (fun h => absurd h (by decide)) ?_
  clear hK K hU3
  try simp only [Act.put, List.getElem_toArray, List.getElem_cons_succ, List.getElem_cons_zero, List.setIfInBounds_toArray, List.set_cons_zero, List.set_cons_succ]
  refine wpAnyU_done (by kernel_rfl) ?_ _
  replace hg3 := Fact.mk hg3
  replace ha3 := Fact.mk ha3
  replace ho3 := Fact.mk ho3
  clear hp3
  have hp4 := fun (W : World) (L1 : List Chunk) (h0 : Mem w0 W (HpC h3 :: L1)) => field_any w0 W L1 h3 h0 ho3 7 0 1125899906842624 hw1
  rw [ha3.out, fill_ask.1, fill_ask.2.1, hg3.out] at hp4
  replace hp4 := Fact.mk hp4
  have hp5 := fun (W : World) (L1 : List Chunk) (h0 : Mem w0 W (HpC h3 :: L1)) => has_any w0 W L1 h3 h0 ho3 7 0 1125899906842624 hw1
  rw [ha3.out, fill_ask.2.2.1, hg3.out] at hp5
  replace hp5 := Fact.mk hp5
  have hp6 := fun (W : World) (L1 : List Chunk) (h0 : Mem w0 W (HpC h3 :: L1)) => size_any w0 W L1 h3 h0 ho3 7 0
  rw [ha3.out, fill_ask.2.2.2, hg3.out] at hp6
  replace hp6 := Fact.mk hp6
  go_wp2_with (refine wp_rng rfl 27 _ rfl g3 0 rfl [.int .i64 7, .int .i64 0] (rng_blk hm3c m1) row_V sz_V ?_)
  refine (hp4.out w3c _ hm3c).mono ?_
  rintro e w5 ⟨rfl, hm5⟩
  clear hm3c hp4
  go_wp2_with (first | (refine wp_setrow rfl 27 _ _ rfl w5.heap.size rfl 27 _ [.int .i64 2, .int .i64 9] rfl (hm5.alloc _) sz_V rfl (cV_one (2, 9)) ?_; intro w6 hm6) | (refine wp_rng rfl 27 _ rfl g3 0 rfl [.int .i64 7, .int .i64 0] (rng_blk hm6 m2) row_V sz_V ?_))
  generalize w5.heap.size = g10 at hm6 ⊢
  clear hm5
  refine (hp5.out w6 _ hm6.swap).mono ?_
  rintro e w7 ⟨rfl, hm7⟩
  clear hm6 hp5
  go_wp2_with (refine wp_rng rfl 27 _ rfl g3 0 rfl [.int .i64 7, .int .i64 0] (rng_blk hm7 m2) row_V sz_V ?_)
  refine (hp6.out w7 _ hm7).mono ?_
  rintro e w8 ⟨rfl, hm8⟩
  replace hm8 := hm8.swap
  clear hm7 hp6
  have hspe : h3.spent = 2 := congrArg Hs.spent ha3.out
  go_upto_region 11 with (fail)
  have hm4a := hm8.drew
  have hS4 : w8.drew.cell? ⟨g10, 0, none⟩ = some (.int .i64 2) ∧ w8.drew.cell? ⟨g10, 1, none⟩ = some (.int .i64 9) := ⟨hm4a.cell m0 0 rfl, hm4a.cell m0 1 rfl⟩
  refine wp_region_until (S := fun W => W.cell? ⟨g10, 0, none⟩ = some (.int .i64 2) ∧ W.cell? ⟨g10, 1, none⟩ = some (.int .i64 9)) 43 (by kernel_rfl) ?_
  generalize w8.drew = w4a at hm4a hS4 ⊢
  clear hm8
  refine wpAnyU_take 0 (v := ?vs40) rfl (by kernel_rfl) (by kernel_rfl) (fun _ _ _ h => h) hS4 (Or.inl ⟨rfl, ?ys40⟩) ?rs40
  case ys40 =>
    intro W hW
    obtain ⟨hW0, hW1⟩ := hW
    go_simp
    try with_reducible rfl
  try simp only [Act.put, List.getElem_toArray, List.getElem_cons_succ, List.getElem_cons_zero, List.setIfInBounds_toArray, List.set_cons_zero, List.set_cons_succ]
  refine wpAnyU_take 1 (v := ?vs41) rfl (by kernel_rfl) (by kernel_rfl) (fun _ _ _ h => h) hS4 (Or.inl ⟨rfl, ?ys41⟩) ?rs41
  case ys41 =>
    intro W hW
    obtain ⟨hW0, hW1⟩ := hW
    go_simp
    try with_reducible rfl
  try simp only [Act.put, List.getElem_toArray, List.getElem_cons_succ, List.getElem_cons_zero, List.setIfInBounds_toArray, List.set_cons_zero, List.set_cons_succ]
  refine wpAnyU_take 2 (v := ?vs42) rfl (by kernel_rfl) (by kernel_rfl) (fun _ _ _ h => h) hS4 (Or.inl ⟨rfl, ?ys42⟩) ?rs42
  case ys42 =>
    intro W hW
    obtain ⟨hW0, hW1⟩ := hW
    go_simp
    try with_reducible rfl
  try simp only [Act.put, List.getElem_toArray, List.getElem_cons_succ, List.getElem_cons_zero, List.setIfInBounds_toArray, List.set_cons_zero, List.set_cons_succ]
  refine wpAnyU_take 3 (v := ?vs43) rfl (by kernel_rfl) (by kernel_rfl) (fun _ _ _ h => h) hS4 (Or.inl ⟨rfl, ?ys43⟩) ?rs43
  case ys43 =>
    intro W hW
    obtain ⟨hW0, hW1⟩ := hW
    go_simp
    try with_reducible rfl
  try simp only [Act.put, List.getElem_toArray, List.getElem_cons_succ, List.getElem_cons_zero, List.setIfInBounds_toArray, List.set_cons_zero, List.set_cons_succ]
  refine wpAnyU_take 4 (v := ?vs44) rfl (by kernel_rfl) (by kernel_rfl) (fun _ _ _ h => h) hS4 (Or.inl ⟨rfl, ?ys44⟩) ?rs44
  case ys44 =>
    intro W hW
    obtain ⟨hW0, hW1⟩ := hW
    go_simp
    try with_reducible rfl
  try simp only [Act.put, List.getElem_toArray, List.getElem_cons_succ, List.getElem_cons_zero, List.setIfInBounds_toArray, List.set_cons_zero, List.set_cons_succ]
  refine wpAnyU_take 5 (v := ?vs45) rfl (by kernel_rfl) (by kernel_rfl) (fun _ _ _ h => h) hS4 (Or.inl ⟨rfl, ?ys45⟩) ?rs45
  case ys45 =>
    intro W hW
    obtain ⟨hW0, hW1⟩ := hW
    go_simp
    try with_reducible rfl
  try simp only [Act.put, List.getElem_toArray, List.getElem_cons_succ, List.getElem_cons_zero, List.setIfInBounds_toArray, List.set_cons_zero, List.set_cons_succ]
  refine wpAnyU_take 6 (v := ?vs46) rfl (by kernel_rfl) (by kernel_rfl) (fun _ _ _ h => h) hS4 (Or.inl ⟨rfl, ?ys46⟩) ?rs46
  case ys46 =>
    intro W hW
    obtain ⟨hW0, hW1⟩ := hW
    go_simp
    try with_reducible rfl
  try simp only [Act.put, List.getElem_toArray, List.getElem_cons_succ, List.getElem_cons_zero, List.setIfInBounds_toArray, List.set_cons_zero, List.set_cons_succ]
  refine wpAnyU_take 7 (v := ?vs47) rfl (by kernel_rfl) (by kernel_rfl) (fun _ _ _ h => h) hS4 (Or.inl ⟨rfl, ?ys47⟩) ?rs47
  case ys47 =>
    intro W hW
    obtain ⟨hW0, hW1⟩ := hW
    go_simp
    try with_reducible rfl
  try simp only [Act.put, List.getElem_toArray, List.getElem_cons_succ, List.getElem_cons_zero, List.setIfInBounds_toArray, List.set_cons_zero, List.set_cons_succ]
  refine wpAnyU_take 8 (v := ?vs48) rfl (by kernel_rfl) (by kernel_rfl) (fun _ _ _ h => h) hS4 (Or.inl ⟨rfl, ?ys48⟩) ?rs48
  case ys48 =>
    intro W hW
    obtain ⟨hW0, hW1⟩ := hW
    go_simp
    try with_reducible rfl
  try simp only [Act.put, List.getElem_toArray, List.getElem_cons_succ, List.getElem_cons_zero, List.setIfInBounds_toArray, List.set_cons_zero, List.set_cons_succ]
  refine wpAnyU_take 9 (v := ?vs49) rfl (by kernel_rfl) (by kernel_rfl) (fun _ _ _ h => h) hS4 (Or.inl ⟨rfl, ?ys49⟩) ?rs49
  case ys49 =>
    intro W hW
    obtain ⟨hW0, hW1⟩ := hW
    go_simp
    try with_reducible rfl
  try simp only [Act.put, List.getElem_toArray, List.getElem_cons_succ, List.getElem_cons_zero, List.setIfInBounds_toArray, List.set_cons_zero, List.set_cons_succ]
  refine wpAnyU_take 10 (v := ?vs410) rfl (by kernel_rfl) (by kernel_rfl) (fun _ _ _ h => h) hS4 (Or.inl ⟨rfl, ?ys410⟩) ?rs410
  case ys410 =>
    intro W hW
    obtain ⟨hW0, hW1⟩ := hW
    go_simp
    try with_reducible rfl
  try simp only [Act.put, List.getElem_toArray, List.getElem_cons_succ, List.getElem_cons_zero, List.setIfInBounds_toArray, List.set_cons_zero, List.set_cons_succ]
  refine wpAnyU_take 11 (v := ?vs411) rfl (by kernel_rfl) (by kernel_rfl) (fun _ _ _ h => h) hS4 (Or.inl ⟨rfl, ?ys411⟩) ?rs411
  case ys411 =>
    intro W hW
    obtain ⟨hW0, hW1⟩ := hW
    go_simp
    try with_reducible rfl
  try simp only [Act.put, List.getElem_toArray, List.getElem_cons_succ, List.getElem_cons_zero, List.setIfInBounds_toArray, List.set_cons_zero, List.set_cons_succ]
  refine wpAnyU_take 12 (v := ?vs412) rfl (by kernel_rfl) (by kernel_rfl) (fun _ _ _ h => h) hS4 (Or.inl ⟨rfl, ?ys412⟩) ?rs412
  case ys412 =>
    intro W hW
    obtain ⟨hW0, hW1⟩ := hW
    go_simp
    try with_reducible rfl
  try simp only [Act.put, List.getElem_toArray, List.getElem_cons_succ, List.getElem_cons_zero, List.setIfInBounds_toArray, List.set_cons_zero, List.set_cons_succ]
  refine wpAnyU_take 13 (v := ?vs413) rfl (by kernel_rfl) (by kernel_rfl) (fun _ _ _ h => h) hS4 (Or.inl ⟨rfl, ?ys413⟩) ?rs413
  case ys413 =>
    intro W hW
    obtain ⟨hW0, hW1⟩ := hW
    go_simp
    try with_reducible rfl
  try simp only [Act.put, List.getElem_toArray, List.getElem_cons_succ, List.getElem_cons_zero, List.setIfInBounds_toArray, List.set_cons_zero, List.set_cons_succ]
  refine wpAnyU_take 14 (v := ?vs414) rfl (by kernel_rfl) (by kernel_rfl) (fun _ _ _ h => h) hS4 (Or.inl ⟨rfl, ?ys414⟩) ?rs414
  case ys414 =>
    intro W hW
    obtain ⟨hW0, hW1⟩ := hW
    go_simp
    try with_reducible rfl
  try simp only [Act.put, List.getElem_toArray, List.getElem_cons_succ, List.getElem_cons_zero, List.setIfInBounds_toArray, List.set_cons_zero, List.set_cons_succ]
  refine wpAnyU_take 15 (v := ?vs415) rfl (by kernel_rfl) (by kernel_rfl) (fun _ _ _ h => h) hS4 (Or.inl ⟨rfl, ?ys415⟩) ?rs415
  case ys415 =>
    intro W hW
    obtain ⟨hW0, hW1⟩ := hW
    go_simp
    try with_reducible rfl
  try simp only [Act.put, List.getElem_toArray, List.getElem_cons_succ, List.getElem_cons_zero, List.setIfInBounds_toArray, List.set_cons_zero, List.set_cons_succ]
  refine wpAnyU_take 16 (v := ?vs416) rfl (by kernel_rfl) (by kernel_rfl) (fun _ _ _ h => h) hS4 (Or.inl ⟨rfl, ?ys416⟩) ?rs416
  case ys416 =>
    intro W hW
    obtain ⟨hW0, hW1⟩ := hW
    go_simp
    try with_reducible rfl
  try simp only [Act.put, List.getElem_toArray, List.getElem_cons_succ, List.getElem_cons_zero, List.setIfInBounds_toArray, List.set_cons_zero, List.set_cons_succ]
  refine wpAnyU_take 17 (v := ?vs417) rfl (by kernel_rfl) (by kernel_rfl) (fun _ _ _ h => h) hS4 (Or.inl ⟨rfl, ?ys417⟩) ?rs417
  case ys417 =>
    intro W hW
    obtain ⟨hW0, hW1⟩ := hW
    go_simp
    try with_reducible rfl
  try simp only [Act.put, List.getElem_toArray, List.getElem_cons_succ, List.getElem_cons_zero, List.setIfInBounds_toArray, List.set_cons_zero, List.set_cons_succ]
  refine wpAnyU_take 18 (v := ?vs418) rfl (by kernel_rfl) (by kernel_rfl) (fun _ _ _ h => h) hS4 (Or.inl ⟨rfl, ?ys418⟩) ?rs418
  case ys418 =>
    intro W hW
    obtain ⟨hW0, hW1⟩ := hW
    go_simp
    try with_reducible rfl
  try simp only [Act.put, List.getElem_toArray, List.getElem_cons_succ, List.getElem_cons_zero, List.setIfInBounds_toArray, List.set_cons_zero, List.set_cons_succ]
  refine wpAnyU_take 19 (v := ?vs419) rfl (by kernel_rfl) (by kernel_rfl) (fun _ _ _ h => h) hS4 (Or.inl ⟨rfl, ?ys419⟩) ?rs419
  case ys419 =>
    intro W hW
    obtain ⟨hW0, hW1⟩ := hW
    go_simp
    try with_reducible rfl
  try simp only [Act.put, List.getElem_toArray, List.getElem_cons_succ, List.getElem_cons_zero, List.setIfInBounds_toArray, List.set_cons_zero, List.set_cons_succ]
  refine wpAnyU_take 20 (v := ?vs420) rfl (by kernel_rfl) (by kernel_rfl) (fun _ _ _ h => h) hS4 (Or.inl ⟨rfl, ?ys420⟩) ?rs420
  case ys420 =>
    intro W hW
    obtain ⟨hW0, hW1⟩ := hW
    go_simp
    try with_reducible rfl
  try simp only [Act.put, List.getElem_toArray, List.getElem_cons_succ, List.getElem_cons_zero, List.setIfInBounds_toArray, List.set_cons_zero, List.set_cons_succ]
  refine wpAnyU_take 21 (v := ?vs421) rfl (by kernel_rfl) (by kernel_rfl) (fun _ _ _ h => h) hS4 (Or.inl ⟨rfl, ?ys421⟩) ?rs421
  case ys421 =>
    intro W hW
    obtain ⟨hW0, hW1⟩ := hW
    go_simp
    try with_reducible rfl
  try simp only [Act.put, List.getElem_toArray, List.getElem_cons_succ, List.getElem_cons_zero, List.setIfInBounds_toArray, List.set_cons_zero, List.set_cons_succ]
  refine wpAnyU_take 22 (v := ?vs422) rfl (by kernel_rfl) (by kernel_rfl) (fun _ _ _ h => h) hS4 (Or.inl ⟨rfl, ?ys422⟩) ?rs422
  case ys422 =>
    intro W hW
    obtain ⟨hW0, hW1⟩ := hW
    go_simp
    try with_reducible rfl
  try simp only [Act.put, List.getElem_toArray, List.getElem_cons_succ, List.getElem_cons_zero, List.setIfInBounds_toArray, List.set_cons_zero, List.set_cons_succ]
  refine wpAnyU_take 23 (v := ?vs423) rfl (by kernel_rfl) (by kernel_rfl) (fun _ _ _ h => h) hS4 (Or.inl ⟨rfl, ?ys423⟩) ?rs423
  case ys423 =>
    intro W hW
    obtain ⟨hW0, hW1⟩ := hW
    go_simp
    try with_reducible rfl
  try simp only [Act.put, List.getElem_toArray, List.getElem_cons_succ, List.getElem_cons_zero, List.setIfInBounds_toArray, List.set_cons_zero, List.set_cons_succ]
  refine wpAnyU_one 24 (by kernel_rfl) rfl (fun K hK => ?_)
  refine step_callw rfl 73 Try.f73 Try.func73 (by kernel_rfl) (by kernel_rfl) _ _ rfl #[.int .i64 9] (by simp [Act.eval]) ?_
  refine (plain_ok w4a 9).mono ?_
  rintro e w4b ⟨rfl, hgp⟩
  refine ⟨_, rfl, ?_⟩
  have hm4b := hm4a.gr hgp
  have hT4 := cells_gr hgp hS4.1 hS4.2
  refine hK _ _ (fun _ => hT4) ?_
  clear hK K hS4 hm4a hgp
  try simp only [Act.put, List.getElem_toArray, List.getElem_cons_succ, List.getElem_cons_zero, List.setIfInBounds_toArray, List.set_cons_zero, List.set_cons_succ]
  refine wpAnyU_take 25 (v := ?vt425) rfl (by kernel_rfl) (by kernel_rfl) (fun _ _ _ h => h) hT4 (Or.inl ⟨rfl, ?yt425⟩) ?rt425
  case yt425 =>
    intro W hW
    obtain ⟨hW0, hW1⟩ := hW
    go_simp
    try with_reducible rfl
  try simp only [Act.put, List.getElem_toArray, List.getElem_cons_succ, List.getElem_cons_zero, List.setIfInBounds_toArray, List.set_cons_zero, List.set_cons_succ]
  refine wpAnyU_take 26 (v := ?vt426) rfl (by kernel_rfl) (by kernel_rfl) (fun _ _ _ h => h) hT4 (Or.inl ⟨rfl, ?yt426⟩) ?rt426
  case yt426 =>
    intro W hW
    obtain ⟨hW0, hW1⟩ := hW
    go_simp
    try with_reducible rfl
  try simp only [Act.put, List.getElem_toArray, List.getElem_cons_succ, List.getElem_cons_zero, List.setIfInBounds_toArray, List.set_cons_zero, List.set_cons_succ]
  refine wpAnyU_take 27 (v := ?vt427) rfl (by kernel_rfl) (by kernel_rfl) (fun _ _ _ h => h) hT4 (Or.inl ⟨rfl, ?yt427⟩) ?rt427
  case yt427 =>
    intro W hW
    obtain ⟨hW0, hW1⟩ := hW
    go_simp
    try with_reducible rfl
  try simp only [Act.put, List.getElem_toArray, List.getElem_cons_succ, List.getElem_cons_zero, List.setIfInBounds_toArray, List.set_cons_zero, List.set_cons_succ]
  refine wpAnyU_take 28 (v := ?vt428) rfl (by kernel_rfl) (by kernel_rfl) (fun _ _ _ h => h) hT4 (Or.inl ⟨rfl, ?yt428⟩) ?rt428
  case yt428 =>
    intro W hW
    obtain ⟨hW0, hW1⟩ := hW
    go_simp
    try with_reducible rfl
  try simp only [Act.put, List.getElem_toArray, List.getElem_cons_succ, List.getElem_cons_zero, List.setIfInBounds_toArray, List.set_cons_zero, List.set_cons_succ]
  refine wpAnyU_take 29 (v := ?vt429) rfl (by kernel_rfl) (by kernel_rfl) (fun _ _ _ h => h) hT4 (Or.inl ⟨rfl, ?yt429⟩) ?rt429
  case yt429 =>
    intro W hW
    obtain ⟨hW0, hW1⟩ := hW
    go_simp
    try with_reducible rfl
  try simp only [Act.put, List.getElem_toArray, List.getElem_cons_succ, List.getElem_cons_zero, List.setIfInBounds_toArray, List.set_cons_zero, List.set_cons_succ]
  refine wpAnyU_take 30 (v := ?vt430) rfl (by kernel_rfl) (by kernel_rfl) (fun _ _ _ h => h) hT4 (Or.inl ⟨rfl, ?yt430⟩) ?rt430
  case yt430 =>
    intro W hW
    obtain ⟨hW0, hW1⟩ := hW
    go_simp
    try with_reducible rfl
  try simp only [Act.put, List.getElem_toArray, List.getElem_cons_succ, List.getElem_cons_zero, List.setIfInBounds_toArray, List.set_cons_zero, List.set_cons_succ]
  refine wpAnyU_take 31 (v := ?vt431) rfl (by kernel_rfl) (by kernel_rfl) (fun _ _ _ h => h) hT4 (Or.inl ⟨rfl, ?yt431⟩) ?rt431
  case yt431 =>
    intro W hW
    obtain ⟨hW0, hW1⟩ := hW
    go_simp
    try with_reducible rfl
  try simp only [Act.put, List.getElem_toArray, List.getElem_cons_succ, List.getElem_cons_zero, List.setIfInBounds_toArray, List.set_cons_zero, List.set_cons_succ]
  refine wpAnyU_take 32 (v := ?vt432) rfl (by kernel_rfl) (by kernel_rfl) (fun _ _ _ h => h) hT4 (Or.inl ⟨rfl, ?yt432⟩) ?rt432
  case yt432 =>
    intro W hW
    obtain ⟨hW0, hW1⟩ := hW
    go_simp
    try with_reducible rfl
  try simp only [Act.put, List.getElem_toArray, List.getElem_cons_succ, List.getElem_cons_zero, List.setIfInBounds_toArray, List.set_cons_zero, List.set_cons_succ]
  refine wpAnyU_take 33 (v := ?vt433) rfl (by kernel_rfl) (by kernel_rfl) (fun _ _ _ h => h) hT4 (Or.inl ⟨rfl, ?yt433⟩) ?rt433
  case yt433 =>
    intro W hW
    obtain ⟨hW0, hW1⟩ := hW
    go_simp
    try with_reducible rfl
  try simp only [Act.put, List.getElem_toArray, List.getElem_cons_succ, List.getElem_cons_zero, List.setIfInBounds_toArray, List.set_cons_zero, List.set_cons_succ]
  refine wpAnyU_take 34 (v := ?vt434) rfl (by kernel_rfl) (by kernel_rfl) (fun _ _ _ h => h) hT4 (Or.inl ⟨rfl, ?yt434⟩) ?rt434
  case yt434 =>
    intro W hW
    obtain ⟨hW0, hW1⟩ := hW
    go_simp
    try with_reducible rfl
  try simp only [Act.put, List.getElem_toArray, List.getElem_cons_succ, List.getElem_cons_zero, List.setIfInBounds_toArray, List.set_cons_zero, List.set_cons_succ]
  refine wpAnyU_take 35 (v := ?vt435) rfl (by kernel_rfl) (by kernel_rfl) (fun _ _ _ h => h) hT4 (Or.inl ⟨rfl, ?yt435⟩) ?rt435
  case yt435 =>
    intro W hW
    obtain ⟨hW0, hW1⟩ := hW
    go_simp
    try with_reducible rfl
  try simp only [Act.put, List.getElem_toArray, List.getElem_cons_succ, List.getElem_cons_zero, List.setIfInBounds_toArray, List.set_cons_zero, List.set_cons_succ]
  refine wpAnyU_take 36 (v := ?vt436) rfl (by kernel_rfl) (by kernel_rfl) (fun _ _ _ h => h) hT4 (Or.inl ⟨rfl, ?yt436⟩) ?rt436
  case yt436 =>
    intro W hW
    obtain ⟨hW0, hW1⟩ := hW
    go_simp
    try with_reducible rfl
  try simp only [Act.put, List.getElem_toArray, List.getElem_cons_succ, List.getElem_cons_zero, List.setIfInBounds_toArray, List.set_cons_zero, List.set_cons_succ]
  refine wpAnyU_take 37 (v := ?vt437) rfl (by kernel_rfl) (by kernel_rfl) (fun _ _ _ h => h) hT4 (Or.inl ⟨rfl, ?yt437⟩) ?rt437
  case yt437 =>
    intro W hW
    obtain ⟨hW0, hW1⟩ := hW
    go_simp
    try with_reducible rfl
  try simp only [Act.put, List.getElem_toArray, List.getElem_cons_succ, List.getElem_cons_zero, List.setIfInBounds_toArray, List.set_cons_zero, List.set_cons_succ]
  refine wpAnyU_take 38 (v := ?vt438) rfl (by kernel_rfl) (by kernel_rfl) (fun _ _ _ h => h) hT4 (Or.inl ⟨rfl, ?yt438⟩) ?rt438
  case yt438 =>
    intro W hW
    obtain ⟨hW0, hW1⟩ := hW
    go_simp
    try with_reducible rfl
  try simp only [Act.put, List.getElem_toArray, List.getElem_cons_succ, List.getElem_cons_zero, List.setIfInBounds_toArray, List.set_cons_zero, List.set_cons_succ]
  refine wpAnyU_take 39 (v := ?vt439) rfl (by kernel_rfl) (by kernel_rfl) (fun _ _ _ h => h) hT4 (Or.inl ⟨rfl, ?yt439⟩) ?rt439
  case yt439 =>
    intro W hW
    obtain ⟨hW0, hW1⟩ := hW
    go_simp
    try with_reducible rfl
  try simp only [Act.put, List.getElem_toArray, List.getElem_cons_succ, List.getElem_cons_zero, List.setIfInBounds_toArray, List.set_cons_zero, List.set_cons_succ]
  refine wpAnyU_take 40 (v := ?vt440) rfl (by kernel_rfl) (by kernel_rfl) (fun _ _ _ h => h) hT4 (Or.inl ⟨rfl, ?yt440⟩) ?rt440
  case yt440 =>
    intro W hW
    obtain ⟨hW0, hW1⟩ := hW
    go_simp
    try with_reducible rfl
  try simp only [Act.put, List.getElem_toArray, List.getElem_cons_succ, List.getElem_cons_zero, List.setIfInBounds_toArray, List.set_cons_zero, List.set_cons_succ]
  refine wpAnyU_one 41 (by kernel_rfl) rfl (fun K hK => ?_)
  refine step_callw rfl 19 Try.f19 Try.func19 (by kernel_rfl) (by kernel_rfl) _ _ rfl #[.pointer (some ⟨h.g, 0, none⟩)] (by simp [Act.eval]) ?_
  have hsp := heapSpent_ok w0 w4b _ h3 hm4b m1
  rw [hg3.out, hspe] at hsp
  refine hsp.mono ?_
  rintro e w4c ⟨rfl, rfl⟩
  clear hsp
  refine ⟨_, rfl, ?_⟩
  refine hK _ _ (fun _ => hT4) ?_
  clear hK K
  try simp only [Act.put, List.getElem_toArray, List.getElem_cons_succ, List.getElem_cons_zero, List.setIfInBounds_toArray, List.set_cons_zero, List.set_cons_succ]
  refine wpAnyU_take 42 (v := ?vu442) rfl (by kernel_rfl) (by kernel_rfl) (fun _ _ _ h => h) hT4 (Or.inl ⟨rfl, ?yu442⟩) ?ru442
  case yu442 =>
    intro W hW
    obtain ⟨hW0, hW1⟩ := hW
    go_simp
    try with_reducible rfl
  try simp only [Act.put, List.getElem_toArray, List.getElem_cons_succ, List.getElem_cons_zero, List.setIfInBounds_toArray, List.set_cons_zero, List.set_cons_succ]
  refine wpAnyU_one 43 (by kernel_rfl) rfl (fun K hK => ?_)
  go_simp
  refine hK _ _ (fun h => absurd h (by decide)) ?_
  clear hK K hT4
  try simp only [Act.put, List.getElem_toArray, List.getElem_cons_succ, List.getElem_cons_zero, List.setIfInBounds_toArray, List.set_cons_zero, List.set_cons_succ]
  refine wpAnyU_done (by kernel_rfl) ?_ _
  have hp7 := fun (W : World) (L1 : List Chunk) (h0 : Mem w0 W (HpC h3 :: L1)) => delete_any w0 W L1 h3 h0 ho3 7 0 1125899906842624 hw1
  rw [ha3.out, fill_del.1, fill_del.2.1, hg3.out] at hp7
  replace hp7 := Fact.mk hp7
  go_wp2_with (refine wp_rng rfl 27 _ rfl g3 0 rfl [.int .i64 7, .int .i64 0] (rng_blk hm4b m2) row_V sz_V ?_)
  refine (hp7.out w4c _ hm4b.swap).mono ?_
  rintro e w9 ⟨rfl, h4, hg4, ha4, ho4, hm9⟩
  clear hm4b hp7
  replace hg4 := Fact.mk hg4
  replace ha4 := Fact.mk ha4
  replace ho4 := Fact.mk ho4
  have hp8 := fun (W : World) (L1 : List Chunk) (h0 : Mem w0 W (HpC h4 :: L1)) => field_any w0 W L1 h4 h0 ho4 7 0 1125899906842624 hw1
  rw [ha4.out, fill_del.2.2, hg4.out] at hp8
  replace hp8 := Fact.mk hp8
  obtain ⟨u, hu⟩ : ∃ u, u = fieldV ⟨2, 2, [recO (nils 255) (keysTo 255)]⟩ (7, 0) 1125899906842624 := ⟨_, rfl⟩
  have hp9 := hp8.out
  rw [← hu] at hp9
  replace hp9 := Fact.mk hp9
  clear hp8 hu
  go_wp2_with (refine wp_rng rfl 27 _ rfl g3 0 rfl [.int .i64 7, .int .i64 0] (rng_blk hm9 m2) row_V sz_V ?_)
  refine (hp9.out w9 _ hm9).mono ?_
  rintro e w10 ⟨rfl, hm10⟩
  clear hm9 hp9
  go_wp2_with (refine wp_setrow rfl 27 _ _ rfl w10.heap.size rfl 27 _ [.int .i64 u.1, .int .i64 u.2] rfl (hm10.alloc _) sz_V rfl (cV_one u) ?_; intro w11 hm11)
  go_ret
  exact ⟨rfl, hm11.sub (.cons _ (.cons _ (.cons _ (.cons _ (.cons _ (.refl _))))))⟩
theorem wide_a (s : Int) (l : List Ob) (n : Nat) (xs : List V2) (h : n ≤ 4096) (hs : 2 + (n : Int) ≤ 20000 - s) : (⟨20000, s, l⟩ : Hs).makeR (decide (n ≤ 4096)) (2 + n) 6 = .tuple #[.agg #[.int .i64 6, .int .i64 l.length], .bool true] ∧ (⟨20000, s, l⟩ : Hs).make (decide (n ≤ 4096)) (2 + n) ⟨6, xs, [], 0, 0, false⟩ = ⟨20000, s + (2 + n), l ++ [⟨6, xs, [], 0, 0, false⟩]⟩ := by
  have hr : (⟨20000, s, l⟩ : Hs).room (2 + n) = true := by unfold Hs.room; simp; omega
  unfold Hs.makeR Hs.make
  rw [hr, decide_eq_true h]
  exact ⟨rfl, rfl⟩
theorem wide_b (s : Int) (l : List Ob) (n : Nat) (xs : List V2) (h : n ≤ 4096) (hs : 2 + (n : Int) ≤ 20000 - s) : (⟨20000, s, l⟩ : Hs).makeR (decide ((0 : Int) ≤ 0) && decide (n ≤ 4096)) (2 + n) 8 = .tuple #[.agg #[.int .i64 8, .int .i64 l.length], .bool true] ∧ (⟨20000, s, l⟩ : Hs).make (decide ((0 : Int) ≤ 0) && decide (n ≤ 4096)) (2 + n) ⟨8, xs, [], 0, 0, false⟩ = ⟨20000, s + (2 + n), l ++ [⟨8, xs, [], 0, 0, false⟩]⟩ := by
  have hr : (⟨20000, s, l⟩ : Hs).room (2 + n) = true := by unfold Hs.room; simp; omega
  unfold Hs.makeR Hs.make
  rw [hr, decide_eq_true h]
  exact ⟨rfl, rfl⟩
theorem wide_no (t : Hs) (b : Bool) (n : Nat) (k : Int) (o : Ob) (h : ¬ n ≤ 4096) : t.makeR (b && decide (n ≤ 4096)) (2 + n) k = .tuple #[.agg #[.int .i64 0, .int .i64 0], .bool false] ∧ t.make (b && decide (n ≤ 4096)) (2 + n) o = t := by
  unfold Hs.makeR Hs.make
  rw [decide_eq_false h, Bool.and_false]
  exact ⟨rfl, rfl⟩
theorem wide_no' (t : Hs) (n : Nat) (k : Int) (o : Ob) (h : ¬ n ≤ 4096) : t.makeR (decide (n ≤ 4096)) (2 + n) k = .tuple #[.agg #[.int .i64 0, .int .i64 0], .bool false] ∧ t.make (decide (n ≤ 4096)) (2 + n) o = t := wide_no t true n k o h
theorem wide_ok (w0 w : World) (L : List Chunk) (hm : Mem w0 w L) :
    Calls Try.prog 42 #[] w fun e w' => e = .returned (.bool true) ∧ Mem w0 w' L := by
  go_enter Try.func42, Try.ntmps42
  go_wp2_with fail
  refine (heapNew_ok w0 w L hm 20000 0).mono ?_
  rintro e w1 ⟨g1, rfl, hm1⟩
  rw [show max (20000 : Int) 0 = 20000 from rfl, show max (0 : Int) 0 = 0 from rfl] at hm1
  clear hm
  obtain ⟨h, hh⟩ : ∃ h : Hp, h = ⟨g1, 20000, 0, none, 0, []⟩ := ⟨_, rfl⟩
  rw [← hh] at hm1
  have hg : h.g = g1 := by rw [hh]
  have ha : h.abs = ⟨20000, 0, []⟩ := by rw [hh]; rfl
  have hok : h.Ok := by rw [hh]; exact ⟨by simp, by simp, by show (0 : Int) ≤ 20000; omega, by show (20000 : Int) ≤ _; omega, by show (0 : Int) ≤ 0; omega, by show (0 : Int) ≤ _; omega⟩
  clear hh
  replace hg := Fact.mk hg
  replace ha := Fact.mk ha
  replace hok := Fact.mk hok
  go_wp2_with fail
  refine (many_ok w0 w1 _ hm1 4096 (by omega) 4096 (by omega)).mono ?_
  rintro e wm1 ⟨M1, cm1, rfl, hmm1⟩
  clear hm1
  have hl1 : h.ths.length < 16777216 := by rw [← h.abs_len', ha.out]; simp
  have hc1 := array_ok w0 wm1 _ h (hmm1.perm (perm_c fun D x => by simp only [List.map_append, List.map_cons, List.map_nil, List.count_append, List.count_cons, List.count_nil]; omega) : Mem w0 wm1 (HpC h :: Own 2 (.slice M1 4096 cm1) (fV (nils 4096)) :: L)) hok M1 4096 cm1 (nils 4096) ⟨hmm1.rd m0⟩ (by omega) hl1
  rw [ha.out, (wide_a 0 [] 4096 (nils 4096) (by omega) (by omega)).1, (wide_a 0 [] 4096 (nils 4096) (by omega) (by omega)).2, hg.out] at hc1
  replace hc1 := Fact.mk hc1
  go_wp2_with fail
  refine hc1.out.mono ?_
  rintro e wc1 ⟨rfl, h1, hg1, ha1, ho1, hmc1⟩
  clear hc1 hmm1 hl1
  replace hg1 := Fact.mk hg1
  replace ha1 := Fact.mk ha1
  replace ho1 := Fact.mk ho1
  go_upto_region 5 with (refine wp_setrow rfl 27 _ _ rfl wc1.heap.size rfl 27 _ [.int .i64 6, .int .i64 0] rfl (hmc1.alloc _) sz_V rfl (cV_one (6, 0)) ?_; intro wd1 hmd1)
  generalize wc1.heap.size = gb1 at hmd1 ⊢
  clear hmc1
  go_wp2_with fail
  refine (many_ok w0 wd1 _ hmd1 4097 (by omega) 4097 (by omega)).mono ?_
  rintro e wm2 ⟨M2, cm2, rfl, hmm2⟩
  clear hmd1
  have hl2 : h1.ths.length < 16777216 := by rw [← h1.abs_len', ha1.out]; simp
  have hc2 := array_ok w0 wm2 _ h1 (hmm2.perm (perm_c fun D x => by simp only [List.map_append, List.map_cons, List.map_nil, List.count_append, List.count_cons, List.count_nil]; omega) : Mem w0 wm2 (HpC h1 :: Own 2 (.slice M2 4097 cm2) (fV (nils 4097)) :: Blk gb1 (.cells [.int .i64 6, .int .i64 0].toArray 27) :: Own 2 (.slice M1 4096 cm1) (fV (nils 4096)) :: L)) ho1 M2 4097 cm2 (nils 4097) ⟨hmm2.rd m0⟩ (by omega) hl2
  rw [ha1.out, (wide_no' _ 4097 6 ⟨6, nils 4097, [], 0, 0, false⟩ (by omega)).1, (wide_no' _ 4097 6 ⟨6, nils 4097, [], 0, 0, false⟩ (by omega)).2, hg1.out] at hc2
  replace hc2 := Fact.mk hc2
  go_wp2_with fail
  refine hc2.out.mono ?_
  rintro e wc2 ⟨rfl, h2, hg2, ha2, ho2, hmc2⟩
  clear hc2 hmm2 hl2
  replace hg2 := Fact.mk hg2
  replace ha2 := Fact.mk ha2
  replace ho2 := Fact.mk ho2
  go_upto_region 6 with (refine wp_setrow rfl 27 _ _ rfl wc2.heap.size rfl 27 _ [.int .i64 0, .int .i64 0] rfl (hmc2.alloc _) sz_V rfl (cV_one (0, 0)) ?_; intro wd2 hmd2)
  generalize wc2.heap.size = gb2 at hmd2 ⊢
  clear hmc2
  go_wp2_with fail
  refine (many_ok w0 wd2 _ hmd2 4096 (by omega) 4096 (by omega)).mono ?_
  rintro e wm3 ⟨M3, cm3, rfl, hmm3⟩
  clear hmd2
  have hl3 : h2.ths.length < 16777216 := by rw [← h2.abs_len', ha2.out]; simp
  have hc3 := bound_ok w0 wm3 _ h2 (hmm3.perm (perm_c fun D x => by simp only [List.map_append, List.map_cons, List.map_nil, List.count_append, List.count_cons, List.count_nil]; omega) : Mem w0 wm3 (HpC h2 :: Own 2 (.slice M3 4096 cm3) (fV (nils 4096)) :: Blk gb2 (.cells [.int .i64 0, .int .i64 0].toArray 27) :: Own 2 (.slice M2 4097 cm2) (fV (nils 4097)) :: Blk gb1 (.cells [.int .i64 6, .int .i64 0].toArray 27) :: Own 2 (.slice M1 4096 cm1) (fV (nils 4096)) :: L)) ho2 0 M3 4096 cm3 (nils 4096) ⟨hmm3.rd m0⟩ (by omega) hl3
  rw [ha2.out, (wide_b (0 + (2 + ((4096 : Nat) : Int))) ([] ++ [(⟨6, nils 4096, [], 0, 0, false⟩ : Ob)]) 4096 (nils 4096) (by omega) (by omega)).1, (wide_b (0 + (2 + ((4096 : Nat) : Int))) ([] ++ [(⟨6, nils 4096, [], 0, 0, false⟩ : Ob)]) 4096 (nils 4096) (by omega) (by omega)).2, hg2.out] at hc3
  replace hc3 := Fact.mk hc3
  go_wp2_with fail
  refine hc3.out.mono ?_
  rintro e wc3 ⟨rfl, h3, hg3, ha3, ho3, hmc3⟩
  clear hc3 hmm3 hl3
  replace hg3 := Fact.mk hg3
  replace ha3 := Fact.mk ha3
  replace ho3 := Fact.mk ho3
  go_upto_region 7 with (refine wp_setrow rfl 27 _ _ rfl wc3.heap.size rfl 27 _ [.int .i64 8, .int .i64 1] rfl (hmc3.alloc _) sz_V rfl (cV_one (8, 1)) ?_; intro wd3 hmd3)
  generalize wc3.heap.size = gb3 at hmd3 ⊢
  clear hmc3
  go_wp2_with fail
  refine (many_ok w0 wd3 _ hmd3 4097 (by omega) 4097 (by omega)).mono ?_
  rintro e wm4 ⟨M4, cm4, rfl, hmm4⟩
  clear hmd3
  have hl4 : h3.ths.length < 16777216 := by rw [← h3.abs_len', ha3.out]; simp
  have hc4 := bound_ok w0 wm4 _ h3 (hmm4.perm (perm_c fun D x => by simp only [List.map_append, List.map_cons, List.map_nil, List.count_append, List.count_cons, List.count_nil]; omega) : Mem w0 wm4 (HpC h3 :: Own 2 (.slice M4 4097 cm4) (fV (nils 4097)) :: Blk gb3 (.cells [.int .i64 8, .int .i64 1].toArray 27) :: Own 2 (.slice M3 4096 cm3) (fV (nils 4096)) :: Blk gb2 (.cells [.int .i64 0, .int .i64 0].toArray 27) :: Own 2 (.slice M2 4097 cm2) (fV (nils 4097)) :: Blk gb1 (.cells [.int .i64 6, .int .i64 0].toArray 27) :: Own 2 (.slice M1 4096 cm1) (fV (nils 4096)) :: L)) ho3 0 M4 4097 cm4 (nils 4097) ⟨hmm4.rd m0⟩ (by omega) hl4
  rw [ha3.out, (wide_no _ (decide ((0 : Int) ≤ 0)) 4097 8 ⟨8, nils 4097, [], 0, 0, false⟩ (by omega)).1, (wide_no _ (decide ((0 : Int) ≤ 0)) 4097 8 ⟨8, nils 4097, [], 0, 0, false⟩ (by omega)).2, hg3.out] at hc4
  replace hc4 := Fact.mk hc4
  go_wp2_with fail
  refine hc4.out.mono ?_
  rintro e wc4 ⟨rfl, h4, hg4, ha4, ho4, hmc4⟩
  clear hc4 hmm4 hl4
  replace hg4 := Fact.mk hg4
  replace ha4 := Fact.mk ha4
  replace ho4 := Fact.mk ho4
  go_upto_region 8 with (refine wp_setrow rfl 27 _ _ rfl wc4.heap.size rfl 27 _ [.int .i64 0, .int .i64 0] rfl (hmc4.alloc _) sz_V rfl (cV_one (0, 0)) ?_; intro wd4 hmd4)
  generalize wc4.heap.size = gb4 at hmd4 ⊢
  clear hmc4
  have hln : h4.ths.length = 2 := by rw [← h4.abs_len', ha4.out]; rfl
  have hspe : h4.spent = 8196 := by rw [show h4.spent = h4.abs.spent from rfl, ha4.out]; rfl
  have hcl := heapLen_ok w0 wd4 _ h4 hmd4 m1
  have hcs := heapSpent_ok w0 wd4 _ h4 hmd4 m1
  rw [hg4.out, hln] at hcl
  rw [hg4.out, hspe] at hcs
  replace hcl := Fact.mk hcl
  replace hcs := Fact.mk hcs
  have x0 := hmd4.cell (.tail _ (.tail _ (.tail _ (.tail _ (.tail _ (.tail _ (.tail _ m0))))))) 0 rfl
  have x1 := hmd4.cell (.tail _ (.tail _ (.tail _ (.tail _ (.tail _ (.tail _ (.tail _ m0))))))) 1 rfl
  have y0 := hmd4.cell (.tail _ (.tail _ (.tail _ m0))) 0 rfl
  have y1 := hmd4.cell (.tail _ (.tail _ (.tail _ m0))) 1 rfl
  go_wp2_with fail
  refine hcl.out.mono ?_
  rintro e w8 ⟨rfl, rfl⟩
  go_wp2_with fail
  refine hcs.out.mono ?_
  rintro e w9 ⟨rfl, rfl⟩
  go_wp2
  go_ret
  exact ⟨rfl, hmd4.sub (.cons _ (.cons _ (.cons _ (.cons _ (.cons _ (.cons _ (.cons _ (.cons _ (.cons _ (.refl _))))))))))⟩
end Go.Proofs.Ytpibchjkmaghnaa
namespace Go.Proofs.Ytpibchjkmaghnaa
open Go.RowKit Go.Mm
set_option maxHeartbeats 8000000
set_option maxRecDepth 100000
set_option linter.unusedSimpArgs false
def aboutNs : List Int := [-9223372036854775808, -4503599627370496, -4503599627370495, -1, 0, 1, 2, 9218868437227405311, 9218868437227405312, 9218868437227405313, 9221120237041090559, 9221120237041090560, 9221120237041090561, 9223372036854775807, -2251799813685248]
theorem aboutNs_rng : ∀ v, v ∈ aboutNs → -9223372036854775808 ≤ v ∧ v ≤ 9223372036854775807 := by decide
def RngOk (xs : List V2) : Prop := ∀ v, v ∈ xs → -9223372036854775808 ≤ v.2 ∧ v.2 ≤ 9223372036854775807
theorem vals_ok (w0 w : World) (L : List Chunk) (hm : Mem w0 w L) :
    Calls Try.prog 40 #[] w fun e w' => ∃ (A : Option Addr) (c : Nat) (xs : List V2), e = .returned (.slice A 195 c) ∧ RngOk xs ∧ Mem w0 w' (Own 2 (.slice A 195 c) (fV xs) :: L) := by
  obtain ⟨iV, hiV, hz0, hz1, hz2⟩ := info_parts inf_V
  go_enter Try.func40, Try.ntmps40
  go_upto_region 2 with (fail)
  have hm4 := hm.alloc (.cells (nums .i64 aboutNs).toArray 2)
  generalize hgb : w.heap.size = g4 at hm4 ⊢
  generalize hw1 : w.alloc (.cells (nums .i64 aboutNs).toArray 2) = w4 at hm4
  refine wp_world hw1 ?_
  clear hw1 hgb hm
  have hcell : Fact (∀ (W : World) (L1 : List Chunk), Mem w0 W L1 → Blk g4 (.cells (nums .i64 aboutNs).toArray 2) ∈ L1 → ∀ k, k < 15 → W.cell? ⟨g4, k, none⟩ = some (.int .i64 (aboutNs.getD k 0))) := ⟨fun W L1 h hh k hk => h.cell hh k (nums_getD .i64 aboutNs k hk)⟩
  have hrn : Fact (∀ k, k < 15 → -9223372036854775808 ≤ aboutNs.getD k 0 ∧ aboutNs.getD k 0 ≤ 9223372036854775807) := ⟨fun k hk => aboutNs_rng _ (List.mem_of_getElem? (getD_some aboutNs 0 k hk))⟩
  generalize aboutNs = ns at hm4 hcell hrn
  go_wp2
  go_loopw [2, 3] (fun s2 s3 w' => ∃ (k : Nat) (A : Option Addr) (c : Nat) (xs : List V2), s3 = .int .i64 (-1 + (k : Int)) ∧ k ≤ 13 ∧ s2 = .slice A (15 * k) c ∧ RngOk xs ∧ Mem w0 w' (Own 2 (.slice A (15 * k) c) (fV xs) :: Blk g4 (.cells (nums .i64 ns).toArray 2) :: L)) (fun _ s3 _ => 13 - (intOf s3 + 1).toNat)
  case atStart => exact ⟨0, none, 0, [], rfl, by omega, rfl, (fun v hv => by cases hv), hm4.nil 2 none⟩
  case round =>
    obtain ⟨k, A, c, xs, rfl, hk, rfl, hR, hmr⟩ := hrel
    clear hm4
    replace hR := Fact.mk hR
    by_cases hlt : k < 13
    · have wrapk : wrap64 (-1 + (k : Int) + 1) = -1 + (k : Int) + 1 := IntWalk.wrap64_in _ (by omega)
      have hd : (-1 + (k : Int) < 12) = True := eq_true (by omega)
      go_wp2
      go_loopw [2, 4] (fun s2 s4 w' => ∃ (j : Nat) (A : Option Addr) (c : Nat) (xs : List V2), s4 = .int .i64 (j : Int) ∧ j ≤ 15 ∧ s2 = .slice A (15 * k + j) c ∧ Fact (RngOk xs) ∧ Mem w0 w' (Own 2 (.slice A (15 * k + j) c) (fV xs) :: Blk g4 (.cells (nums .i64 ns).toArray 2) :: L)) (fun _ s4 _ => 15 - (intOf s4).toNat)
      case atStart => exact ⟨0, A, c, xs, rfl, by omega, rfl, hR, hmr⟩
      case round =>
        clear hmr hR
        obtain ⟨j, A, c, xs, rfl, hj, rfl, hR, hmr⟩ := hrel
        by_cases hltj : j < 15
        · have z1 := hcell.out wr _ hmr m1 j hltj
          have hr := hrn.out j hltj
          generalize ns.getD j 0 = u at z1 hr
          replace hr := Fact.mk hr
          go_wp2_with (at_builtin; refine wp_app rfl _ _ _ rfl 27 iV _ 2 16 ty_Vs hiV hz0 hz1 hz2 rfl A (15 * k + j) c _ rfl (hmr.alloc _).swap _ 1 1 [.int .i64 (-1 + (k : Int)), .int .i64 u] rfl (RdC.lit _ _ _ _ _ rfl (by simp [maxLen]) (cV_one (-1 + (k : Int), u))) (by unfold maxLen; omega) (by omega) ?_; intro A5 c5 w5 hm5)
          go_roundw
          case rel =>
            refine ⟨j + 1, A5, c5, xs ++ [(-1 + (k : Int), u)], by go_num, by omega, rfl, ⟨fun v hv => ?_⟩, ?_⟩
            · rcases List.mem_append.1 hv with hv | hv
              · exact hR.out v hv
              · simp only [List.mem_singleton] at hv
                subst hv
                exact hr.out
            · rw [fV_app]
              exact hm5.drop2
          case measure => exact measP_lt hltj
        · have hj15 : Fact (15 * k + j = 15 * (k + 1)) := ⟨by omega⟩
          go_wp2
          rw [hj15.out] at hmr ⊢
          clear hj15 hltj hj
          go_roundw
          case rel => exact ⟨k + 1, A, c, xs, by go_num, by omega, rfl, hR.out, hmr⟩
          case measure => simp [intOf, wrapk]; omega
    · have hk13 : Fact (k = 13) := ⟨by omega⟩
      go_wp2
      go_ret
      have e : 15 * k = 195 := by have := hk13.out; omega
      rw [e] at hmr ⊢
      exact ⟨A, c, xs, rfl, hR.out, hmr.drop2⟩
end Go.Proofs.Ytpibchjkmaghnaa
