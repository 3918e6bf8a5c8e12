/- A heap seen as data: budget, what is spent, the objects; and slices cloned. -/
import Derived.Test.YtpibchjkmaghnaaHpSize
import Derived.Test.YtpibchjkmaghnaaBulk
import Derived.Lib.SliceRun
namespace Go.Proofs.Ytpibchjkmaghnaa
open Go.RowKit Go.Mm
set_option maxHeartbeats 2000000
set_option maxRecDepth 100000
structure Hs where
  budget : Int
  spent : Int
  objs : List Ob
def Hp.abs (h : Hp) : Hs := ⟨h.budget, h.spent, h.objs⟩
/-- In memory there lies a heap at g, which holds just this. -/
def HpQ (w0 : World) (L : List Chunk) (g : Nat) (s : Hs) (w : World) : Prop := ∃ h : Hp, h.g = g ∧ h.abs = s ∧ h.Ok ∧ Mem w0 w (HpC h :: L)
theorem HpQ.mk {w0 w : World} {L : List Chunk} (h : Hp) (hok : h.Ok) (hm : Mem w0 w (HpC h :: L)) : HpQ w0 L h.g h.abs w := ⟨h, rfl, rfl, hok, hm⟩
def Hs.room (s : Hs) (n : Int) : Bool := decide (0 ≤ n) && decide (n ≤ s.budget - s.spent)
def Hs.spend (s : Hs) (n : Int) : Hs := match s.room n with | true => ⟨s.budget, s.spent + n, s.objs⟩ | false => s
/-- An object more, if it may be and there is room. -/
def Hs.make (s : Hs) (may : Bool) (n : Int) (o : Ob) : Hs := match may && s.room n with | true => ⟨s.budget, s.spent + n, s.objs ++ [o]⟩ | false => s
def Hs.makeR (s : Hs) (may : Bool) (n : Int) (k : Int) : Value := match may && s.room n with
  | true => .tuple #[.agg #[.int .i64 k, .int .i64 s.objs.length], .bool true]
  | false => .tuple #[.agg #[.int .i64 0, .int .i64 0], .bool false]
theorem Hp.abs_len (h : Hp) : h.objs.length = h.ths.length := by simp [Hp.objs]
theorem Hp.spend_g (h : Hp) (n : Int) : (h.spend n).g = h.g := by unfold Hp.spend; split <;> rfl
theorem Hp.spend_abs (h : Hp) (n : Int) : (h.spend n).abs = h.abs.spend n := by
  unfold Hp.spend Hs.spend
  rw [show h.abs.room n = h.room n from rfl]
  cases h.room n <;> rfl
theorem Hp.spend_ok {h : Hp} (hok : h.Ok) (n : Int) : (h.spend n).Ok := by
  unfold Hp.spend
  split
  · rename_i hr
    have hr' : 0 ≤ n ∧ n ≤ h.budget - h.spent := by simpa [Hp.room] using hr
    have b1 := hok.b1
    have s0 := hok.s0
    exact ⟨hok.each, hok.size, hok.b0, hok.b1, by simp only; omega, by simp only; omega⟩
  · exact hok
theorem Hp.push_abs (h : Hp) (n : Int) (A : Option Addr) (c : Nat) (t : Th) : (h.push n A c t).abs = ⟨h.budget, h.spent + n, h.objs ++ [t.ob]⟩ := by
  simp [Hp.push, Hp.abs, Hp.objs]
/-! ### A slice cloned -/
theorem RdC.none_nil {w : World} {n c : Nat} {xs : List V2} (h : RdC w 2 (.slice none n c) (fV xs)) : n = 0 ∧ xs = [] := by
  have h0 := RdC.none0 (by omega) h
  have hl := rdV_len h
  exact ⟨h0, by subst h0; exact List.eq_nil_of_length_eq_zero hl⟩
theorem clone_ok (w0 w : World) (L : List Chunk) (hm : Mem w0 w L) (A : Option Addr) (n c : Nat) (xs : List V2) (hx : Fact (RdC w 2 (.slice A n c) (fV xs))) (hn : n ≤ 16777216) :
    Calls Try.prog 84 #[.slice A n c] w fun e w' => ∃ A' c', e = .returned (.slice A' n c') ∧ Mem w0 w' (Own 2 (.slice A' n c') (fV xs) :: L) := by
  obtain ⟨iV, hiV, hz0, hz1, hz2⟩ := info_parts inf_V
  have q22 : ∀ (w : World) (a : Option Addr) (n c n' c' : Nat), (binOp .eql 30 (.slice a n c) (.slice none n' c')).run Try.prog w = .ok (.bool a.isNone) w := fun w a n c n' c' => Lib.run_eql_slice_nil w _ _ a n c n' c' ty_Vs
  go_enter Try.func84, Try.ntmps84
  cases A with
  | none =>
    obtain ⟨rfl, rfl⟩ := RdC.none_nil hx.out
    go_wp2
    go_ret
    exact ⟨none, 0, rfl, hm.nil 2 none⟩
  | some a =>
    go_wp2_with (at_builtin; refine wp_app rfl _ _ _ rfl 27 iV _ 2 16 ty_Vs hiV hz0 hz1 hz2 rfl _ 0 0 _ rfl (Mem.nil (hm.alloc _) 2 _) (some a) n c (fV xs) rfl (hx.out.gr ((Gr.refl w).alloc _)) (by unfold maxLen; omega) (by omega) ?_; intro A1 c1 w1 HM1)
    go_ret
    rw [Nat.zero_add] at HM1
    exact ⟨A1, c1, rfl, HM1.drop2⟩
theorem ty_Is : Try.prog.underlying 50 = some (.slice 2) := by kernel_rfl
theorem inf_I : (Try.prog.info? 2).map (fun i => (i.zero, i.size, i.bytes)) = some (some (.int .i64 0), 1, 8) := by kernel_rfl
theorem RdC.none_nilN {w : World} {n c : Nat} {xs : List Int} (h : RdC w 1 (.slice none n c) (nums .i64 xs)) : n = 0 ∧ xs = [] := by
  have h0 := RdC.none0 (by omega) h
  have hl := RdC.nlen h
  exact ⟨h0, by subst h0; exact List.eq_nil_of_length_eq_zero hl⟩
theorem cloneN_ok (w0 w : World) (L : List Chunk) (hm : Mem w0 w L) (A : Option Addr) (n c : Nat) (xs : List Int) (hx : Fact (RdC w 1 (.slice A n c) (nums .i64 xs))) (hn : n ≤ 16777216) :
    Calls Try.prog 145 #[.slice A n c] w fun e w' => ∃ A' c', e = .returned (.slice A' n c') ∧ Mem w0 w' (Own 1 (.slice A' n c') (nums .i64 xs) :: L) := by
  obtain ⟨iV, hiV, hz0, hz1, hz2⟩ := info_parts inf_I
  have q22 : ∀ (w : World) (a : Option Addr) (n c n' c' : Nat), (binOp .eql 50 (.slice a n c) (.slice none n' c')).run Try.prog w = .ok (.bool a.isNone) w := fun w a n c n' c' => Lib.run_eql_slice_nil w _ _ a n c n' c' ty_Is
  go_enter Try.func145, Try.ntmps145
  cases A with
  | none =>
    obtain ⟨rfl, rfl⟩ := RdC.none_nilN hx.out
    go_wp2
    go_ret
    exact ⟨none, 0, rfl, hm.nil 1 none⟩
  | some a =>
    go_wp2_with (at_builtin; refine wp_app rfl _ _ _ rfl 2 iV _ 1 8 ty_Is hiV hz0 hz1 hz2 rfl _ 0 0 _ rfl (Mem.nil (hm.alloc _) 1 _) (some a) n c (nums .i64 xs) rfl (hx.out.gr ((Gr.refl w).alloc _)) (by unfold maxLen; omega) (by omega) ?_; intro A1 c1 w1 HM1)
    go_ret
    rw [Nat.zero_add] at HM1
    exact ⟨A1, c1, rfl, HM1.drop2⟩
end Go.Proofs.Ytpibchjkmaghnaa
