/- Small walks: a cell that may be. -/
import Derived.Test.YtalfmlhiooaigaaProg
import Derived.Test.YtalfmlhiooaigaaBoxP
import Derived.Test.YtalfmlhiooaigaaFill
import Derived.Laws.StructEq
import Derived.Deep.QuietTactic
import Derived.Deep.CutBlock
namespace Go.Proofs.Ytalfmlhiooaigaa
open Go.RowKit
set_option maxHeartbeats 4000000
set_option maxRecDepth 100000
def TrueExt (w : World) (e : Ending) (w' : World) : Prop := e = .returned (.bool true) ∧ Ext w w'
theorem wordWrap_is (v : Int) (w : World) : Calls Try.prog 27 #[.int .i64 v] w fun e w' => e = .returned (.int .i64 (wrapW v)) ∧ w = w' := by
  go_enter Try.func27, Try.ntmps27
  go_wp2
  go_ret
  exact ⟨rfl, rfl⟩
theorem refWrap_is (v : Int) (w : World) : Calls Try.prog 18 #[.int .i64 v] w fun e w' => e = .returned (.int .i64 (wrapW v)) ∧ w = w' := by
  go_enter Try.func18, Try.ntmps18
  go_wp2
  go_ret
  exact ⟨rfl, rfl⟩
theorem run_equal_cell (a b c a' b' c' : Int) (s s' : ByteArray) (w : World) : (Op.equalIn 10000 41 (.agg #[.int .i64 a, .int .i64 b, .int .i64 c, .string s]) (.agg #[.int .i64 a', .int .i64 b', .int .i64 c', .string s'])).run Try.prog w = .ok ((a == a') && (b == b') && (c == c') && (s.toList == s'.toList)) w := by
  have hf : Try.prog.fieldsOf 41 = Try.prog.fieldsOf 41 := rfl
  rw [show (10000 : Nat) = 9999 + 1 by rfl, run_equalIn_struct w 9999 41 _ _ (by kernel_rfl) (by kernel_rfl)]
  by_cases h1 : a = a' <;> by_cases h2 : b = b' <;> by_cases h3 : c = c' <;> by_cases h4 : s.toList = s'.toList <;> simp [go_sem, h1, h2, h3, h4]
theorem empty_of {s : ByteArray} (h : s.size = 0) : s = ByteArray.empty := ByteArray.size_eq_zero_iff.1 h
theorem hsb (s : ByteArray) : s.toList.isEmpty = true ↔ s.size = 0 := by
  rw [ByteArray.toList_eq]; obtain ⟨⟨l⟩⟩ := s; simp [ByteArray.size]
theorem good_zero (tag n : Int) (s : ByteArray) (w : World) : Calls Try.prog 25 #[.agg #[.int .i64 0, .int .i64 tag, .int .i64 n, .string s]] w fun e w' => e = .returned (.bool (goodC ⟨0, tag, n, s⟩)) ∧ Ext w w' := by
  by_cases h1 : tag = 0
  · subst h1
    by_cases h2 : n = wrapW n
    · have e1 : (n == wrapW n) = true := beq_iff_eq.2 h2
      by_cases h3 : s.size = 0
      · obtain rfl := empty_of h3
        have hg : goodC ⟨0, 0, n, ByteArray.empty⟩ = true := by unfold goodC; simp; exact h2
        rw [hg]
        clear h2 h3 hg
        go_enter Try.func25, Try.ntmps25
        go_upto_region 3 with fail
        refine wp_alloc1 fun W hE _ b0 => ?_
        obtain ⟨x0, x1, x2, x3⟩ := cells4 b0
        have r0 := fun d os => cell_regrown x0 d os
        have r1 := fun d os => cell_regrown x1 d os
        have r2 := fun d os => cell_regrown x2 d os
        have r3 := fun d os => cell_regrown x3 d os
        have cW := fun d os => quiet_same (wordWrap_is n (Go.Sort.grow (redrawn W d) os))
        have CW := Lib.hid cW
        have HE := Lib.hid hE
        clear cW x0 x1 x2 x3 b0 hE
        refine wp_region_quiet_below (by kernel_rfl) (by kernel_rfl) ?_
        repeat (first | go_big_quiet_step (exact CW.out _ _) | quiet_step (exact CW.out _ _))
        refine wpQuiet_nil ?_
        intro _ hw'
        obtain ⟨⟨dq, osq⟩, hw''⟩ := hw'
        subst hw''
        have HXQ := Lib.hid (Ext.regrown W dq osq)
        clear r0 r1 r2 r3
        go_wp2
        go_ret
        exact ⟨by rfl, HE.out.trans HXQ.out⟩
      · have hg : goodC ⟨0, 0, n, s⟩ = false := by unfold goodC; simp; intro _ h; exact h3 (by rw [h]; rfl)
        rw [hg]
        have e2 : s.toList.isEmpty = false := by
          cases hh : s.toList.isEmpty with
          | false => rfl
          | true => exact absurd (hsb s |>.1 hh) h3
        clear h2 h3 hg
        go_enter Try.func25, Try.ntmps25
        go_upto_region 3 with fail
        refine wp_alloc1 fun W hE _ b0 => ?_
        obtain ⟨x0, x1, x2, x3⟩ := cells4 b0
        have r0 := fun d os => cell_regrown x0 d os
        have r1 := fun d os => cell_regrown x1 d os
        have r2 := fun d os => cell_regrown x2 d os
        have r3 := fun d os => cell_regrown x3 d os
        have cW := fun d os => quiet_same (wordWrap_is n (Go.Sort.grow (redrawn W d) os))
        have CW := Lib.hid cW
        have HE := Lib.hid hE
        clear cW x0 x1 x2 x3 b0 hE
        refine wp_region_quiet_below (by kernel_rfl) (by kernel_rfl) ?_
        repeat (first | go_big_quiet_step (exact CW.out _ _) | quiet_step (exact CW.out _ _))
        refine wpQuiet_nil ?_
        intro _ hw'
        obtain ⟨⟨dq, osq⟩, hw''⟩ := hw'
        subst hw''
        have HXQ := Lib.hid (Ext.regrown W dq osq)
        clear r0 r1 r2 r3
        go_wp2
        go_ret
        exact ⟨by rfl, HE.out.trans HXQ.out⟩
    · have e1 : (n == wrapW n) = false := beq_false_of_ne h2
      have hg : goodC ⟨0, 0, n, s⟩ = false := by unfold goodC; simp; intro h; exact absurd h h2
      rw [hg]
      clear h2 hg
      go_enter Try.func25, Try.ntmps25
      go_upto_region 3 with fail
      refine wp_alloc1 fun W hE _ b0 => ?_
      obtain ⟨x0, x1, x2, x3⟩ := cells4 b0
      have r0 := fun d os => cell_regrown x0 d os
      have r1 := fun d os => cell_regrown x1 d os
      have r2 := fun d os => cell_regrown x2 d os
      have r3 := fun d os => cell_regrown x3 d os
      have cW := fun d os => quiet_same (wordWrap_is n (Go.Sort.grow (redrawn W d) os))
      have CW := Lib.hid cW
      have HE := Lib.hid hE
      clear cW x0 x1 x2 x3 b0 hE
      refine wp_region_quiet_below (by kernel_rfl) (by kernel_rfl) ?_
      repeat (first | go_big_quiet_step (exact CW.out _ _) | quiet_step (exact CW.out _ _))
      refine wpQuiet_nil ?_
      intro _ hw'
      obtain ⟨⟨dq, osq⟩, hw''⟩ := hw'
      subst hw''
      have HXQ := Lib.hid (Ext.regrown W dq osq)
      clear r0 r1 r2 r3
      go_wp2
      go_ret
      exact ⟨by rfl, HE.out.trans HXQ.out⟩
  · have e1 : (tag == 0) = false := beq_false_of_ne h1
    have hg : goodC ⟨0, tag, n, s⟩ = false := by unfold goodC; simp; intro h; exact absurd h h1
    rw [hg]
    clear h1 hg
    go_enter Try.func25, Try.ntmps25
    go_upto_region 3 with fail
    refine wp_alloc1 fun W hE _ b0 => ?_
    obtain ⟨x0, x1, x2, x3⟩ := cells4 b0
    have r0 := fun d os => cell_regrown x0 d os
    have r1 := fun d os => cell_regrown x1 d os
    have r2 := fun d os => cell_regrown x2 d os
    have r3 := fun d os => cell_regrown x3 d os
    have cW := fun d os => quiet_same (wordWrap_is n (Go.Sort.grow (redrawn W d) os))
    have CW := Lib.hid cW
    have HE := Lib.hid hE
    clear cW x0 x1 x2 x3 b0 hE
    refine wp_region_quiet_below (by kernel_rfl) (by kernel_rfl) ?_
    repeat (first | go_big_quiet_step (exact CW.out _ _) | quiet_step (exact CW.out _ _))
    refine wpQuiet_nil ?_
    intro _ hw'
    obtain ⟨⟨dq, osq⟩, hw''⟩ := hw'
    subst hw''
    have HXQ := Lib.hid (Ext.regrown W dq osq)
    clear r0 r1 r2 r3
    go_wp2
    go_ret
    exact ⟨by rfl, HE.out.trans HXQ.out⟩
theorem good_one (tag n : Int) (s : ByteArray) (w : World) : Calls Try.prog 25 #[.agg #[.int .i64 1, .int .i64 tag, .int .i64 n, .string s]] w fun e w' => e = .returned (.bool (goodC ⟨1, tag, n, s⟩)) ∧ Ext w w' := by
  by_cases h3 : s.size = 0
  · obtain rfl := empty_of h3
    have hg : goodC ⟨1, tag, n, ByteArray.empty⟩ = (decide (0 ≤ tag) && decide (tag ≤ 255) && decide (1 ≤ n) && decide (n ≤ 8)) := by
      unfold goodC; simp [Bool.and_assoc]
    rw [hg]
    clear h3 hg
    by_cases t1 : 0 ≤ tag
    · by_cases t2 : tag ≤ 255
      · by_cases t3 : 1 ≤ n
        · by_cases t4 : n ≤ 8
          all_goals
            go_enter Try.func25, Try.ntmps25
            go_wp2
            go_ret
            exact ⟨by simp [t1, t2, t3, t4], Ext.alloc _ _⟩
        · go_enter Try.func25, Try.ntmps25
          go_wp2
          go_ret
          exact ⟨by simp [t1, t2, t3]; omega, Ext.alloc _ _⟩
      · go_enter Try.func25, Try.ntmps25
        go_wp2
        go_ret
        exact ⟨by simp [t1, t2]; omega, Ext.alloc _ _⟩
    · go_enter Try.func25, Try.ntmps25
      go_wp2
      go_ret
      exact ⟨by simp [t1]; omega, Ext.alloc _ _⟩
  · have hg : goodC ⟨1, tag, n, s⟩ = false := by unfold goodC; simp; intro h; exact absurd (by rw [h]; rfl) h3
    rw [hg]
    have e2 : s.toList.isEmpty = false := by
      cases hh : s.toList.isEmpty with
      | false => rfl
      | true => exact absurd (hsb s |>.1 hh) h3
    clear h3 hg
    go_enter Try.func25, Try.ntmps25
    go_wp2
    go_ret
    exact ⟨rfl, Ext.alloc _ _⟩
theorem good_two (tag n : Int) (s : ByteArray) (w : World) : Calls Try.prog 25 #[.agg #[.int .i64 2, .int .i64 tag, .int .i64 n, .string s]] w fun e w' => e = .returned (.bool (goodC ⟨2, tag, n, s⟩)) ∧ Ext w w' := by
  by_cases h1 : tag = 0
  · subst h1
    by_cases h2 : n = 0
    · subst h2
      by_cases h3 : s.size ≤ 400
      · have hg : goodC ⟨2, 0, 0, s⟩ = true := by unfold goodC; simp; exact h3
        rw [hg]
        clear hg
        go_enter Try.func25, Try.ntmps25
        go_wp2
        go_ret
        exact ⟨by simp; omega, Ext.alloc _ _⟩
      · have hg : goodC ⟨2, 0, 0, s⟩ = false := by unfold goodC; simp; omega
        rw [hg]
        clear hg
        go_enter Try.func25, Try.ntmps25
        go_wp2
        go_ret
        exact ⟨by simp; omega, Ext.alloc _ _⟩
    · have e1 : (n == 0) = false := beq_false_of_ne h2
      have hg : goodC ⟨2, 0, n, s⟩ = false := by unfold goodC; simp; intro h; exact absurd h h2
      rw [hg]
      clear h2 hg
      go_enter Try.func25, Try.ntmps25
      go_wp2
      go_ret
      exact ⟨rfl, Ext.alloc _ _⟩
  · have e1 : (tag == 0) = false := beq_false_of_ne h1
    have hg : goodC ⟨2, tag, n, s⟩ = false := by unfold goodC; simp; intro h; exact absurd h h1
    rw [hg]
    clear h1 hg
    go_enter Try.func25, Try.ntmps25
    go_wp2
    go_ret
    exact ⟨rfl, Ext.alloc _ _⟩
theorem good_is (x : Cl) (w : World) : Calls Try.prog 25 #[.agg #[.int .i64 x.kind, .int .i64 x.tag, .int .i64 x.n, .string x.text]] w fun e w' => e = .returned (.bool (goodC x)) ∧ Ext w w' := by
  obtain ⟨k, tag, n, s⟩ := x
  by_cases h0 : k = 0
  · subst h0; exact good_zero tag n s w
  · by_cases h1 : k = 1
    · subst h1; exact good_one tag n s w
    · by_cases h2 : k = 2
      · subst h2; exact good_two tag n s w
      · have hg : goodC ⟨k, tag, n, s⟩ = false := by unfold goodC; simp only; rw [if_neg h0, if_neg h1, if_neg h2]
        rw [hg]
        have e0 : (k == 0) = false := beq_false_of_ne h0
        have e1 : (k == 1) = false := beq_false_of_ne h1
        have e2 : (k == 2) = false := beq_false_of_ne h2
        clear h0 h1 h2 hg
        go_enter Try.func25, Try.ntmps25
        go_wp2
        go_ret
        exact ⟨rfl, Ext.alloc _ _⟩
end Go.Proofs.Ytalfmlhiooaigaa
