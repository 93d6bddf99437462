/- How many words a message takes (the program's). -/
import Derived.Test.YtalfmlhiooaigaaBoxB
import Derived.BigQuiet
namespace Go.Proofs.Ytalfmlhiooaigaa
open Go.RowKit
set_option maxHeartbeats 4000000
set_option maxRecDepth 100000
theorem of_str (w : World) : Calls Try.prog 30 #[.int .i64 2] w fun e w' => e = .returned (.iface 66 (.agg #[])) ∧ w = w' := by
  go_enter Try.func30, Try.ntmps30
  go_wp2
  go_ret
  exact ⟨rfl, rfl⟩
theorem m_may (k : Nat) (w : World) : (method (k + 1) 66 (.agg #[]) "stockpot/object.may").run Try.prog w = .ok (49, .agg #[]) w := by kernel_rfl
theorem m_size (k : Nat) (w : World) : (method (k + 1) 66 (.agg #[]) "stockpot/object.size").run Try.prog w = .ok (50, .agg #[]) w := by kernel_rfl
theorem m_words (k : Nat) (w : World) : (method (k + 1) 66 (.agg #[]) "stockpot/object.words").run Try.prog w = .ok (51, .agg #[]) w := by kernel_rfl
theorem text_may (s : ByteArray) (w : World) (hs : s.size ≤ 400) : Calls Try.prog 49 #[.agg #[], .agg #[.int .i64 2, .int .i64 0, .slice none 0 0, .string s]] w fun e w' => e = .returned (.bool true) ∧ Ext w w' := by
  go_enter Try.func49, Try.ntmps49
  go_wp2
  go_ret
  exact ⟨by simp; omega, (Ext.alloc _ _).trans (Ext.alloc _ _)⟩
theorem text_size (s : ByteArray) (w : World) : Calls Try.prog 50 #[.agg #[], .agg #[.int .i64 2, .int .i64 0, .slice none 0 0, .string s]] w fun e w' => e = .returned (.int .i64 s.size) ∧ Ext w w' := by
  go_enter Try.func50, Try.ntmps50
  go_wp2
  go_ret
  exact ⟨rfl, (Ext.alloc _ _).trans (Ext.alloc _ _)⟩
theorem text_words (n : Nat) (w : World) (hn : n ≤ 400) : Calls Try.prog 51 #[.agg #[], .int .i64 n] w fun e w' => e = .returned (.int .i64 (((n + 7) / 8 : Nat) : Int)) ∧ Ext w w' := by
  go_enter Try.func51, Try.ntmps51
  go_wp2
  go_ret
  refine ⟨?_, Ext.alloc _ _⟩
  show Ending.returned (.int .i64 (((n : Int) + 8 - 1) / 8)) = _
  congr 2
  omega
theorem may_str (s : ByteArray) (w : World) (hs : s.size ≤ 400) : Calls Try.prog 29 #[.agg #[.int .i64 2, .int .i64 0, .slice none 0 0, .string s]] w fun e w' => e = .returned (.bool true) ∧ Ext w w' := by
  have hm := m_may
  go_enter Try.func29, Try.ntmps29
  go_wp2_with fail
  refine (of_str _).mono ?_
  rintro e w1 ⟨rfl, rfl⟩
  go_wp2_with fail
  refine (text_may s _ hs).mono ?_
  rintro e w1 ⟨rfl, hx⟩
  have HX := Lib.hid hx
  clear hx
  go_wp2
  go_ret
  exact ⟨rfl, (Ext.alloc _ _).trans HX.out⟩
theorem n_words (w : World) : (nilAhead (Try.prog.types.size + Made.depth) 66 (.agg #[]) "stockpot/object.words").run Try.prog w = .ok (some false) w := by kernel_rfl
/-- the check ahead of a method's call through an interface -/
theorem quiet_nil_method {P : Program} {C : World → Prop} {a : Act} {o : Oper} {K : Act → Prop} (x : Operand) (ho : o.op = .nilCheck x) {name : String} {t : TypeId} {v : Value} {cap : Array Value} (hv : a.eval x = .func (.method name) #[.iface t v] cap)
    (hn : ∀ w, (nilAhead (P.types.size + Made.depth) t v name).run P w = .ok (some false) w) (hk : K (a.put o.dst (.func (.method name) #[.iface t v] cap))) : o.quiet P a C K :=
  ⟨_, fun w _ => by
    have h : (execOp a.eval o).run P w = .ok (.value (.func (.method name) #[.iface t v] cap)) w := by
      simp [execOp, ho, hv, hn]
    unfold Oper.quietAt
    rw [h]
    exact ⟨rfl, rfl⟩, hk⟩
theorem words_str (s : ByteArray) (w : World) (hs : s.size ≤ 400) : Calls Try.prog 28 #[.agg #[.int .i64 2, .int .i64 0, .slice none 0 0, .string s]] w fun e w' => e = .returned (.int .i64 (((1 + (s.size + 7) / 8 : Nat) : Nat) : Int)) ∧ Ext w w' := by
  go_enter Try.func28, Try.ntmps28
  go_wp2_with fail
  refine at_alloc1 fun W hE hS b0 => ?_
  refine (may_str s _ hs).mono ?_
  rintro e w1 ⟨rfl, hx⟩
  have hb1 := (Below.block hx w.heap.size (by omega)).trans b0
  have HX := Lib.hid (hE.trans hx)
  clear hx hE hS b0
  obtain ⟨x0, x1, x2, x3⟩ := cells4 hb1
  clear hb1
  go_wp2_with fail
  refine (of_str _).mono ?_
  rintro e w2 ⟨rfl, rfl⟩
  go_wp2_with fail
  have r0 := fun d os => cell_regrown x0 d os
  have r1 := fun d os => cell_regrown x1 d os
  have r2 := fun d os => cell_regrown x2 d os
  have r3 := fun d os => cell_regrown x3 d os
  have cS := fun d os => quiet_ext (text_size s (Go.Sort.grow (redrawn w1 d) os))
  have cW := fun d os => quiet_ext (text_words s.size (Go.Sort.grow (redrawn w1 d) os) hs)
  have hm1 := m_size
  have hm2 := m_words
  have CS := Lib.hid cS; have CW := Lib.hid cW
  clear cS cW x0 x1 x2 x3
  refine wp_region_quiet_below (by kernel_rfl) (by kernel_rfl) ?_
  repeat (first | go_big_quiet_step (first | exact CS.out _ _ | exact CW.out _ _) | quiet_step (first | exact CS.out _ _ | exact CW.out _ _))
  refine Go.BigFrame.wpQuiet_want (by rfl) (fun K hK => quiet_nil_method (.tmp 14) rfl rfl n_words (hK _ ?_))
  clear hK K
  repeat (first | go_big_quiet_step (first | exact CS.out _ _ | exact CW.out _ _) | quiet_step (first | exact CS.out _ _ | exact CW.out _ _))
  refine wpQuiet_nil ?_
  intro _ hw'
  obtain ⟨⟨dq, osq⟩, hw''⟩ := hw'
  subst hw''
  have HXQ := Lib.hid (Ext.regrown w1 dq osq)
  clear r0 r1 r2 r3 hm1 hm2
  go_wp2
  go_ret
  refine ⟨?_, HX.out.trans HXQ.out⟩
  congr 2
end Go.Proofs.Ytalfmlhiooaigaa
