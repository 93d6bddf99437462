/- Proved here: the contracts and laws of ObjC, BitsP, ObjD, ObjE, ObjF, PieceP, Wd2, ObjG, ObjH of this claim, each beneath its own remark; conditions: those that each theorem names. -/
import Derived.Test.YtlffmcadchbheaaM3
import Derived.Test.YtlffmcadchbheaaM1
import Derived.WalkKit
import Derived.Laws.BitsAllLaws
import Derived.Deep.CutBlock
/- How many words an object takes; its head (the program's). -/
namespace Go.Proofs.Ytlffmcadchbheaa
open Go.RowKit
set_option maxHeartbeats 4000000
set_option maxRecDepth 100000
/-- the check ahead of a method's call through an interface -/
theorem quiet_nil_method {P : Program} {C : World → Prop} {a : Act} {o : Oper} {K : Act → Prop} (x : Operand) (ho : o.op = .nilCheck x) {name : String} {t : TypeId} {v : Value} {cap : Array Value} (hv : a.eval x = .func (.method name) #[.iface t v] cap)
    (hn : ∀ w, (nilAhead (P.types.size + Made.depth) t v name).run P w = .ok (some false) w) (hk : K (a.put o.dst (.func (.method name) #[.iface t v] cap))) : o.quiet P a C K :=
  ⟨_, fun w _ => by
    have h : (execOp a.eval o).run P w = .ok (.value (.func (.method name) #[.iface t v] cap)) w := by
      simp [execOp, ho, hv, hn]
    unfold Oper.quietAt
    rw [h]
    exact ⟨rfl, rfl⟩, hk⟩
theorem owords_no (kd tg : Int) (n c : Nat) (q : Option Addr) (s : ByteArray) (w : World) (hn : n ≤ 9223372036854775807) (h : mayK kd tg n s.size = false) : Calls Try.prog 20 #[.agg #[.int .i64 kd, .int .i64 tg, .slice q n c, .string s]] w fun e w' => e = .returned (.int .i64 0) ∧ Ext w w' := by
  have HM := Lib.hid (fun W => may_is kd tg n c q s W hn)
  rw [h] at HM
  clear h
  go_enter Try.func20, Try.ntmps20
  go_wp2_with fail
  refine (HM.out _).mono ?_
  rintro e w1 ⟨rfl, hx⟩
  go_wp2
  go_ret
  exact ⟨rfl, (Ext.alloc _ _).trans hx⟩
theorem head_no (kd tg : Int) (n c : Nat) (q : Option Addr) (s : ByteArray) (w : World) (hn : n ≤ 9223372036854775807) (h : mayK kd tg n s.size = false) : Calls Try.prog 13 #[.agg #[.int .i64 kd, .int .i64 tg, .slice q n c, .string s]] w fun e w' => e = .returned (.tuple #[.int .u64 0, .bool false]) ∧ Ext w w' := by
  have HM := Lib.hid (fun W => may_is kd tg n c q s W hn)
  rw [h] at HM
  clear h
  go_enter Try.func13, Try.ntmps13
  go_wp2_with fail
  refine (HM.out _).mono ?_
  rintro e w1 ⟨rfl, hx⟩
  go_wp2
  go_ret2
  exact ⟨rfl, (Ext.alloc _ _).trans hx⟩
theorem owords_1 (tg : Int) (n c : Nat) (q : Option Addr) (s : ByteArray) (w : World) (hn : n ≤ 9223372036854775807) (h : mayK 1 tg n s.size = true) : Calls Try.prog 20 #[.agg #[.int .i64 1, .int .i64 tg, .slice q n c, .string s]] w fun e w' => e = .returned (.int .i64 ((1 + bodyK 1 n s.size : Nat) : Int)) ∧ Ext w w' := by
  have HM := Lib.hid (fun W => may_is 1 tg n c q s W hn)
  rw [h] at HM
  obtain ⟨_, _, _, _, hn4, hm4, _, _⟩ := mayK_bounds h
  have HO := Lib.hid (show ofV 1 = .iface 118 (.agg #[.int .i64 1, .int .i64 8, .int .i64 255]) from rfl)
  have hb : bodyK 1 n s.size = n := rfl
  rw [hb]
  clear h hb
  go_enter Try.func20, Try.ntmps20
  go_wp2_with fail
  refine at_alloc1 fun W hE hS b0 => ?_
  refine (HM.out _).mono ?_
  rintro e w1 ⟨rfl, hx⟩
  have hb1 := (Below.block hx w.heap.size (by omega)).trans b0
  have HX := Lib.hid (hE.trans hx)
  clear hx hE hS b0
  obtain ⟨x0, x1, x2, x3⟩ := cells4 hb1
  clear hb1
  go_wp2_with fail
  refine (of_is _ _).mono ?_
  rintro e w2 ⟨rfl, rfl⟩
  rw [HO.out]
  go_wp2_with fail
  have r0 := fun d os => cell_regrown x0 d os
  have r1 := fun d os => cell_regrown x1 d os
  have r2 := fun d os => cell_regrown x2 d os
  have r3 := fun d os => cell_regrown x3 d os
  have cS := fun d os => quiet_ext (row_size 1 8 255 1 tg n c q s (Go.Sort.grow (redrawn w1 d) os))
  have cW := fun d os => quiet_ext (row_words 1 8 255 n (Go.Sort.grow (redrawn w1 d) os))
  have hm1 := mr_size
  have hm2 := mr_words
  have CS := Lib.hid cS; have CW := Lib.hid cW
  clear cS cW x0 x1 x2 x3
  refine wp_region_quiet_below (by kernel_rfl) (by kernel_rfl) ?_
  repeat (first | go_big_quiet_step (first | exact CS.out _ _ | exact CW.out _ _) | quiet_step (first | exact CS.out _ _ | exact CW.out _ _))
  refine Go.BigFrame.wpQuiet_want (by rfl) (fun K hK => quiet_nil_method (.tmp 14) rfl rfl (nr_words _ _ _) (hK _ ?_))
  clear hK K
  repeat (first | go_big_quiet_step (first | exact CS.out _ _ | exact CW.out _ _) | quiet_step (first | exact CS.out _ _ | exact CW.out _ _))
  refine wpQuiet_nil ?_
  intro _ hw'
  obtain ⟨⟨dq, osq⟩, hw''⟩ := hw'
  subst hw''
  have HXQ := Lib.hid (Ext.regrown w1 dq osq)
  clear r0 r1 r2 r3 hm1 hm2
  go_wp2
  go_ret
  refine ⟨?_, HX.out.trans HXQ.out⟩
  congr 2
theorem owords_2 (tg : Int) (n c : Nat) (q : Option Addr) (s : ByteArray) (w : World) (hn : n ≤ 9223372036854775807) (h : mayK 2 tg n s.size = true) : Calls Try.prog 20 #[.agg #[.int .i64 2, .int .i64 tg, .slice q n c, .string s]] w fun e w' => e = .returned (.int .i64 ((1 + bodyK 2 n s.size : Nat) : Int)) ∧ Ext w w' := by
  have HM := Lib.hid (fun W => may_is 2 tg n c q s W hn)
  rw [h] at HM
  obtain ⟨_, _, _, _, hn4, hm4, _, _⟩ := mayK_bounds h
  have HO := Lib.hid (show ofV 2 = .iface 120 (.agg #[]) from rfl)
  have hb : bodyK 2 n s.size = (s.size + 7) / 8 := rfl
  rw [hb]
  clear h hb
  go_enter Try.func20, Try.ntmps20
  go_wp2_with fail
  refine at_alloc1 fun W hE hS b0 => ?_
  refine (HM.out _).mono ?_
  rintro e w1 ⟨rfl, hx⟩
  have hb1 := (Below.block hx w.heap.size (by omega)).trans b0
  have HX := Lib.hid (hE.trans hx)
  clear hx hE hS b0
  obtain ⟨x0, x1, x2, x3⟩ := cells4 hb1
  clear hb1
  go_wp2_with fail
  refine (of_is _ _).mono ?_
  rintro e w2 ⟨rfl, rfl⟩
  rw [HO.out]
  go_wp2_with fail
  have r0 := fun d os => cell_regrown x0 d os
  have r1 := fun d os => cell_regrown x1 d os
  have r2 := fun d os => cell_regrown x2 d os
  have r3 := fun d os => cell_regrown x3 d os
  have cS := fun d os => quiet_ext (text_size 2 tg n c q s (Go.Sort.grow (redrawn w1 d) os))
  have cW := fun d os => quiet_ext (text_words s.size (Go.Sort.grow (redrawn w1 d) os) hm4)
  have hm1 := mt_size
  have hm2 := mt_words
  have CS := Lib.hid cS; have CW := Lib.hid cW
  clear cS cW x0 x1 x2 x3
  refine wp_region_quiet_below (by kernel_rfl) (by kernel_rfl) ?_
  repeat (first | go_big_quiet_step (first | exact CS.out _ _ | exact CW.out _ _) | quiet_step (first | exact CS.out _ _ | exact CW.out _ _))
  refine Go.BigFrame.wpQuiet_want (by rfl) (fun K hK => quiet_nil_method (.tmp 14) rfl rfl nt_words (hK _ ?_))
  clear hK K
  repeat (first | go_big_quiet_step (first | exact CS.out _ _ | exact CW.out _ _) | quiet_step (first | exact CS.out _ _ | exact CW.out _ _))
  refine wpQuiet_nil ?_
  intro _ hw'
  obtain ⟨⟨dq, osq⟩, hw''⟩ := hw'
  subst hw''
  have HXQ := Lib.hid (Ext.regrown w1 dq osq)
  clear r0 r1 r2 r3 hm1 hm2
  go_wp2
  go_ret
  refine ⟨?_, HX.out.trans HXQ.out⟩
  congr 2
theorem owords_3 (tg : Int) (n c : Nat) (q : Option Addr) (s : ByteArray) (w : World) (hn : n ≤ 9223372036854775807) (h : mayK 3 tg n s.size = true) : Calls Try.prog 20 #[.agg #[.int .i64 3, .int .i64 tg, .slice q n c, .string s]] w fun e w' => e = .returned (.int .i64 ((1 + bodyK 3 n s.size : Nat) : Int)) ∧ Ext w w' := by
  have HM := Lib.hid (fun W => may_is 3 tg n c q s W hn)
  rw [h] at HM
  obtain ⟨_, _, _, _, hn4, hm4, _, _⟩ := mayK_bounds h
  have HO := Lib.hid (show ofV 3 = .iface 118 (.agg #[.int .i64 0, .int .i64 400, .int .i64 0]) from rfl)
  have hb : bodyK 3 n s.size = n := rfl
  rw [hb]
  clear h hb
  go_enter Try.func20, Try.ntmps20
  go_wp2_with fail
  refine at_alloc1 fun W hE hS b0 => ?_
  refine (HM.out _).mono ?_
  rintro e w1 ⟨rfl, hx⟩
  have hb1 := (Below.block hx w.heap.size (by omega)).trans b0
  have HX := Lib.hid (hE.trans hx)
  clear hx hE hS b0
  obtain ⟨x0, x1, x2, x3⟩ := cells4 hb1
  clear hb1
  go_wp2_with fail
  refine (of_is _ _).mono ?_
  rintro e w2 ⟨rfl, rfl⟩
  rw [HO.out]
  go_wp2_with fail
  have r0 := fun d os => cell_regrown x0 d os
  have r1 := fun d os => cell_regrown x1 d os
  have r2 := fun d os => cell_regrown x2 d os
  have r3 := fun d os => cell_regrown x3 d os
  have cS := fun d os => quiet_ext (row_size 0 400 0 3 tg n c q s (Go.Sort.grow (redrawn w1 d) os))
  have cW := fun d os => quiet_ext (row_words 0 400 0 n (Go.Sort.grow (redrawn w1 d) os))
  have hm1 := mr_size
  have hm2 := mr_words
  have CS := Lib.hid cS; have CW := Lib.hid cW
  clear cS cW x0 x1 x2 x3
  refine wp_region_quiet_below (by kernel_rfl) (by kernel_rfl) ?_
  repeat (first | go_big_quiet_step (first | exact CS.out _ _ | exact CW.out _ _) | quiet_step (first | exact CS.out _ _ | exact CW.out _ _))
  refine Go.BigFrame.wpQuiet_want (by rfl) (fun K hK => quiet_nil_method (.tmp 14) rfl rfl (nr_words _ _ _) (hK _ ?_))
  clear hK K
  repeat (first | go_big_quiet_step (first | exact CS.out _ _ | exact CW.out _ _) | quiet_step (first | exact CS.out _ _ | exact CW.out _ _))
  refine wpQuiet_nil ?_
  intro _ hw'
  obtain ⟨⟨dq, osq⟩, hw''⟩ := hw'
  subst hw''
  have HXQ := Lib.hid (Ext.regrown w1 dq osq)
  clear r0 r1 r2 r3 hm1 hm2
  go_wp2
  go_ret
  refine ⟨?_, HX.out.trans HXQ.out⟩
  congr 2
theorem owords_4 (tg : Int) (n c : Nat) (q : Option Addr) (s : ByteArray) (w : World) (hn : n ≤ 9223372036854775807) (h : mayK 4 tg n s.size = true) : Calls Try.prog 20 #[.agg #[.int .i64 4, .int .i64 tg, .slice q n c, .string s]] w fun e w' => e = .returned (.int .i64 ((1 + bodyK 4 n s.size : Nat) : Int)) ∧ Ext w w' := by
  have HM := Lib.hid (fun W => may_is 4 tg n c q s W hn)
  rw [h] at HM
  obtain ⟨_, _, _, _, hn4, hm4, _, _⟩ := mayK_bounds h
  have HO := Lib.hid (show ofV 4 = .iface 118 (.agg #[.int .i64 0, .int .i64 30, .int .i64 59]) from rfl)
  have hb : bodyK 4 n s.size = n := rfl
  rw [hb]
  clear h hb
  go_enter Try.func20, Try.ntmps20
  go_wp2_with fail
  refine at_alloc1 fun W hE hS b0 => ?_
  refine (HM.out _).mono ?_
  rintro e w1 ⟨rfl, hx⟩
  have hb1 := (Below.block hx w.heap.size (by omega)).trans b0
  have HX := Lib.hid (hE.trans hx)
  clear hx hE hS b0
  obtain ⟨x0, x1, x2, x3⟩ := cells4 hb1
  clear hb1
  go_wp2_with fail
  refine (of_is _ _).mono ?_
  rintro e w2 ⟨rfl, rfl⟩
  rw [HO.out]
  go_wp2_with fail
  have r0 := fun d os => cell_regrown x0 d os
  have r1 := fun d os => cell_regrown x1 d os
  have r2 := fun d os => cell_regrown x2 d os
  have r3 := fun d os => cell_regrown x3 d os
  have cS := fun d os => quiet_ext (row_size 0 30 59 4 tg n c q s (Go.Sort.grow (redrawn w1 d) os))
  have cW := fun d os => quiet_ext (row_words 0 30 59 n (Go.Sort.grow (redrawn w1 d) os))
  have hm1 := mr_size
  have hm2 := mr_words
  have CS := Lib.hid cS; have CW := Lib.hid cW
  clear cS cW x0 x1 x2 x3
  refine wp_region_quiet_below (by kernel_rfl) (by kernel_rfl) ?_
  repeat (first | go_big_quiet_step (first | exact CS.out _ _ | exact CW.out _ _) | quiet_step (first | exact CS.out _ _ | exact CW.out _ _))
  refine Go.BigFrame.wpQuiet_want (by rfl) (fun K hK => quiet_nil_method (.tmp 14) rfl rfl (nr_words _ _ _) (hK _ ?_))
  clear hK K
  repeat (first | go_big_quiet_step (first | exact CS.out _ _ | exact CW.out _ _) | quiet_step (first | exact CS.out _ _ | exact CW.out _ _))
  refine wpQuiet_nil ?_
  intro _ hw'
  obtain ⟨⟨dq, osq⟩, hw''⟩ := hw'
  subst hw''
  have HXQ := Lib.hid (Ext.regrown w1 dq osq)
  clear r0 r1 r2 r3 hm1 hm2
  go_wp2
  go_ret
  refine ⟨?_, HX.out.trans HXQ.out⟩
  congr 2
theorem owords_yes (kd tg : Int) (n c : Nat) (q : Option Addr) (s : ByteArray) (w : World) (hn : n ≤ 9223372036854775807) (h : mayK kd tg n s.size = true) : Calls Try.prog 20 #[.agg #[.int .i64 kd, .int .i64 tg, .slice q n c, .string s]] w fun e w' => e = .returned (.int .i64 ((1 + bodyK kd n s.size : Nat) : Int)) ∧ Ext w w' := by
  rcases mayK_cases h with ⟨rfl, _⟩ | ⟨rfl, _⟩ | ⟨rfl, _⟩ | ⟨rfl, _⟩
  · exact owords_1 tg n c q s w hn h
  · exact owords_2 tg n c q s w hn h
  · exact owords_3 tg n c q s w hn h
  · exact owords_4 tg n c q s w hn h
end Go.Proofs.Ytlffmcadchbheaa
/- Bits of words: parts that lie apart, joined. -/
namespace Go.Proofs.Ytlffmcadchbheaa
open Go
theorem or_apart (i a b : Nat) (ha : a < 2 ^ i) (hb : b % 2 ^ i = 0) (ha2 : a < 18446744073709551616) (hb2 : b < 18446744073709551616) : bits .or .u64 (a : Int) (b : Int) = ((a + b : Nat) : Int) := by
  rw [u64_or_nat a b ha2 hb2, Nat.or_comm, nat_join i b a hb ha, Nat.add_comm]
theorem or_apart' (i a b : Nat) (ha : a < 2 ^ i) (hb : b % 2 ^ i = 0) (ha2 : a < 18446744073709551616) (hb2 : b < 18446744073709551616) : bits .or .u64 (b : Int) (a : Int) = ((a + b : Nat) : Int) := by
  rw [u64_or_nat b a hb2 ha2, nat_join i b a hb ha, Nat.add_comm]
theorem head_or (kd tg : Int) (n : Nat) (h1 : 0 ≤ kd) (h2 : kd < 256) (h3 : 0 ≤ tg) (h4 : tg < 16777216) (h5 : n ≤ 4294967295) :
    bits .or .u64 (bits .or .u64 kd (tg * 256)) ((n : Int) * 4294967296) = kd + 256 * tg + 4294967296 * (n : Int) := by
  obtain ⟨a, rfl⟩ := Int.eq_ofNat_of_zero_le h1
  obtain ⟨b, rfl⟩ := Int.eq_ofNat_of_zero_le h3
  rw [show ((b : Int) * 256) = ((b * 256 : Nat) : Int) by omega, or_apart 8 a (b * 256) (by omega) (by omega) (by omega) (by omega), show ((n : Int) * 4294967296) = ((n * 4294967296 : Nat) : Int) by omega,
    or_apart 32 (a + b * 256) (n * 4294967296) (by omega) (by omega) (by omega) (by omega)]
  omega
end Go.Proofs.Ytlffmcadchbheaa
/- An object's head (the program's). -/
namespace Go.Proofs.Ytlffmcadchbheaa
open Go.RowKit
set_option maxHeartbeats 4000000
set_option maxRecDepth 100000
theorem head_1 (tg : Int) (n c : Nat) (q : Option Addr) (s : ByteArray) (w : World) (hn : n ≤ 9223372036854775807) (h : mayK 1 tg n s.size = true) : Calls Try.prog 13 #[.agg #[.int .i64 1, .int .i64 tg, .slice q n c, .string s]] w fun e w' => e = .returned (.tuple #[.int .u64 (headK 1 tg n s.size), .bool true]) ∧ Ext w w' := by
  have HM := Lib.hid (fun W => may_is 1 tg n c q s W hn)
  rw [h] at HM
  obtain ⟨_, _, ht0, ht1, hn4, hm4, _, _⟩ := mayK_bounds h
  have HO := Lib.hid (show ofV 1 = .iface 118 (.agg #[.int .i64 1, .int .i64 8, .int .i64 255]) from rfl)
  clear h
  go_enter Try.func13, Try.ntmps13
  go_wp2_with fail
  refine at_alloc1 fun W hE hS b0 => ?_
  refine (HM.out _).mono ?_
  rintro e w1 ⟨rfl, hx⟩
  have hb1 := (Below.block hx w.heap.size (by omega)).trans b0
  have HX := Lib.hid (hE.trans hx)
  clear hx hE hS b0
  obtain ⟨x0, x1, x2, x3⟩ := cells4 hb1
  clear hb1
  go_wp2_with fail
  have r0 := fun d os => cell_regrown x0 d os
  have r1 := fun d os => cell_regrown x1 d os
  have r2 := fun d os => cell_regrown x2 d os
  have r3 := fun d os => cell_regrown x3 d os
  have cO := fun d os => quiet_same (of_is 1 (Go.Sort.grow (redrawn w1 d) os))
  have cS := fun d os => quiet_ext (row_size 1 8 255 1 tg n c q s (Go.Sort.grow (redrawn w1 d) os))
  have hm1 := mr_size
  rw [HO.out] at cO
  have CS := Lib.hid cS; have CO := Lib.hid cO
  clear cS cO x0 x1 x2 x3
  refine wp_region_quiet_below (by kernel_rfl) (by kernel_rfl) ?_
  repeat (first | go_big_quiet_step (first | exact CS.out _ _ | exact CO.out _ _) | quiet_step (first | exact CS.out _ _ | exact CO.out _ _))
  refine wpQuiet_nil ?_
  intro _ hw'
  obtain ⟨⟨dq, osq⟩, hw''⟩ := hw'
  subst hw''
  have HXQ := Lib.hid (Ext.regrown w1 dq osq)
  clear r0 r1 r2 r3 hm1
  go_wp2
  go_ret2
  refine ⟨?_, HX.out.trans HXQ.out⟩
  show Ending.returned (.tuple #[.int .u64 (bits .or .u64 (bits .or .u64 1 (tg * 256)) ((n : Nat) * 4294967296)), .bool true]) = _
  rw [head_or 1 tg n (by omega) (by omega) (by omega) (by omega) (by omega)]
  rfl
theorem head_2 (tg : Int) (n c : Nat) (q : Option Addr) (s : ByteArray) (w : World) (hn : n ≤ 9223372036854775807) (h : mayK 2 tg n s.size = true) : Calls Try.prog 13 #[.agg #[.int .i64 2, .int .i64 tg, .slice q n c, .string s]] w fun e w' => e = .returned (.tuple #[.int .u64 (headK 2 tg n s.size), .bool true]) ∧ Ext w w' := by
  have HM := Lib.hid (fun W => may_is 2 tg n c q s W hn)
  rw [h] at HM
  obtain ⟨_, _, ht0, ht1, hn4, hm4, _, _⟩ := mayK_bounds h
  have HO := Lib.hid (show ofV 2 = .iface 120 (.agg #[]) from rfl)
  clear h
  go_enter Try.func13, Try.ntmps13
  go_wp2_with fail
  refine at_alloc1 fun W hE hS b0 => ?_
  refine (HM.out _).mono ?_
  rintro e w1 ⟨rfl, hx⟩
  have hb1 := (Below.block hx w.heap.size (by omega)).trans b0
  have HX := Lib.hid (hE.trans hx)
  clear hx hE hS b0
  obtain ⟨x0, x1, x2, x3⟩ := cells4 hb1
  clear hb1
  go_wp2_with fail
  have r0 := fun d os => cell_regrown x0 d os
  have r1 := fun d os => cell_regrown x1 d os
  have r2 := fun d os => cell_regrown x2 d os
  have r3 := fun d os => cell_regrown x3 d os
  have cO := fun d os => quiet_same (of_is 2 (Go.Sort.grow (redrawn w1 d) os))
  have cS := fun d os => quiet_ext (text_size 2 tg n c q s (Go.Sort.grow (redrawn w1 d) os))
  have hm1 := mt_size
  rw [HO.out] at cO
  have CS := Lib.hid cS; have CO := Lib.hid cO
  clear cS cO x0 x1 x2 x3
  refine wp_region_quiet_below (by kernel_rfl) (by kernel_rfl) ?_
  repeat (first | go_big_quiet_step (first | exact CS.out _ _ | exact CO.out _ _) | quiet_step (first | exact CS.out _ _ | exact CO.out _ _))
  refine wpQuiet_nil ?_
  intro _ hw'
  obtain ⟨⟨dq, osq⟩, hw''⟩ := hw'
  subst hw''
  have HXQ := Lib.hid (Ext.regrown w1 dq osq)
  clear r0 r1 r2 r3 hm1
  go_wp2
  go_ret2
  refine ⟨?_, HX.out.trans HXQ.out⟩
  show Ending.returned (.tuple #[.int .u64 (bits .or .u64 (bits .or .u64 2 (tg * 256)) ((s.size : Nat) * 4294967296)), .bool true]) = _
  rw [head_or 2 tg s.size (by omega) (by omega) (by omega) (by omega) (by omega)]
  rfl
theorem head_3 (tg : Int) (n c : Nat) (q : Option Addr) (s : ByteArray) (w : World) (hn : n ≤ 9223372036854775807) (h : mayK 3 tg n s.size = true) : Calls Try.prog 13 #[.agg #[.int .i64 3, .int .i64 tg, .slice q n c, .string s]] w fun e w' => e = .returned (.tuple #[.int .u64 (headK 3 tg n s.size), .bool true]) ∧ Ext w w' := by
  have HM := Lib.hid (fun W => may_is 3 tg n c q s W hn)
  rw [h] at HM
  obtain ⟨_, _, ht0, ht1, hn4, hm4, _, _⟩ := mayK_bounds h
  have HO := Lib.hid (show ofV 3 = .iface 118 (.agg #[.int .i64 0, .int .i64 400, .int .i64 0]) from rfl)
  clear h
  go_enter Try.func13, Try.ntmps13
  go_wp2_with fail
  refine at_alloc1 fun W hE hS b0 => ?_
  refine (HM.out _).mono ?_
  rintro e w1 ⟨rfl, hx⟩
  have hb1 := (Below.block hx w.heap.size (by omega)).trans b0
  have HX := Lib.hid (hE.trans hx)
  clear hx hE hS b0
  obtain ⟨x0, x1, x2, x3⟩ := cells4 hb1
  clear hb1
  go_wp2_with fail
  have r0 := fun d os => cell_regrown x0 d os
  have r1 := fun d os => cell_regrown x1 d os
  have r2 := fun d os => cell_regrown x2 d os
  have r3 := fun d os => cell_regrown x3 d os
  have cO := fun d os => quiet_same (of_is 3 (Go.Sort.grow (redrawn w1 d) os))
  have cS := fun d os => quiet_ext (row_size 0 400 0 3 tg n c q s (Go.Sort.grow (redrawn w1 d) os))
  have hm1 := mr_size
  rw [HO.out] at cO
  have CS := Lib.hid cS; have CO := Lib.hid cO
  clear cS cO x0 x1 x2 x3
  refine wp_region_quiet_below (by kernel_rfl) (by kernel_rfl) ?_
  repeat (first | go_big_quiet_step (first | exact CS.out _ _ | exact CO.out _ _) | quiet_step (first | exact CS.out _ _ | exact CO.out _ _))
  refine wpQuiet_nil ?_
  intro _ hw'
  obtain ⟨⟨dq, osq⟩, hw''⟩ := hw'
  subst hw''
  have HXQ := Lib.hid (Ext.regrown w1 dq osq)
  clear r0 r1 r2 r3 hm1
  go_wp2
  go_ret2
  refine ⟨?_, HX.out.trans HXQ.out⟩
  show Ending.returned (.tuple #[.int .u64 (bits .or .u64 (bits .or .u64 3 (tg * 256)) ((n : Nat) * 4294967296)), .bool true]) = _
  rw [head_or 3 tg n (by omega) (by omega) (by omega) (by omega) (by omega)]
  rfl
theorem head_4 (tg : Int) (n c : Nat) (q : Option Addr) (s : ByteArray) (w : World) (hn : n ≤ 9223372036854775807) (h : mayK 4 tg n s.size = true) : Calls Try.prog 13 #[.agg #[.int .i64 4, .int .i64 tg, .slice q n c, .string s]] w fun e w' => e = .returned (.tuple #[.int .u64 (headK 4 tg n s.size), .bool true]) ∧ Ext w w' := by
  have HM := Lib.hid (fun W => may_is 4 tg n c q s W hn)
  rw [h] at HM
  obtain ⟨_, _, ht0, ht1, hn4, hm4, _, _⟩ := mayK_bounds h
  have HO := Lib.hid (show ofV 4 = .iface 118 (.agg #[.int .i64 0, .int .i64 30, .int .i64 59]) from rfl)
  clear h
  go_enter Try.func13, Try.ntmps13
  go_wp2_with fail
  refine at_alloc1 fun W hE hS b0 => ?_
  refine (HM.out _).mono ?_
  rintro e w1 ⟨rfl, hx⟩
  have hb1 := (Below.block hx w.heap.size (by omega)).trans b0
  have HX := Lib.hid (hE.trans hx)
  clear hx hE hS b0
  obtain ⟨x0, x1, x2, x3⟩ := cells4 hb1
  clear hb1
  go_wp2_with fail
  have r0 := fun d os => cell_regrown x0 d os
  have r1 := fun d os => cell_regrown x1 d os
  have r2 := fun d os => cell_regrown x2 d os
  have r3 := fun d os => cell_regrown x3 d os
  have cO := fun d os => quiet_same (of_is 4 (Go.Sort.grow (redrawn w1 d) os))
  have cS := fun d os => quiet_ext (row_size 0 30 59 4 tg n c q s (Go.Sort.grow (redrawn w1 d) os))
  have hm1 := mr_size
  rw [HO.out] at cO
  have CS := Lib.hid cS; have CO := Lib.hid cO
  clear cS cO x0 x1 x2 x3
  refine wp_region_quiet_below (by kernel_rfl) (by kernel_rfl) ?_
  repeat (first | go_big_quiet_step (first | exact CS.out _ _ | exact CO.out _ _) | quiet_step (first | exact CS.out _ _ | exact CO.out _ _))
  refine wpQuiet_nil ?_
  intro _ hw'
  obtain ⟨⟨dq, osq⟩, hw''⟩ := hw'
  subst hw''
  have HXQ := Lib.hid (Ext.regrown w1 dq osq)
  clear r0 r1 r2 r3 hm1
  go_wp2
  go_ret2
  refine ⟨?_, HX.out.trans HXQ.out⟩
  show Ending.returned (.tuple #[.int .u64 (bits .or .u64 (bits .or .u64 4 (tg * 256)) ((n : Nat) * 4294967296)), .bool true]) = _
  rw [head_or 4 tg n (by omega) (by omega) (by omega) (by omega) (by omega)]
  rfl
theorem head_yes (kd tg : Int) (n c : Nat) (q : Option Addr) (s : ByteArray) (w : World) (hn : n ≤ 9223372036854775807) (h : mayK kd tg n s.size = true) : Calls Try.prog 13 #[.agg #[.int .i64 kd, .int .i64 tg, .slice q n c, .string s]] w fun e w' => e = .returned (.tuple #[.int .u64 (headK kd tg n s.size), .bool true]) ∧ Ext w w' := by
  rcases mayK_cases h with ⟨rfl, _⟩ | ⟨rfl, _⟩ | ⟨rfl, _⟩ | ⟨rfl, _⟩
  · exact head_1 tg n c q s w hn h
  · exact head_2 tg n c q s w hn h
  · exact head_3 tg n c q s w hn h
  · exact head_4 tg n c q s w hn h
end Go.Proofs.Ytlffmcadchbheaa
/- The reference's: may an object be, how many words, its head. -/
namespace Go.Proofs.Ytlffmcadchbheaa
open Go.RowKit
set_option maxHeartbeats 4000000
set_option maxRecDepth 100000
theorem refmay_1 (tg : Int) (n c : Nat) (q : Option Addr) (s : ByteArray) (w : World) : Calls Try.prog 18 #[.agg #[.int .i64 1, .int .i64 tg, .slice q n c, .string s]] w fun e w' => e = .returned (.bool (mayK 1 tg n s.size)) ∧ Ext w w' := by
  by_cases h0 : 0 ≤ tg
  · by_cases h1 : tg ≤ 255
    · by_cases h2 : 1 ≤ n
      · by_cases h3 : n ≤ 8
        · by_cases h4 : s.size = 0
          · have hb : mayK 1 tg n s.size = true := by simp [mayK, rowB, h0, h1, h2, h3, h4]
            rw [hb]
            clear hb
            have e0 : decide (0 ≤ tg) = true := decide_eq_true (by omega)
            have e1 : decide (tg ≤ 255) = true := decide_eq_true (by omega)
            have e2 : decide (1 ≤ (n : Int)) = true := decide_eq_true (by omega)
            have e3 : decide ((n : Int) ≤ 8) = true := decide_eq_true (by omega)
            have e4 : s.toList.isEmpty = true := (hsb s).2 h4
            clear h0 h1 h2 h3 h4
            go_enter Try.func18, Try.ntmps18
            go_wp2
            go_ret
            exact ⟨by rfl, Ext.alloc _ _⟩
          · have hb : mayK 1 tg n s.size = false := by simp only [mayK, rowB, decide_eq_false h4]; first | (simp; done) | (simp; intros; omega)
            rw [hb]
            clear hb
            have e0 : decide (0 ≤ tg) = true := decide_eq_true (by omega)
            have e1 : decide (tg ≤ 255) = true := decide_eq_true (by omega)
            have e2 : decide (1 ≤ (n : Int)) = true := decide_eq_true (by omega)
            have e3 : decide ((n : Int) ≤ 8) = true := decide_eq_true (by omega)
            have e4 : s.toList.isEmpty = false := hsb_ne h4
            clear h0 h1 h2 h3 h4
            go_enter Try.func18, Try.ntmps18
            go_wp2
            go_ret
            exact ⟨by rfl, Ext.alloc _ _⟩
        · have hb : mayK 1 tg n s.size = false := by simp only [mayK, rowB, decide_eq_false h3]; first | (simp; done) | (simp; intros; omega)
          rw [hb]
          clear hb
          have e0 : decide (0 ≤ tg) = true := decide_eq_true (by omega)
          have e1 : decide (tg ≤ 255) = true := decide_eq_true (by omega)
          have e2 : decide (1 ≤ (n : Int)) = true := decide_eq_true (by omega)
          have e3 : decide ((n : Int) ≤ 8) = false := decide_eq_false (by omega)
          clear h0 h1 h2 h3
          go_enter Try.func18, Try.ntmps18
          go_wp2
          go_ret
          exact ⟨by rfl, Ext.alloc _ _⟩
      · have hb : mayK 1 tg n s.size = false := by simp only [mayK, rowB, decide_eq_false h2]; first | (simp; done) | (simp; intros; omega)
        rw [hb]
        clear hb
        have e0 : decide (0 ≤ tg) = true := decide_eq_true (by omega)
        have e1 : decide (tg ≤ 255) = true := decide_eq_true (by omega)
        have e2 : decide (1 ≤ (n : Int)) = false := decide_eq_false (by omega)
        clear h0 h1 h2
        go_enter Try.func18, Try.ntmps18
        go_wp2
        go_ret
        exact ⟨by rfl, Ext.alloc _ _⟩
    · have hb : mayK 1 tg n s.size = false := by simp only [mayK, rowB, decide_eq_false h1]; first | (simp; done) | (simp; intros; omega)
      rw [hb]
      clear hb
      have e0 : decide (0 ≤ tg) = true := decide_eq_true (by omega)
      have e1 : decide (tg ≤ 255) = false := decide_eq_false (by omega)
      clear h0 h1
      go_enter Try.func18, Try.ntmps18
      go_wp2
      go_ret
      exact ⟨by rfl, Ext.alloc _ _⟩
  · have hb : mayK 1 tg n s.size = false := by simp only [mayK, rowB, decide_eq_false h0]; first | (simp; done) | (simp; intros; omega)
    rw [hb]
    clear hb
    have e0 : decide (0 ≤ tg) = false := decide_eq_false (by omega)
    clear h0
    go_enter Try.func18, Try.ntmps18
    go_wp2
    go_ret
    exact ⟨by rfl, Ext.alloc _ _⟩
theorem refmay_2 (tg : Int) (n c : Nat) (q : Option Addr) (s : ByteArray) (w : World) : Calls Try.prog 18 #[.agg #[.int .i64 2, .int .i64 tg, .slice q n c, .string s]] w fun e w' => e = .returned (.bool (mayK 2 tg n s.size)) ∧ Ext w w' := by
  by_cases h0 : tg = 0
  · by_cases h1 : n = 0
    · by_cases h2 : s.size ≤ 400
      · have hb : mayK 2 tg n s.size = true := by simp [mayK, h0, h1, h2]
        rw [hb]
        clear hb
        have e0 : (tg == 0) = true := beq_iff_eq.2 h0
        have e1 : ((n : Int) == 0) = true := beq_iff_eq.2 (by omega)
        have e2 : decide ((s.size : Int) ≤ 400) = true := decide_eq_true (by omega)
        clear h0 h1 h2
        go_enter Try.func18, Try.ntmps18
        go_wp2
        go_ret
        exact ⟨by rfl, Ext.alloc _ _⟩
      · have hb : mayK 2 tg n s.size = false := by simp only [mayK, rowB, decide_eq_false h2]; first | (simp; done) | (simp; intros; omega)
        rw [hb]
        clear hb
        have e0 : (tg == 0) = true := beq_iff_eq.2 h0
        have e1 : ((n : Int) == 0) = true := beq_iff_eq.2 (by omega)
        have e2 : decide ((s.size : Int) ≤ 400) = false := decide_eq_false (by omega)
        clear h0 h1 h2
        go_enter Try.func18, Try.ntmps18
        go_wp2
        go_ret
        exact ⟨by rfl, Ext.alloc _ _⟩
    · have hb : mayK 2 tg n s.size = false := by simp only [mayK, rowB, decide_eq_false h1]; first | (simp; done) | (simp; intros; omega)
      rw [hb]
      clear hb
      have e0 : (tg == 0) = true := beq_iff_eq.2 h0
      have e1 : ((n : Int) == 0) = false := beq_false_of_ne (by omega)
      clear h0 h1
      go_enter Try.func18, Try.ntmps18
      go_wp2
      go_ret
      exact ⟨by rfl, Ext.alloc _ _⟩
  · have hb : mayK 2 tg n s.size = false := by simp only [mayK, rowB, decide_eq_false h0]; first | (simp; done) | (simp; intros; omega)
    rw [hb]
    clear hb
    have e0 : (tg == 0) = false := beq_false_of_ne h0
    clear h0
    go_enter Try.func18, Try.ntmps18
    go_wp2
    go_ret
    exact ⟨by rfl, Ext.alloc _ _⟩
theorem refmay_3 (tg : Int) (n c : Nat) (q : Option Addr) (s : ByteArray) (w : World) : Calls Try.prog 18 #[.agg #[.int .i64 3, .int .i64 tg, .slice q n c, .string s]] w fun e w' => e = .returned (.bool (mayK 3 tg n s.size)) ∧ Ext w w' := by
  by_cases h0 : tg = 0
  · by_cases h1 : n ≤ 400
    · by_cases h2 : s.size = 0
      · have hb : mayK 3 tg n s.size = true := by simp [mayK, rowB, h0, h1, h2]
        rw [hb]
        clear hb
        have e0 : (tg == 0) = true := beq_iff_eq.2 h0
        have e1 : decide ((n : Int) ≤ 400) = true := decide_eq_true (by omega)
        have e2 : s.toList.isEmpty = true := (hsb s).2 h2
        clear h0 h1 h2
        go_enter Try.func18, Try.ntmps18
        go_wp2
        go_ret
        exact ⟨by rfl, Ext.alloc _ _⟩
      · have hb : mayK 3 tg n s.size = false := by simp only [mayK, rowB, decide_eq_false h2]; first | (simp; done) | (simp; intros; omega)
        rw [hb]
        clear hb
        have e0 : (tg == 0) = true := beq_iff_eq.2 h0
        have e1 : decide ((n : Int) ≤ 400) = true := decide_eq_true (by omega)
        have e2 : s.toList.isEmpty = false := hsb_ne h2
        clear h0 h1 h2
        go_enter Try.func18, Try.ntmps18
        go_wp2
        go_ret
        exact ⟨by rfl, Ext.alloc _ _⟩
    · have hb : mayK 3 tg n s.size = false := by simp only [mayK, rowB, decide_eq_false h1]; first | (simp; done) | (simp; intros; omega)
      rw [hb]
      clear hb
      have e0 : (tg == 0) = true := beq_iff_eq.2 h0
      have e1 : decide ((n : Int) ≤ 400) = false := decide_eq_false (by omega)
      clear h0 h1
      go_enter Try.func18, Try.ntmps18
      go_wp2
      go_ret
      exact ⟨by rfl, Ext.alloc _ _⟩
  · have hb : mayK 3 tg n s.size = false := by simp only [mayK, rowB, decide_eq_false h0]; first | (simp; done) | (simp; intros; omega)
    rw [hb]
    clear hb
    have e0 : (tg == 0) = false := beq_false_of_ne h0
    clear h0
    go_enter Try.func18, Try.ntmps18
    go_wp2
    go_ret
    exact ⟨by rfl, Ext.alloc _ _⟩
theorem refmay_4 (tg : Int) (n c : Nat) (q : Option Addr) (s : ByteArray) (w : World) : Calls Try.prog 18 #[.agg #[.int .i64 4, .int .i64 tg, .slice q n c, .string s]] w fun e w' => e = .returned (.bool (mayK 4 tg n s.size)) ∧ Ext w w' := by
  by_cases h0 : 0 ≤ tg
  · by_cases h1 : tg ≤ 59
    · by_cases h2 : n ≤ 30
      · by_cases h3 : s.size = 0
        · have hb : mayK 4 tg n s.size = true := by simp [mayK, rowB, h0, h1, h2, h3]
          rw [hb]
          clear hb
          have e0 : decide (0 ≤ tg) = true := decide_eq_true (by omega)
          have e1 : decide (tg < 60) = true := decide_eq_true (by omega)
          have e2 : decide ((n : Int) ≤ 30) = true := decide_eq_true (by omega)
          have e3 : s.toList.isEmpty = true := (hsb s).2 h3
          clear h0 h1 h2 h3
          go_enter Try.func18, Try.ntmps18
          go_wp2
          go_ret
          exact ⟨by rfl, Ext.alloc _ _⟩
        · have hb : mayK 4 tg n s.size = false := by simp only [mayK, rowB, decide_eq_false h3]; first | (simp; done) | (simp; intros; omega)
          rw [hb]
          clear hb
          have e0 : decide (0 ≤ tg) = true := decide_eq_true (by omega)
          have e1 : decide (tg < 60) = true := decide_eq_true (by omega)
          have e2 : decide ((n : Int) ≤ 30) = true := decide_eq_true (by omega)
          have e3 : s.toList.isEmpty = false := hsb_ne h3
          clear h0 h1 h2 h3
          go_enter Try.func18, Try.ntmps18
          go_wp2
          go_ret
          exact ⟨by rfl, Ext.alloc _ _⟩
      · have hb : mayK 4 tg n s.size = false := by simp only [mayK, rowB, decide_eq_false h2]; first | (simp; done) | (simp; intros; omega)
        rw [hb]
        clear hb
        have e0 : decide (0 ≤ tg) = true := decide_eq_true (by omega)
        have e1 : decide (tg < 60) = true := decide_eq_true (by omega)
        have e2 : decide ((n : Int) ≤ 30) = false := decide_eq_false (by omega)
        clear h0 h1 h2
        go_enter Try.func18, Try.ntmps18
        go_wp2
        go_ret
        exact ⟨by rfl, Ext.alloc _ _⟩
    · have hb : mayK 4 tg n s.size = false := by simp only [mayK, rowB, decide_eq_false h1]; first | (simp; done) | (simp; intros; omega)
      rw [hb]
      clear hb
      have e0 : decide (0 ≤ tg) = true := decide_eq_true (by omega)
      have e1 : decide (tg < 60) = false := decide_eq_false (by omega)
      clear h0 h1
      go_enter Try.func18, Try.ntmps18
      go_wp2
      go_ret
      exact ⟨by rfl, Ext.alloc _ _⟩
  · have hb : mayK 4 tg n s.size = false := by simp only [mayK, rowB, decide_eq_false h0]; first | (simp; done) | (simp; intros; omega)
    rw [hb]
    clear hb
    have e0 : decide (0 ≤ tg) = false := decide_eq_false (by omega)
    clear h0
    go_enter Try.func18, Try.ntmps18
    go_wp2
    go_ret
    exact ⟨by rfl, Ext.alloc _ _⟩
theorem refmay_is (kd tg : Int) (n c : Nat) (q : Option Addr) (s : ByteArray) (w : World) : Calls Try.prog 18 #[.agg #[.int .i64 kd, .int .i64 tg, .slice q n c, .string s]] w fun e w' => e = .returned (.bool (mayK kd tg n s.size)) ∧ Ext w w' := by
  by_cases h1 : kd = 1
  · subst h1; exact refmay_1 tg n c q s w
  · by_cases h2 : kd = 2
    · subst h2; exact refmay_2 tg n c q s w
    · by_cases h3 : kd = 3
      · subst h3; exact refmay_3 tg n c q s w
      · by_cases h4 : kd = 4
        · subst h4; exact refmay_4 tg n c q s w
        · have hb : mayK kd tg n s.size = false := by unfold mayK; rw [if_neg h1, if_neg h2, if_neg h3, if_neg h4]
          rw [hb]
          have e1 : (kd == 1) = false := beq_false_of_ne h1
          have e2 : (kd == 2) = false := beq_false_of_ne h2
          have e3 : (kd == 3) = false := beq_false_of_ne h3
          have e4 : (kd == 4) = false := beq_false_of_ne h4
          clear hb h1 h2 h3 h4
          go_enter Try.func18, Try.ntmps18
          go_wp2
          go_ret
          exact ⟨rfl, Ext.alloc _ _⟩
theorem rwords_no (kd tg : Int) (n c : Nat) (q : Option Addr) (s : ByteArray) (w : World) (h : mayK kd tg n s.size = false) : Calls Try.prog 21 #[.agg #[.int .i64 kd, .int .i64 tg, .slice q n c, .string s]] w fun e w' => e = .returned (.int .i64 0) ∧ Ext w w' := by
  have HM := Lib.hid (fun W => refmay_is kd tg n c q s W)
  rw [h] at HM
  clear h
  go_enter Try.func21, Try.ntmps21
  go_wp2_with fail
  refine (HM.out _).mono ?_
  rintro e w1 ⟨rfl, hx⟩
  go_wp2
  go_ret
  exact ⟨rfl, (Ext.alloc _ _).trans hx⟩
theorem rwords_yes (kd tg : Int) (n c : Nat) (q : Option Addr) (s : ByteArray) (w : World) (h : mayK kd tg n s.size = true) : Calls Try.prog 21 #[.agg #[.int .i64 kd, .int .i64 tg, .slice q n c, .string s]] w fun e w' => e = .returned (.int .i64 ((1 + bodyK kd n s.size : Nat) : Int)) ∧ Ext w w' := by
  have HM := Lib.hid (fun W => refmay_is kd tg n c q s W)
  rw [h] at HM
  obtain ⟨_, _, _, _, hn4, hm4, _, _⟩ := mayK_bounds h
  by_cases h2 : kd = 2
  · subst h2
    have hb : bodyK 2 n s.size = (s.size + 7) / 8 := rfl
    rw [hb]
    clear h hb
    go_enter Try.func21, Try.ntmps21
    go_wp2_with fail
    refine at_alloc1 fun W hE hS b0 => ?_
    refine (HM.out _).mono ?_
    rintro e w1 ⟨rfl, hx⟩
    have hb1 := (Below.block hx w.heap.size (by omega)).trans b0
    have HX := Lib.hid (hE.trans hx)
    clear hx hE hS b0
    obtain ⟨x0, x1, x2, x3⟩ := cells4 hb1
    clear hb1
    go_wp2
    go_ret
    refine ⟨?_, HX.out⟩
    show Ending.returned (.int .i64 (1 + ((s.size : Int) + 7) / 8)) = _
    congr 2
  · have hb : bodyK kd n s.size = n := if_neg h2
    rw [hb]
    have e2 : (kd == 2) = false := beq_false_of_ne h2
    clear h hb h2
    go_enter Try.func21, Try.ntmps21
    go_wp2_with fail
    refine at_alloc1 fun W hE hS b0 => ?_
    refine (HM.out _).mono ?_
    rintro e w1 ⟨rfl, hx⟩
    have hb1 := (Below.block hx w.heap.size (by omega)).trans b0
    have HX := Lib.hid (hE.trans hx)
    clear hx hE hS b0
    obtain ⟨x0, x1, x2, x3⟩ := cells4 hb1
    clear hb1
    go_wp2
    go_ret
    refine ⟨?_, HX.out⟩
    show Ending.returned (.int .i64 (1 + (n : Int))) = _
    congr 2
theorem refhead_is (kd tg : Int) (n c : Nat) (q : Option Addr) (s : ByteArray) (w : World) (h : mayK kd tg n s.size = true) : Calls Try.prog 19 #[.agg #[.int .i64 kd, .int .i64 tg, .slice q n c, .string s]] w fun e w' => e = .returned (.int .u64 (headK kd tg n s.size)) ∧ Ext w w' := by
  obtain ⟨hk1, hk2, ht0, ht1, hn4, hm4, _, _⟩ := mayK_bounds h
  by_cases h2 : kd = 2
  · subst h2
    clear h
    go_enter Try.func19, Try.ntmps19
    go_wp2
    go_ret
    refine ⟨?_, Ext.alloc _ _⟩
    show Ending.returned (.int .u64 (bits .or .u64 (bits .or .u64 2 (tg * 256)) ((s.size : Int) * 4294967296))) = _
    rw [head_or 2 tg s.size (by omega) (by omega) (by omega) (by omega) (by omega)]
    rfl
  · have hb : headK kd tg n s.size = kd + 256 * tg + 4294967296 * (n : Int) := by unfold headK sizeK; rw [if_neg h2]
    rw [hb]
    have e2 : (kd == 2) = false := beq_false_of_ne h2
    clear h hb h2
    go_enter Try.func19, Try.ntmps19
    go_wp2
    go_ret
    refine ⟨?_, Ext.alloc _ _⟩
    show Ending.returned (.int .u64 (bits .or .u64 (bits .or .u64 kd (tg * 256)) ((n : Int) * 4294967296))) = _
    rw [head_or kd tg n (by omega) (by omega) (by omega) (by omega) (by omega)]
end Go.Proofs.Ytlffmcadchbheaa
/- Words: numbers, places. -/
namespace Go.Proofs.Ytlffmcadchbheaa
open Go.RowKit
set_option maxHeartbeats 4000000
set_option maxRecDepth 100000
/-- a number of 64 bits -/
def W64 (x : Int) : Prop := 0 ≤ x ∧ x < 18446744073709551616
theorem and_one {x : Int} (h : W64 x) : bits .and .u64 x 1 = x % 2 := by
  obtain ⟨n, rfl⟩ := Int.eq_ofNat_of_zero_le h.1
  rw [show (1 : Int) = ((1 : Nat) : Int) from rfl, u64_and_nat n 1 (by have := h.2; omega) (by decide), Nat.and_one_is_mod]
  omega
theorem isInt_is {x : Int} (hx : W64 x) (w : World) : Calls Try.prog 66 #[.int .u64 x] w fun e w' => e = .returned (.bool (isIntW x)) ∧ w = w' := by
  have ha := and_one hx
  have hb : ((x % 2) == 1) = isIntW x := by unfold isIntW; rw [Bool.eq_iff_iff]; simp
  go_enter Try.func66, Try.ntmps66
  go_wp2
  go_ret
  exact ⟨by first | rfl | simp [ha, hb], rfl⟩
theorem refIsInt_is {x : Int} (hx : W64 x) (w : World) : Calls Try.prog 30 #[.int .u64 x] w fun e w' => e = .returned (.bool (isIntW x)) ∧ w = w' := by
  have hb : ((x % 2) == 1) = isIntW x := by unfold isIntW; rw [Bool.eq_iff_iff]; simp
  obtain ⟨h1, h2⟩ := hx
  go_enter Try.func30, Try.ntmps30
  go_wp2
  go_ret
  exact ⟨by first | rfl | simp [hb], rfl⟩
theorem at_is {x : Int} (hx : W64 x) (w : World) : Calls Try.prog 60 #[.int .u64 x] w fun e w' => e = .returned (if isIntW x = true ∨ 4294967296 ≤ x / 2 then .tuple #[.int .i64 0, .bool false] else .tuple #[.int .i64 (x / 2), .bool true]) ∧ w = w' := by
  have HI := Lib.hid (fun W => isInt_is hx W)
  cases hi : isIntW x with
  | true =>
    rw [hi] at HI
    rw [if_pos (.inl rfl)]
    clear hi
    go_enter Try.func60, Try.ntmps60
    go_wp2_with fail
    refine (HI.out _).mono ?_
    rintro e w1 ⟨rfl, rfl⟩
    go_wp2
    go_ret2
    exact ⟨rfl, rfl⟩
  | false =>
    rw [hi] at HI
    clear hi
    obtain ⟨h1, h2⟩ := hx
    by_cases hb : 4294967296 ≤ x / 2
    · have c1 : decide (4294967295 < x / 2) = true := decide_eq_true (by omega)
      rw [if_pos (.inr hb)]
      go_enter Try.func60, Try.ntmps60
      go_wp2_with fail
      refine (HI.out _).mono ?_
      rintro e w1 ⟨rfl, rfl⟩
      go_wp2
      go_ret2
      exact ⟨rfl, rfl⟩
    · have c1 : decide (4294967295 < x / 2) = false := decide_eq_false (by omega)
      have hc : ¬ (false = true ∨ 4294967296 ≤ x / 2) := by simp; omega
      rw [if_neg hc]
      have b3 : x / 2 < 4294967296 := by omega
      clear hb hc
      go_enter Try.func60, Try.ntmps60
      go_wp2_with fail
      refine (HI.out _).mono ?_
      rintro e w1 ⟨rfl, rfl⟩
      go_wp2
      go_ret2
      exact ⟨rfl, rfl⟩
theorem refAt_is {x : Int} (hx : W64 x) (w : World) : Calls Try.prog 46 #[.int .u64 x] w fun e w' => e = .returned (.int .i64 (if isIntW x = true ∨ 4294967296 ≤ x / 2 then -1 else x / 2)) ∧ w = w' := by
  have HI := Lib.hid (fun W => refIsInt_is hx W)
  cases hi : isIntW x with
  | true =>
    rw [hi] at HI
    rw [if_pos (.inl rfl)]
    clear hi
    go_enter Try.func46, Try.ntmps46
    go_wp2_with fail
    refine (HI.out _).mono ?_
    rintro e w1 ⟨rfl, rfl⟩
    go_wp2
    go_ret
    exact ⟨rfl, rfl⟩
  | false =>
    rw [hi] at HI
    clear hi
    obtain ⟨h1, h2⟩ := hx
    by_cases hb : 4294967296 ≤ x / 2
    · have c1 : decide (4294967296 ≤ x / 2) = true := decide_eq_true (by omega)
      rw [if_pos (.inr hb)]
      go_enter Try.func46, Try.ntmps46
      go_wp2_with fail
      refine (HI.out _).mono ?_
      rintro e w1 ⟨rfl, rfl⟩
      go_wp2
      go_ret
      exact ⟨rfl, rfl⟩
    · have c1 : decide (4294967296 ≤ x / 2) = false := decide_eq_false (by omega)
      have hc : ¬ (false = true ∨ 4294967296 ≤ x / 2) := by simp; omega
      rw [if_neg hc]
      have b3 : x / 2 < 4294967296 := by omega
      clear hb hc
      go_enter Try.func46, Try.ntmps46
      go_wp2_with fail
      refine (HI.out _).mono ?_
      rintro e w1 ⟨rfl, rfl⟩
      go_wp2
      go_ret
      exact ⟨rfl, rfl⟩
theorem place_is {n : Nat} (hn : n ≤ 4294967295) (w : World) : Calls Try.prog 54 #[.int .i64 n] w fun e w' => e = .returned (.int .u64 ((2 * n : Nat) : Int)) ∧ w = w' := by
  go_enter Try.func54, Try.ntmps54
  go_wp2
  go_ret
  exact ⟨by show Ending.returned (.int .u64 ((n : Int) * 2)) = _; congr 2; omega, rfl⟩
theorem refPlace_is {n : Nat} (hn : n ≤ 4294967295) (w : World) : Calls Try.prog 31 #[.int .i64 n] w fun e w' => e = .returned (.int .u64 ((2 * n : Nat) : Int)) ∧ w = w' := by
  have hM : ∀ W, Calls Try.prog 56 #[.int .i64 n] W fun e w' => e = .returned (.bool true) ∧ W = w' := by
    intro W
    go_enter Try.func56, Try.ntmps56
    go_wp2
    go_ret
    exact ⟨by simp <;> omega, rfl⟩
  have HM := Lib.hid hM
  clear hM
  go_enter Try.func31, Try.ntmps31
  go_wp2_with fail
  refine (HM.out _).mono ?_
  rintro e w1 ⟨rfl, rfl⟩
  go_wp2
  go_ret
  exact ⟨by show Ending.returned (.int .u64 (2 * (n : Int))) = _; congr 2, rfl⟩
end Go.Proofs.Ytlffmcadchbheaa
/- A text's bytes packed into words, in plain Lean. -/
namespace Go.Proofs.Ytlffmcadchbheaa
open Go
theorem pk_app (A : List UInt8) (x : UInt8) : pk (A ++ [x]) = pk A + x.toNat * 256 ^ A.length := by
  induction A with
  | nil => simp [pk]
  | cons a A ih =>
    rw [List.cons_append, pk, ih, pk, List.length_cons, Nat.pow_succ, Nat.mul_add, ← Nat.add_assoc]
    congr 1
    rw [Nat.mul_comm 256, Nat.mul_assoc]
theorem pk_lt (A : List UInt8) : pk A < 256 ^ A.length := by
  induction A with
  | nil => simp [pk]
  | cons a A ih =>
    have := a.toNat_lt
    rw [pk, List.length_cons, Nat.pow_succ]
    omega
theorem pieceN_here {s : List UInt8} {k : Nat} {x : UInt8} (hx : s[k]? = some x) : pieceN (s.take (k + 1)) (k / 8) = pieceN (s.take k) (k / 8) + ((x.toNat * 256 ^ (k % 8) : Nat) : Int) ∧ 0 ≤ pieceN (s.take k) (k / 8) ∧ pieceN (s.take k) (k / 8) < ((256 ^ (k % 8) : Nat) : Int) := by
  have hk : k < s.length := (List.getElem?_eq_some_iff.1 hx).1
  have ht : s.take (k + 1) = s.take k ++ [x] := by rw [List.take_succ_eq_append_getElem hk, (List.getElem?_eq_some_iff.1 hx).2]
  have hl : (s.take k).length = k := by rw [List.length_take]; omega
  have hd : (s.take (k + 1)).drop (8 * (k / 8)) = (s.take k).drop (8 * (k / 8)) ++ [x] := by rw [ht, List.drop_append_of_le_length (by omega)]
  have hA : ((s.take k).drop (8 * (k / 8))).length = k % 8 := by rw [List.length_drop, hl]; omega
  have hlt := pk_lt ((s.take k).drop (8 * (k / 8)))
  rw [hA] at hlt
  unfold pieceN
  rw [hd]
  generalize (s.take k).drop (8 * (k / 8)) = A at *
  have hm : k % 8 < 8 := Nat.mod_lt _ (by omega)
  rw [List.take_of_length_le (l := A ++ [x]) (by rw [List.length_append, hA, List.length_singleton]; omega), List.take_of_length_le (l := A) (by rw [hA]; omega), pk_app, hA]
  exact ⟨by simp, by omega, by exact_mod_cast hlt⟩
theorem pieceN_other {s : List UInt8} {k j : Nat} (hk : k < s.length) (hj : j ≠ k / 8) : pieceN (s.take (k + 1)) j = pieceN (s.take k) j := by
  have ht : s.take (k + 1) = s.take k ++ [s[k]] := by rw [List.take_succ_eq_append_getElem hk]
  have hl : (s.take k).length = k := by rw [List.length_take]; omega
  unfold pieceN
  rcases Nat.lt_or_gt_of_ne hj with h | h
  · rw [ht, List.drop_append_of_le_length (by omega), List.take_append_of_le_length (by rw [List.length_drop, hl]; omega)]
  · rw [List.drop_of_length_le (l := s.take (k + 1)) (by rw [List.length_take]; omega), List.drop_of_length_le (l := s.take k) (by rw [List.length_take]; omega)]
theorem pieces_step {s : List UInt8} {k m : Nat} {x : UInt8} (hx : s[k]? = some x) (f : Int → List Value) : (List.range m).map (fun j => f (pieceN (s.take (k + 1)) j)) = ((List.range m).map (fun j => f (pieceN (s.take k) j))).set (k / 8) (f (pieceN (s.take k) (k / 8) + ((x.toNat * 256 ^ (k % 8) : Nat) : Int))) := by
  have hk : k < s.length := (List.getElem?_eq_some_iff.1 hx).1
  apply List.ext_getElem?
  intro i
  rw [List.getElem?_set]
  by_cases hi : k / 8 = i
  · subst hi
    rw [if_pos rfl]
    by_cases hm : k / 8 < m
    · simp [hm, (pieceN_here hx).1]
    · simp [hm]
  · rw [if_neg hi]
    by_cases hm : i < m
    · simp [hm, pieceN_other hk (Ne.symm hi)]
    · simp [hm]
theorem pieceN_nil (j : Nat) : pieceN [] j = 0 := by simp [pieceN, pk]
theorem pieces_start (m : Nat) (f : Int → List Value) (s : List UInt8) : (List.range m).map (fun j => f (pieceN (s.take 0) j)) = List.replicate m (f 0) := by
  rw [List.take_zero]
  simp only [pieceN_nil]
  apply List.ext_getElem?
  intro i
  by_cases hi : i < m <;> simp [hi]
end Go.Proofs.Ytlffmcadchbheaa
/- Words as rows (over Sli), beside Words. -/
namespace Go.Proofs.Ytlffmcadchbheaa
open Go.RowKit Go.Maps
set_option maxHeartbeats 2000000
set_option maxRecDepth 100000
def wordC (x : Int) : List Value := [.int .u64 x]
theorem wordC_rows (S : List Int) : Rows1 1 (S.map wordC) := by
  intro cs hm
  obtain ⟨x, _, rfl⟩ := List.mem_map.1 hm
  exact ⟨rfl, fun u hu => by simp [wordC] at hu; subst hu; rfl⟩
theorem wordC_flat (S : List Int) : (S.map wordC).flatten = S.map fun x => Value.int .u64 x := by
  induction S with
  | nil => rfl
  | cons x S ih => rw [List.map_cons, List.flatten_cons, ih]; rfl
theorem E64 : ElemT Try.prog 22 29 1 8 := ⟨Try.underlying22, ⟨.int .u64 0, by kernel_rfl, rfl⟩, by decide⟩
theorem WordSl.of_rows {w : World} {v : Value} {l : List Int} (h : RowsP w v 1 (l.map wordC)) : WordSl w v l := by
  obtain ⟨q, c, rfl, h1, h2, hc⟩ := h.at
  rw [List.length_map] at h1 ⊢
  refine ⟨q, c, rfl, h1, h2, fun i x hx => ?_⟩
  obtain ⟨b, off, hq, hcc⟩ := hc i (wordC x) (by rw [List.getElem?_map, hx]; rfl)
  have := hcc 0 _ rfl
  rw [Nat.add_zero, Nat.mul_one] at this
  exact ⟨b, off, hq, this⟩
theorem mk_u64s (k : Nat) (hk : k ≤ 1000000) (W : World) : (Instr.makeSlice 22 (.int .i64 k) (.int .i64 k)).run Try.prog W = .ok (.slice (some ⟨W.heap.size, 0, none⟩) k k) (W.alloc (.cells (madeCells #[.int .u64 0] k) 29)) := by
  obtain ⟨i0, hi, hz0, hz1, hz2⟩ := info_parts (show (Try.prog.info? 29).map (fun i => (i.zero, i.size, i.bytes)) = some (some (.int .u64 0), 1, 8) by kernel_rfl)
  have h := run_makeSlice (P := Try.prog) (w := W) 22 29 i0 (.int .u64 0) Try.underlying22 hi hz0 .i64 .i64 (k : Int) (k : Int) (by omega) (by omega) (by rw [hz1]; omega) (by rw [hz2]; omega) (by omega)
  rw [hz1, Nat.mul_one] at h
  exact h
end Go.Proofs.Ytlffmcadchbheaa
/- A text's words (the program's). -/
namespace Go.Proofs.Ytlffmcadchbheaa
open Go.RowKit
set_option maxHeartbeats 4000000
set_option maxRecDepth 100000
theorem wrap64_of {x : Int} (h1 : -9223372036854775808 ≤ x) (h2 : x ≤ 9223372036854775807) : IntKind.i64.wrap x = x := by
  simp [IntKind.wrap, IntKind.bits, IntKind.signed]
  omega
theorem keepB {w w' : World} {a : Addr} {v : Value} (h : w.cell? a = some v) (hf : w.frozen? a = false) (e : Ext w w') : w'.cell? a = some v ∧ w'.frozen? a = false ∧ Ext w w' := ⟨e.cell h, (e.frozen h).trans hf, e⟩
theorem wrapu_of {x : Int} (h1 : 0 ≤ x) (h2 : x < 18446744073709551616) : IntKind.u64.wrap x = x := by
  simp [IntKind.wrap, IntKind.bits, IntKind.signed]
  omega
theorem shl_run {P : Program} {b : Nat} (hb : b < 256) : ∀ (r : Nat) (_ : r < 8) (W : World), (Op.shift .shl .u64 (IntKind.u64.wrap (b : Int)) .i64 (IntKind.i64.wrap (8 * (r : Int)))).run P W = .ok (.int .u64 ((b * 256 ^ r : Nat) : Int)) W := by
  intro r hr W
  have e1 : IntKind.u64.wrap (b : Int) = b := by simp [IntKind.wrap, IntKind.bits, IntKind.signed]; omega
  rw [e1, wrap64_of (by omega) (by omega)]
  rcases (show r = 0 ∨ r = 1 ∨ r = 2 ∨ r = 3 ∨ r = 4 ∨ r = 5 ∨ r = 6 ∨ r = 7 by omega) with rfl | rfl | rfl | rfl | rfl | rfl | rfl | rfl <;> simp [go_sem] <;> exact wrapu_of (by omega) (by omega)
theorem or_shl {b r a : Nat} (hb : b < 256) (hr : r < 8) (ha : a < 256 ^ r) : bits .or .u64 (a : Int) ((b * 256 ^ r : Nat) : Int) = (a : Int) + ((b * 256 ^ r : Nat) : Int) := by
  rcases (show r = 0 ∨ r = 1 ∨ r = 2 ∨ r = 3 ∨ r = 4 ∨ r = 5 ∨ r = 6 ∨ r = 7 by omega) with rfl | rfl | rfl | rfl | rfl | rfl | rfl | rfl
  · rw [or_apart 0 a _ (by omega) (by omega) (by omega) (by omega)]; omega
  · rw [or_apart 8 a _ (by omega) (by omega) (by omega) (by omega)]; omega
  · rw [or_apart 16 a _ (by omega) (by omega) (by omega) (by omega)]; omega
  · rw [or_apart 24 a _ (by omega) (by omega) (by omega) (by omega)]; omega
  · rw [or_apart 32 a _ (by omega) (by omega) (by omega) (by omega)]; omega
  · rw [or_apart 40 a _ (by omega) (by omega) (by omega) (by omega)]; omega
  · rw [or_apart 48 a _ (by omega) (by omega) (by omega) (by omega)]; omega
  · rw [or_apart 56 a _ (by omega) (by omega) (by omega) (by omega)]; omega
theorem pieces_is (s : ByteArray) (w : World) (hs : s.size ≤ 400) : Calls Try.prog 67 #[.string s] w fun e w' => ∃ v, e = .returned v ∧ OwnP w' w.heap.size 29 v 1 ((pieces s.data.toList).map wordC) ∧ Ext w w' := by
  obtain ⟨m, hm⟩ : ∃ m : Nat, m = (s.size + 7) / 8 := ⟨_, rfl⟩
  have HM := Lib.hid hm
  have hm4 : m ≤ 50 := by omega
  have hms : ∀ W, (Instr.makeSlice 22 (.int .i64 (((s.size : Int) + 7) / 8)) (.int .i64 (((s.size : Int) + 7) / 8))).run Try.prog W = .ok (.slice (some ⟨W.heap.size, 0, none⟩) m m) (W.alloc (.cells (madeCells #[.int .u64 0] m) 29)) := by
    intro W
    rw [show ((s.size : Int) + 7) / 8 = (m : Int) by omega]
    exact mk_u64s m (by omega) W
  have hms2 : ∀ W, (Instr.makeSlice 22 (.int .i64 (((s.size : Int) + 8 - 1) / 8)) (.int .i64 (((s.size : Int) + 8 - 1) / 8))).run Try.prog W = .ok (.slice (some ⟨W.heap.size, 0, none⟩) m m) (W.alloc (.cells (madeCells #[.int .u64 0] m) 29)) := by
    intro W
    rw [show ((s.size : Int) + 8 - 1) / 8 = (m : Int) by omega]
    exact mk_u64s m (by omega) W
  clear hm
  have hS : s.data.toList.length = s.size := Array.length_toList
  have HS := Lib.hid hS
  clear hS
  go_enter Try.func67, Try.ntmps67
  go_wp2_with fail
  have ho := made_own w 29 (.int .u64 0) m w.heap.size rfl (Nat.le_refl _) (by unfold maxLen; omega)
  have ho1 : OwnP (w.alloc (.cells (madeCells #[.int .u64 0] m) 29)) w.heap.size 29 (.slice (some ⟨w.heap.size, 0, none⟩) m m) 1 ((List.range m).map fun j => wordC (pieceN (s.data.toList.take 0) j)) := by
    rw [pieces_start m wordC]; exact ho
  have HO := Lib.hid ho1
  have X1 := Lib.hid (Ext.alloc w (.cells (madeCells #[.int .u64 0] m) 29))
  generalize w.alloc (.cells (madeCells #[.int .u64 0] m) 29) = w1 at *
  clear ho ho1
  go_wp2_with fail
  go_loopw [13] (fun i wr => ∃ k : Nat, k ≤ s.size ∧ i = .int .i64 k ∧ OwnP wr w.heap.size 29 (.slice (some ⟨w.heap.size, 0, none⟩) m m) 1 ((List.range m).map fun j => wordC (pieceN (s.data.toList.take k) j)) ∧ Ext w wr) (fun i _ => s.size - (intOf i).toNat)
  case atStart => exact ⟨0, by omega, rfl, HO.out, X1.out⟩
  case round =>
    obtain ⟨k, hk, rfl, hown, hx⟩ := hrel
    have HOW := Lib.hid hown; have HX := Lib.hid hx
    clear hx
    by_cases hlt : k < s.size
    · have i1 : (k : Int) < (s.size : Int) := by omega
      have hkl : k < s.data.toList.length := by rw [HS.out]; exact hlt
      have hxk := List.getElem?_eq_getElem hkl
      generalize hbx : s.data.toList[k] = x at hxk
      obtain ⟨j, hj⟩ : ∃ j : Nat, j = k / 8 := ⟨_, rfl⟩
      have HJ := Lib.hid hj
      have hjm : j < m := by have := HM.out; omega
      have hjk : (k : Int) / 8 = (j : Int) := by omega
      obtain ⟨r, hr⟩ : ∃ r : Nat, r = k % 8 := ⟨_, rfl⟩
      have HR := Lib.hid hr
      have hrk : (k : Int) % 8 = (r : Int) := by omega
      have hrk2 : (k : Int).tmod 8 = (r : Int) := by rw [Int.tmod_eq_emod_of_nonneg (by omega)]; omega
      have hr8 : r < 8 := by omega
      have hjm2 : (j : Int) < (m : Int) := by omega
      have hwj : IntKind.i64.wrap (j : Int) = (j : Int) := wrap64_of (by omega) (by omega)
      have hrow : ((List.range m).map fun j => wordC (pieceN (s.data.toList.take k) j))[j]? = some [.int .u64 (pieceN (s.data.toList.take k) j)] := by simp [hjm, wordC]
      obtain ⟨g', e, _, y0, f0⟩ := hown.cell hrow (f := 0) rfl
      obtain ⟨rfl, _⟩ := Addr.mk.inj (Option.some.inj e)
      have hP := pieceN_here hxk
      rw [← hj, ← hr] at hP
      have hor : bits .or .u64 (pieceN (s.data.toList.take k) j) ((x.toNat : Int) * 256 ^ r) = pieceN (s.data.toList.take k) j + ((x.toNat * 256 ^ r : Nat) : Int) := by
        obtain ⟨_, hp1, hp2⟩ := hP
        obtain ⟨a, ha⟩ := Int.eq_ofNat_of_zero_le hp1
        rw [ha] at hp2 ⊢
        have hp3 : a < 256 ^ r := by exact_mod_cast hp2
        rw [show ((x.toNat : Int) * 256 ^ r) = ((x.toNat * 256 ^ r : Nat) : Int) by push_cast; rfl]
        exact or_shl x.toNat_lt hr8 hp3
      have hst := hown.store (f := 0) hrow (by omega) (u := .int .u64 (pieceN (s.data.toList.take k) j + ((x.toNat * 256 ^ r : Nat) : Int))) rfl
      have hps := pieces_step (m := m) hxk wordC
      rw [← hj, ← hr] at hps
      have HST := Lib.hid (show OwnP (wr.setCell ⟨w.heap.size, j, none⟩ (.int .u64 (pieceN (s.data.toList.take k) j + ((x.toNat * 256 ^ r : Nat) : Int)))) w.heap.size 29 (.slice (some ⟨w.heap.size, 0, none⟩) m m) 1 ((List.range m).map fun j => wordC (pieceN (s.data.toList.take (k + 1)) j)) by rw [hps]; simpa [wordC] using hst)
      rw [← hor] at HST
      have HT := Lib.hid (show Ext w (wr.setCell ⟨w.heap.size, j, none⟩ (.int .u64 (bits .or .u64 (pieceN (s.data.toList.take k) j) ((x.toNat : Int) * 256 ^ r)))) from Below.setCell HX.out (Nat.le_refl _) _)
      clear hj hr hown hrow hor hst hps hP
      have hsk : (s[k]'hlt).toNat = x.toNat := by rw [← hbx]; rfl
      have hsh : ∀ W, (Op.shift .shl .u64 (IntKind.u64.wrap ((s[k]'hlt).toNat : Int)) .i64 (IntKind.i64.wrap (8 * (k : Int).tmod 8))).run Try.prog W = .ok (.int .u64 ((x.toNat * 256 ^ r : Nat) : Int)) W := fun W => by
        rw [hsk, hrk2]; exact shl_run x.toNat_lt r hr8 W
      have HK2 := Lib.hid hrk2
      clear hrk hrk2 hbx hsk
      go_upto_region 5 with fail
      rw [Nat.mul_one, Nat.add_zero] at y0 f0
      refine wp_region_noPanic ?_
      refine wp_region_last 15 (S := (fun w' => w'.cell? ⟨w.heap.size, j, none⟩ = some (.int .u64 (pieceN (s.data.toList.take k) j)) ∧ w'.frozen? ⟨w.heap.size, j, none⟩ = false ∧ Ext wr w')) (by kernel_rfl) (by kernel_rfl) _ rfl ?_ (fun hHeld => ?_)
      · (refine keepB y0 f0 ?_; first | exact Ext.drew _)
      simp only [List.take_succ_cons, List.take_zero]
      refine wpAnyH_take (i := 0) (v := ?v1) rfl (by kernel_rfl) (by kernel_rfl) (by kernel_rfl) (fun _ _ _ h => h) (Or.inl ⟨by rfl, ?y1⟩) (by assumption) ?r1
      case y1 => intro w hSw; (try dsimp only at hSw); go_simp; (try with_reducible rfl)
      (try simp only [Act.put, List.setIfInBounds_toArray, List.set_cons_zero, List.set_cons_succ, List.getElem_toArray, List.getElem_cons_zero, List.getElem_cons_succ])
      refine wpAnyH_take (i := 1) (v := ?v2) rfl (by kernel_rfl) (by kernel_rfl) (by kernel_rfl) (fun _ _ _ h => h) (Or.inl ⟨by rfl, ?y2⟩) (by assumption) ?r2
      case y2 => intro w hSw; (try dsimp only at hSw); go_simp; (try with_reducible rfl)
      (try simp only [Act.put, List.setIfInBounds_toArray, List.set_cons_zero, List.set_cons_succ, List.getElem_toArray, List.getElem_cons_zero, List.getElem_cons_succ])
      refine wpAnyH_take (i := 2) (v := ?v3) rfl (by kernel_rfl) (by kernel_rfl) (by kernel_rfl) (fun _ _ _ h => h) (Or.inl ⟨by rfl, ?y3⟩) (by assumption) ?r3
      case y3 => intro w hSw; (try dsimp only at hSw); go_simp; (try with_reducible rfl)
      (try simp only [Act.put, List.setIfInBounds_toArray, List.set_cons_zero, List.set_cons_succ, List.getElem_toArray, List.getElem_cons_zero, List.getElem_cons_succ])
      refine wpAnyH_take (i := 3) (v := ?v4) rfl (by kernel_rfl) (by kernel_rfl) (by kernel_rfl) (fun _ _ _ h => h) (Or.inl ⟨by rfl, ?y4⟩) (by assumption) ?r4
      case y4 => intro w hSw; (try dsimp only at hSw); go_simp; (try with_reducible rfl)
      (try simp only [Act.put, List.setIfInBounds_toArray, List.set_cons_zero, List.set_cons_succ, List.getElem_toArray, List.getElem_cons_zero, List.getElem_cons_succ])
      refine wpAnyH_take (i := 4) (v := ?v5) rfl (by kernel_rfl) (by kernel_rfl) (by kernel_rfl) (fun _ _ _ h => h) (Or.inl ⟨by rfl, ?y5⟩) (by assumption) ?r5
      case y5 => intro w hSw; (try dsimp only at hSw); go_simp; (try with_reducible rfl)
      (try simp only [Act.put, List.setIfInBounds_toArray, List.set_cons_zero, List.set_cons_succ, List.getElem_toArray, List.getElem_cons_zero, List.getElem_cons_succ])
      refine wpAnyH_take (i := 5) (v := ?v6) rfl (by kernel_rfl) (by kernel_rfl) (by kernel_rfl) (fun _ _ _ h => h) (Or.inl ⟨by rfl, ?y6⟩) (by assumption) ?r6
      case y6 => intro w hSw; (try dsimp only at hSw); go_simp; (try with_reducible rfl)
      (try simp only [Act.put, List.setIfInBounds_toArray, List.set_cons_zero, List.set_cons_succ, List.getElem_toArray, List.getElem_cons_zero, List.getElem_cons_succ])
      refine wpAnyH_take (i := 6) (v := ?v7) rfl (by kernel_rfl) (by kernel_rfl) (by kernel_rfl) (fun _ _ _ h => h) (Or.inl ⟨by rfl, ?y7⟩) (by assumption) ?r7
      case y7 => intro w hSw; (try dsimp only at hSw); go_simp; (try with_reducible rfl)
      (try simp only [Act.put, List.setIfInBounds_toArray, List.set_cons_zero, List.set_cons_succ, List.getElem_toArray, List.getElem_cons_zero, List.getElem_cons_succ])
      refine wpAnyH_take (i := 7) (v := ?v8) rfl (by kernel_rfl) (by kernel_rfl) (by kernel_rfl) (fun _ _ _ h => h) (Or.inl ⟨by rfl, ?y8⟩) (by assumption) ?r8
      case y8 => intro w hSw; (try dsimp only at hSw); go_simp; (try with_reducible rfl)
      (try simp only [Act.put, List.setIfInBounds_toArray, List.set_cons_zero, List.set_cons_succ, List.getElem_toArray, List.getElem_cons_zero, List.getElem_cons_succ])
      refine wpAnyH_take (i := 8) (v := ?v9) rfl (by kernel_rfl) (by kernel_rfl) (by kernel_rfl) (fun _ _ _ h => h) (Or.inl ⟨by rfl, ?y9⟩) (by assumption) ?r9
      case y9 => intro w hSw; (try dsimp only at hSw); go_simp; (try with_reducible rfl)
      (try simp only [Act.put, List.setIfInBounds_toArray, List.set_cons_zero, List.set_cons_succ, List.getElem_toArray, List.getElem_cons_zero, List.getElem_cons_succ])
      refine wpAnyH_take (i := 9) (v := ?v10) rfl (by kernel_rfl) (by kernel_rfl) (by kernel_rfl) (fun _ _ _ h => h) (Or.inl ⟨by rfl, ?y10⟩) (by assumption) ?r10
      case y10 => intro w hSw; (try dsimp only at hSw); go_simp; (try with_reducible rfl)
      (try simp only [Act.put, List.setIfInBounds_toArray, List.set_cons_zero, List.set_cons_succ, List.getElem_toArray, List.getElem_cons_zero, List.getElem_cons_succ])
      refine wpAnyH_take (i := 10) (v := ?v11) rfl (by kernel_rfl) (by kernel_rfl) (by kernel_rfl) (fun _ _ _ h => h) (Or.inl ⟨by rfl, ?y11⟩) (by assumption) ?r11
      case y11 => intro w hSw; (try dsimp only at hSw); go_simp; (try with_reducible rfl)
      (try simp only [Act.put, List.setIfInBounds_toArray, List.set_cons_zero, List.set_cons_succ, List.getElem_toArray, List.getElem_cons_zero, List.getElem_cons_succ])
      refine wpAnyH_take (i := 11) (v := ?v12) rfl (by kernel_rfl) (by kernel_rfl) (by kernel_rfl) (fun _ _ _ h => h) (Or.inl ⟨by rfl, ?y12⟩) (by assumption) ?r12
      case y12 => intro w hSw; (try dsimp only at hSw); go_simp; (try with_reducible rfl)
      (try simp only [Act.put, List.setIfInBounds_toArray, List.set_cons_zero, List.set_cons_succ, List.getElem_toArray, List.getElem_cons_zero, List.getElem_cons_succ])
      refine wpAnyH_take (i := 12) (v := ?v13) rfl (by kernel_rfl) (by kernel_rfl) (by kernel_rfl) (fun _ _ _ h => h) (Or.inl ⟨by rfl, ?y13⟩) (by assumption) ?r13
      case y13 => intro w hSw; (try dsimp only at hSw); go_simp; (try with_reducible rfl)
      (try simp only [Act.put, List.setIfInBounds_toArray, List.set_cons_zero, List.set_cons_succ, List.getElem_toArray, List.getElem_cons_zero, List.getElem_cons_succ])
      refine wpAnyH_take (i := 13) (v := ?v14) rfl (by kernel_rfl) (by kernel_rfl) (by kernel_rfl) (fun _ _ _ h => h) (Or.inl ⟨by rfl, ?y14⟩) (by assumption) ?r14
      case y14 => intro w hSw; (try dsimp only at hSw); go_simp; (try with_reducible rfl)
      (try simp only [Act.put, List.setIfInBounds_toArray, List.set_cons_zero, List.set_cons_succ, List.getElem_toArray, List.getElem_cons_zero, List.getElem_cons_succ])
      refine wpAnyH_take (i := 14) (v := ?v15) rfl (by kernel_rfl) (by kernel_rfl) (by kernel_rfl) (fun _ _ _ h => h) (Or.inl ⟨by rfl, ?y15⟩) (by assumption) ?r15
      case y15 => intro w hSw; (try dsimp only at hSw); go_simp; (try with_reducible rfl)
      (try simp only [Act.put, List.setIfInBounds_toArray, List.set_cons_zero, List.set_cons_succ, List.getElem_toArray, List.getElem_cons_zero, List.getElem_cons_succ])
      refine wpAnyH_done (by kernel_rfl) ?_ _
      show wpList _ _ _ _ _ _
      go_wp2
      refine NoPanic.normal ?_
      go_wp2
      exact ⟨⟨k + 1, by omega, by go_num, HST.out.ext (Ext.drew _), HT.out.trans (Ext.drew _)⟩, by simp [intOf]; omega⟩
    · obtain rfl : k = s.size := by omega
      have hfin : (List.range m).map (fun j => wordC (pieceN (s.data.toList.take s.size) j)) = (pieces s.data.toList).map wordC := by
        rw [← HS.out, List.take_length]
        unfold pieces
        rw [List.map_map, HS.out, ← HM.out]
        rfl
      rw [hfin] at HOW
      clear hown hfin
      go_wp2_with fail
      go_ret
      exact ⟨_, rfl, HOW.out, HX.out⟩
end Go.Proofs.Ytlffmcadchbheaa
/- An object's words laid out (the reference's). -/
namespace Go.Proofs.Ytlffmcadchbheaa
open Go.RowKit
set_option maxHeartbeats 4000000
set_option maxRecDepth 100000
theorem range_succ_map (m : Nat) (f : Nat → List Value) : (List.range (m + 1)).map f = (List.range m).map f ++ [f m] := by rw [List.range_succ, List.map_append]; rfl
theorem lay_row (kd tg : Int) (n c : Nat) (q : Option Addr) (F : List Int) (w : World) (hF : RowsP w (.slice q n c) 1 (F.map wordC)) (h : mayK kd tg n 0 = true) (_h2 : kd ≠ 2) : Calls Try.prog 55 #[.agg #[.int .i64 kd, .int .i64 tg, .slice q n c, .string ByteArray.empty]] w fun e w' => ∃ v, e = .returned v ∧ OwnP w' w.heap.size 29 v 1 ((headK kd tg n 0 :: F).map wordC) ∧ Ext w w' := by
  have hF0 := hF
  have hb := mayK_bounds h
  have hz : ByteArray.empty.size = 0 := rfl
  have hhd := fun W => refhead_is kd tg n c q ByteArray.empty W (by rw [hz]; exact h)
  rw [hz] at hhd
  generalize headK kd tg n 0 = hd at hhd ⊢
  have HH := Lib.hid hhd
  clear hhd hz
  obtain ⟨q', c', hv, hl1, hl2, hl3⟩ := RowsP.at hF0
  obtain ⟨rfl, hn, rfl⟩ := Value.slice.inj hv
  rw [List.length_map] at hn
  clear hl1 hl2 hl3
  subst hn
  have HF := Lib.hid hF
  have hn4 : F.length ≤ 400 := hb.2.2.2.2.1
  clear hF hF0 hv h hb _h2
  go_enter Try.func55, Try.ntmps55
  go_wp2_with fail
  refine at_alloc1 fun W hE hS b0 => ?_
  refine (HH.out _).mono ?_
  rintro e w1 ⟨rfl, hx⟩
  have hb1 := (Below.block hx w.heap.size (by omega)).trans b0
  have HX := Lib.hid (hE.trans hx)
  clear hx hE hS b0
  obtain ⟨x0, x1, x2, x3⟩ := cells4 hb1
  have hs2 : w.heap.size < w1.heap.size := (Array.getElem?_eq_some_iff.1 hb1).1
  clear hb1
  have hs1 : w.heap.size ≤ w1.heap.size := HX.out.size
  have HO1 := Lib.hid (show OwnP (w1.alloc (.cells #[.int .u64 (hd)] 29)) w.heap.size 29 (.slice (some ⟨w1.heap.size, 0, none⟩) 1 1) 1 [wordC hd] from OwnP.of_form (Rows1.one rfl (by intro u hu; simp [wordC] at hu; subst hu; rfl)) hs1 (heap_alloc_new _ _) (by simp) (by unfold maxLen; omega) (by simp) (by simp [wordC]))
  go_wp2_with (refine wpList_append_rows E64 (by rfl) _ _ (by rfl) w.heap.size (.slice (some ⟨w1.heap.size, 0, none⟩) 1 1) (.slice q F.length c) [wordC hd] (F.map wordC) (by rfl) HO1.out (by rfl) (RowsP.ext HF.out (HX.out.trans (Ext.alloc _ _))) (by simp; unfold maxLen; omega) (by simp; omega) (by simp; omega) ?_)
  intro v2 w2 ho2 hg2 hb2 _
  have hx2 : Ext w w2 := Below.grown (HX.out.trans (Ext.alloc _ _)) hg2 (by simp; omega) (fun b hb => by simp [Value.ownBlock] at hb; omega)
  have z3 := hg2.cell (a := ⟨w.heap.size, 3, none⟩) ((Ext.alloc w1 _).cell x3) (by simp [Value.ownBlock]; omega)
  obtain ⟨q2, c2, rfl, _⟩ := ho2.len
  have HO2 := Lib.hid ho2; have HX2 := Lib.hid hx2
  clear ho2 hg2 hb2 hx2 x0 x1 x2 x3
  go_wp2_with fail
  refine wp_loop_rounds 1 ?_
  rw [rounds_succ]
  go_wp2
  go_ret
  exact ⟨_, rfl, HO2.out, HX2.out⟩
end Go.Proofs.Ytlffmcadchbheaa
