/- How many words a message takes: the reference's. -/
import Derived.Test.YtalfmlhiooaigaaBoxD
import Derived.RegionTactic
namespace Go.Proofs.Ytalfmlhiooaigaa
open Go.RowKit
set_option maxHeartbeats 4000000
set_option maxRecDepth 100000
theorem refmay_str (s : ByteArray) (w : World) (hs : s.size ≤ 400) : Calls Try.prog 24 #[.agg #[.int .i64 2, .int .i64 0, .slice none 0 0, .string s]] w fun e w' => e = .returned (.bool true) ∧ Ext w w' := by
  go_enter Try.func24, Try.ntmps24
  go_wp2
  go_ret
  exact ⟨by simp; omega, Ext.alloc _ _⟩
theorem refmay_row (t : Int) (q : Option Addr) (w : World) (ht : 0 ≤ t) (ht2 : t ≤ 255) (k : Nat) (hk : 1 ≤ k) (hk2 : k ≤ 8) : Calls Try.prog 24 #[.agg #[.int .i64 1, .int .i64 t, .slice q k k, .string ByteArray.empty]] w fun e w' => e = .returned (.bool true) ∧ Ext w w' := by
  go_enter Try.func24, Try.ntmps24
  go_wp2
  go_ret
  exact ⟨by simp, Ext.alloc _ _⟩
theorem refwords_str (s : ByteArray) (w : World) (hs : s.size ≤ 400) : Calls Try.prog 20 #[.agg #[.int .i64 2, .int .i64 0, .slice none 0 0, .string s]] w fun e w' => e = .returned (.int .i64 (((1 + (s.size + 7) / 8 : Nat) : Nat) : Int)) ∧ Ext w w' := by
  have hm := fun W => refmay_str s W hs
  have HM := Lib.hid hm
  clear hm
  go_enter Try.func20, Try.ntmps20
  go_wp2_with fail
  refine at_alloc1 fun W hE hS b0 => ?_
  refine (HM.out _).mono ?_
  rintro e w1 ⟨rfl, hx⟩
  have hb1 := (Below.block hx w.heap.size (by omega)).trans b0
  have HX := Lib.hid (hE.trans hx)
  clear hx hE hS b0
  obtain ⟨x0, x1, x2, x3⟩ := cells4 hb1
  clear hb1
  go_wp2
  go_ret
  refine ⟨?_, HX.out⟩
  show Ending.returned (.int .i64 (1 + ((s.size : Int) + 7) / 8)) = _
  congr 2
theorem refwords_row (t : Int) (q : Option Addr) (w : World) (ht : 0 ≤ t) (ht2 : t ≤ 255) (k : Nat) (hk : 1 ≤ k) (hk2 : k ≤ 8) : Calls Try.prog 20 #[.agg #[.int .i64 1, .int .i64 t, .slice q k k, .string ByteArray.empty]] w fun e w' => e = .returned (.int .i64 (((1 + k : Nat) : Nat) : Int)) ∧ Ext w w' := by
  have hm := fun W => refmay_row t q W ht ht2 k hk hk2
  have HM := Lib.hid hm
  clear hm
  go_enter Try.func20, Try.ntmps20
  go_wp2_with fail
  refine at_alloc1 fun W hE hS b0 => ?_
  refine (HM.out _).mono ?_
  rintro e w1 ⟨rfl, hx⟩
  have hb1 := (Below.block hx w.heap.size (by omega)).trans b0
  have HX := Lib.hid (hE.trans hx)
  clear hx hE hS b0
  obtain ⟨x0, x1, x2, x3⟩ := cells4 hb1
  clear hb1
  go_wp2
  go_ret
  refine ⟨?_, HX.out⟩
  show Ending.returned (.int .i64 (1 + (k : Int))) = _
  congr 2
theorem refobj_str (t n : Int) (s : ByteArray) (w : World) : Calls Try.prog 21 #[.agg #[.int .i64 2, .int .i64 t, .int .i64 n, .string s]] w fun e w' => e = .returned (.agg #[.int .i64 2, .int .i64 0, .slice none 0 0, .string s]) ∧ Ext w w' := by
  go_enter Try.func21, Try.ntmps21
  go_wp2
  have hc := cells4 (show ((w.alloc (.cells #[.int .i64 2, .int .i64 t, .int .i64 n, .string s] 41)).alloc (.cells #[.int .i64 2, .int .i64 0, .slice none 0 0, .string s] 53)).heap[w.heap.size + 1]? = _ from new_block (by simp))
  refine bodyPost_ret (v := .agg #[.int .i64 2, .int .i64 0, .slice none 0 0, .string s]) (by simp [results, Try.results21, go_sem, hc]) rfl ?_
  exact ⟨rfl, (Ext.alloc _ _).trans (Ext.alloc _ _)⟩
theorem mk_u64s (k : Nat) (hk : k ≤ 1000000) (W : World) : (Instr.makeSlice 51 (.int .i64 k) (.int .i64 k)).run Try.prog W = .ok (.slice (some ⟨W.heap.size, 0, none⟩) k k) (W.alloc (.cells (madeCells #[.int .u64 0] k) 82)) := by
  obtain ⟨i0, hi, hz0, hz1, hz2⟩ := info_parts (show (Try.prog.info? 82).map (fun i => (i.zero, i.size, i.bytes)) = some (some (.int .u64 0), 1, 8) by kernel_rfl)
  have h := run_makeSlice (P := Try.prog) (w := W) 51 82 i0 (.int .u64 0) Try.underlying51 hi hz0 .i64 .i64 (k : Int) (k : Int) (by omega) (by omega) (by rw [hz1]; omega) (by rw [hz2]; omega) (by omega)
  rw [hz1, Nat.mul_one] at h
  exact h
theorem refobj_row (t : Int) (k : Nat) (w : World) (hk : 1 ≤ k) (hk2 : k ≤ 8) : Calls Try.prog 21 #[.agg #[.int .i64 1, .int .i64 t, .int .i64 k, .string ByteArray.empty]] w fun e w' => ∃ q, e = .returned (.agg #[.int .i64 1, .int .i64 t, .slice q k k, .string ByteArray.empty]) ∧ Ext w w' := by
  go_enter Try.func21, Try.ntmps21
  have hms := mk_u64s k (by omega)
  go_wp2_with fail
  go_region
  go_wp2
  have hc := cells4 (show (((w.alloc (.cells #[.int .i64 1, .int .i64 t, .int .i64 k, .string ByteArray.empty] 41)).alloc (.cells #[.int .i64 1, .int .i64 t, .slice (some ⟨w.heap.size + 1 + 1, 0, none⟩) k k, .string ByteArray.empty] 53)).alloc (.cells (madeCells #[.int .u64 0] k) 82)).drew.heap[w.heap.size + 1]? = some (.cells #[.int .i64 1, .int .i64 t, .slice (some ⟨w.heap.size + 1 + 1, 0, none⟩) k k, .string ByteArray.empty] 53 (0, 0)) from (Below.block (Ext.trans (Ext.alloc _ _) (Ext.drew _)) _ (by simp)).trans (new_block (by simp)))
  refine bodyPost_ret (v := .agg #[.int .i64 1, .int .i64 t, .slice (some ⟨w.heap.size + 1 + 1, 0, none⟩) k k, .string ByteArray.empty]) (by simp [results, Try.results21, go_sem, hc]; rfl) rfl ?_
  exact ⟨_, rfl, (((Ext.alloc _ _).trans (Ext.alloc _ _)).trans (Ext.alloc _ _)).trans (Ext.drew _)⟩
end Go.Proofs.Ytalfmlhiooaigaa
