/- The walks of what code.Good asks of the one program of wakes. -/
import Derived.Test.YtfmedddjmcplnaaDoorFrmB
namespace Go.Proofs.YtfmedddjmcplnaaDoor
open Go.RowKit
set_option maxHeartbeats 4000000
set_option maxRecDepth 100000
theorem between_is (v a b : Int) (w : World) : Calls Tryd.prog 31 #[.int .i64 v, .int .i64 a, .int .i64 b] w fun e w' => e = .returned (.bool (decide (a ≤ v) && decide (v ≤ b))) ∧ w = w' := by
  by_cases h : a ≤ v
  · have h1 : decide (a ≤ v) = true := decide_eq_true h
    go_enter Tryd.func31, Tryd.ntmps31
    go_wp2
    go_ret
    exact ⟨by rw [h1]; rfl, rfl⟩
  · have h1 : decide (a ≤ v) = false := decide_eq_false h
    go_enter Tryd.func31, Tryd.ntmps31
    go_wp2
    go_ret
    exact ⟨rfl, rfl⟩
theorem in_is (v a b : Int) (w : World) (ha : a ≤ v) (hb : v ≤ b) : Calls Tryd.prog 44 #[.agg #[.int .i64 a, .int .i64 b], .int .i64 v] w fun e w' => e = .returned (.bool true) ∧ Ext w w' := by
  go_enter Tryd.func44, Tryd.ntmps44
  go_wp2
  go_ret
  exact ⟨rfl, Ext.alloc _ _⟩
theorem good_int (w : World) (hk : FrmLie w) : Calls Tryd.prog 38 #[.agg #[.int .i64 0, .int .i64 1, .int .i64 0]] w (TrueExt w) := by
  have r0 := hk.1 0 _ rfl; have r1 := hk.1 1 _ rfl; have r2 := hk.1 2 _ rfl; have r3 := hk.1 3 _ rfl; have r4 := hk.1 4 _ rfl; have r5 := hk.1 5 _ rfl; have r6 := hk.1 6 _ rfl
  simp only [Nat.zero_mul, Nat.zero_add, Nat.reduceMul, Nat.reduceAdd] at r0 r1 r2 r3 r4 r5 r6
  have e := Ext.alloc w (.cells #[.int .i64 0, .int .i64 1, .int .i64 0] 53)
  replace r0 := e.cell r0; replace r1 := e.cell r1; replace r2 := e.cell r2; replace r3 := e.cell r3; replace r4 := e.cell r4; replace r5 := e.cell r5; replace r6 := e.cell r6
  go_enter Tryd.func38, Tryd.ntmps38
  go_wp2_with fail
  have bi := heap_alloc_new w (.cells #[.int .i64 0, .int .i64 1, .int .i64 0] 53)
  have br := heap_alloc_new (w.alloc (.cells #[.int .i64 0, .int .i64 1, .int .i64 0] 53)) (.cells #[.string ⟨#[105, 110, 116]⟩, .int .i64 (-4611686018427387904), .int .i64 4611686018427387903, .int .i64 0, .int .i64 0, .int .i64 0, .int .i64 1] 96)
  have e2 := Ext.alloc (w.alloc (.cells #[.int .i64 0, .int .i64 1, .int .i64 0] 53)) (.cells #[.string ⟨#[105, 110, 116]⟩, .int .i64 (-4611686018427387904), .int .i64 4611686018427387903, .int .i64 0, .int .i64 0, .int .i64 0, .int .i64 1] 96)
  rw [show (w.alloc (.cells #[.int .i64 0, .int .i64 1, .int .i64 0] 53)).heap.size = w.heap.size + 1 by simp] at br
  generalize (w.alloc (.cells #[.int .i64 0, .int .i64 1, .int .i64 0] 53)).alloc (.cells #[.string ⟨#[105, 110, 116]⟩, .int .i64 (-4611686018427387904), .int .i64 4611686018427387903, .int .i64 0, .int .i64 0, .int .i64 0, .int .i64 1] 96) = W at *
  have i2 : W.cell? ⟨w.heap.size, 2, none⟩ = some (.int .i64 0) := e2.cell (by simp only [World.cell?, bi]; rfl)
  have c3 : W.cell? ⟨w.heap.size + 1, 3, none⟩ = some (.int .i64 0) := by simp [World.cell?, br]
  have c4 : W.cell? ⟨w.heap.size + 1, 4, none⟩ = some (.int .i64 0) := by simp [World.cell?, br]
  refine (in_is _ _ _ _ (by decide) (by decide)).mono ?_; rintro e' w1 ⟨rfl, hx1⟩
  replace i2 := hx1.cell i2; replace c3 := hx1.cell c3; replace c4 := hx1.cell c4
  have HX := Lib.hid (e.trans (e2.trans hx1))
  clear bi br e2 hx1 e r0 r1 r2 r3 r4 r5 r6
  go_wp2_with fail
  refine (in_is _ _ _ _ (by decide) (by decide)).mono ?_; rintro e' w2 ⟨rfl, hx2⟩
  go_wp2
  go_ret
  exact ⟨rfl, HX.out.trans hx2⟩
theorem good_ret (w : World) (hk : FrmLie w) : Calls Tryd.prog 38 #[.agg #[.int .i64 9, .int .i64 0, .int .i64 0]] w (TrueExt w) := by
  have r0 := hk.2.1 0 _ rfl; have r1 := hk.2.1 1 _ rfl; have r2 := hk.2.1 2 _ rfl; have r3 := hk.2.1 3 _ rfl; have r4 := hk.2.1 4 _ rfl; have r5 := hk.2.1 5 _ rfl; have r6 := hk.2.1 6 _ rfl
  simp only [Nat.zero_mul, Nat.zero_add, Nat.reduceMul, Nat.reduceAdd] at r0 r1 r2 r3 r4 r5 r6
  have e := Ext.alloc w (.cells #[.int .i64 9, .int .i64 0, .int .i64 0] 53)
  replace r0 := e.cell r0; replace r1 := e.cell r1; replace r2 := e.cell r2; replace r3 := e.cell r3; replace r4 := e.cell r4; replace r5 := e.cell r5; replace r6 := e.cell r6
  go_enter Tryd.func38, Tryd.ntmps38
  go_wp2_with fail
  have bi := heap_alloc_new w (.cells #[.int .i64 9, .int .i64 0, .int .i64 0] 53)
  have br := heap_alloc_new (w.alloc (.cells #[.int .i64 9, .int .i64 0, .int .i64 0] 53)) (.cells #[.string ⟨#[114, 101, 116]⟩, .int .i64 (0), .int .i64 0, .int .i64 0, .int .i64 0, .int .i64 1, .int .i64 0] 96)
  have e2 := Ext.alloc (w.alloc (.cells #[.int .i64 9, .int .i64 0, .int .i64 0] 53)) (.cells #[.string ⟨#[114, 101, 116]⟩, .int .i64 (0), .int .i64 0, .int .i64 0, .int .i64 0, .int .i64 1, .int .i64 0] 96)
  rw [show (w.alloc (.cells #[.int .i64 9, .int .i64 0, .int .i64 0] 53)).heap.size = w.heap.size + 1 by simp] at br
  generalize (w.alloc (.cells #[.int .i64 9, .int .i64 0, .int .i64 0] 53)).alloc (.cells #[.string ⟨#[114, 101, 116]⟩, .int .i64 (0), .int .i64 0, .int .i64 0, .int .i64 0, .int .i64 1, .int .i64 0] 96) = W at *
  have i2 : W.cell? ⟨w.heap.size, 2, none⟩ = some (.int .i64 0) := e2.cell (by simp only [World.cell?, bi]; rfl)
  have c3 : W.cell? ⟨w.heap.size + 1, 3, none⟩ = some (.int .i64 0) := by simp [World.cell?, br]
  have c4 : W.cell? ⟨w.heap.size + 1, 4, none⟩ = some (.int .i64 0) := by simp [World.cell?, br]
  refine (in_is _ _ _ _ (by decide) (by decide)).mono ?_; rintro e' w1 ⟨rfl, hx1⟩
  replace i2 := hx1.cell i2; replace c3 := hx1.cell c3; replace c4 := hx1.cell c4
  have HX := Lib.hid (e.trans (e2.trans hx1))
  clear bi br e2 hx1 e r0 r1 r2 r3 r4 r5 r6
  go_wp2_with fail
  refine (in_is _ _ _ _ (by decide) (by decide)).mono ?_; rintro e' w2 ⟨rfl, hx2⟩
  go_wp2
  go_ret
  exact ⟨rfl, HX.out.trans hx2⟩
end Go.Proofs.YtfmedddjmcplnaaDoor
