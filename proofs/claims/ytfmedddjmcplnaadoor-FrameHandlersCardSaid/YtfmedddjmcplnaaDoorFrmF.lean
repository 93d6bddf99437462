/- frame.Start at wakes' program. -/
import Derived.Test.YtfmedddjmcplnaaDoorFrmE
import Derived.Test.YtfmedddjmcplnaaDoorBlk
namespace Go.Proofs.YtfmedddjmcplnaaDoor
open Go.RowKit
set_option maxHeartbeats 4000000
set_option maxRecDepth 100000
theorem start_is {w : World} {p : Nat} (hk : FrmLie w) (hp : OneFunc w p) (a b c d : Int) : Calls Tryd.prog 17 #[.agg #[.int .i64 a, .int .i64 b, .int .i64 c, .int .i64 d], .agg #[.slice (some ⟨p, 0, none⟩) 1 1, .slice none 0 0, .slice none 0 0]] w fun e w' => ∃ fb, e = .returned (.agg #[.int .i64 a, .int .i64 b, .int .i64 c, .int .i64 d, .slice none 0 0, .slice (some ⟨fb, 0, none⟩) 1 1, .slice none 0 0, .int .i64 0, .int .u64 1, .int .i64 0]) ∧ Ext w w' ∧ w.heap.size ≤ fb ∧ w'.heap[fb]? = some (.cells #[.int .i64 0, .int .i64 0, .int .i64 0, .int .u64 1] 27 (0, 0)) := by
  have HK := Lib.hid hk
  have HP := Lib.hid hp
  have n0 := hk.2.2
  have hgn : 1 < w.heap.size := by
    rcases Nat.lt_or_ge 1 w.heap.size with h | h
    · exact h
    · simp [World.cell?, Array.getElem?_eq_none h] at n0
  have n0w := Lib.hid n0
  clear hk hp
  have e1 := Ext.alloc w (.cells #[.int .i64 a, .int .i64 b, .int .i64 c, .int .i64 d] 30)
  have e2 := Ext.alloc (w.alloc (.cells #[.int .i64 a, .int .i64 b, .int .i64 c, .int .i64 d] 30)) (.cells #[.slice (some ⟨p, 0, none⟩) 1 1, .slice none 0 0, .slice none 0 0] 50)
  replace n0 := e2.cell (e1.cell n0)
  clear e1 e2
  go_enter Tryd.func17, Tryd.ntmps17
  go_wp2_with fail
  refine at_alloc4 fun W hE hS b0 b1 b2 b3 => ?_
  refine (good_is (HK.out.ext hE) (HP.out.ext hE)).mono ?_; rintro e w5 ⟨rfl, hx5⟩
  clear n0
  have n5 := hx5.cell (hE.cell n0w.out)
  have r3 := (Below.block hx5 (w.heap.size + 1 + 1 + 1) (by omega)).trans b3
  have r2 := (Below.block hx5 (w.heap.size + 1 + 1) (by omega)).trans b2
  have r1 := (Below.block hx5 (w.heap.size + 1) (by omega)).trans b1
  have HX5 := Lib.hid (hE.trans hx5)
  have h5 := hx5.size
  rw [hS] at h5
  have l1 : w5.cell? ⟨w.heap.size + 1, 0, none⟩ = some (.slice (some ⟨p, 0, none⟩) 1 1) := cell_at r1 rfl
  obtain ⟨bb, _, p0, _, _⟩ := HP.out.ext HX5.out
  have hpn : p < w.heap.size := by
    obtain ⟨_, _, p0, _, _⟩ := HP.out
    rcases Nat.lt_or_ge p w.heap.size with h | h
    · exact h
    · simp [World.cell?, Array.getElem?_eq_none h] at p0
  obtain ⟨m0, m1, m2, m3, m4, m5, m6, m7, m8, m9⟩ := cells10 r3
  have mf : ∀ i, w5.frozen? ⟨w.heap.size + 1 + 1 + 1, i, none⟩ = false := fun i => free_at r3
  have rf : ∀ i, w5.frozen? ⟨w.heap.size + 1 + 1, i, none⟩ = false := fun i => free_at r2
  obtain ⟨z0, z1, z2, z3, z4, z5, z6, z7, z8, z9⟩ := cells10 r2
  have q0 : w.heap.size < w5.heap.size := by omega
  have q1 : w.heap.size + 1 < w5.heap.size := by omega
  have q2 : w.heap.size + 1 + 1 < w5.heap.size := by omega
  have q3 : w.heap.size + 1 + 1 + 1 < w5.heap.size := by omega
  have q4 : p < w5.heap.size := by omega
  have q5 : 1 < w5.heap.size := by omega
  clear r1 r2 r3
  have hN := Lib.hid hS
  clear b0 b1 b2 b3 hx5 hE hS
  go_wp2_with fail
  go_loop [25] (fun i => i = .int .i64 0) (fun _ => 0)
  case atStart => rfl
  case round =>
    obtain rfl := hrel
    go_wp2_with fail
    refine bodyPost_ret (v := .agg #[.int .i64 a, .int .i64 b, .int .i64 c, .int .i64 d, .slice none 0 0, .slice (some ⟨w5.heap.size, 0, none⟩) 1 1, .slice none 0 0, .int .i64 0, .int .u64 1, .int .i64 0]) (by simp [results, Tryd.results17, go_sem, z0, z1, z2, z3, z4, z5, z6, z7, z8, z9, q2]) rfl ⟨w5.heap.size, rfl, ?_, by omega, ?_⟩
    · refine Below.alloc ?_ (by simp only [World.size_setCell]; omega) _
      have n2 : w.heap.size ≤ w.heap.size + 1 + 1 := by omega
      have n3 : w.heap.size ≤ w.heap.size + 1 + 1 + 1 := by omega
      iterate 10 refine Below.setCell ?_ n2 _
      iterate 2 refine Below.setCell ?_ n3 _
      exact HX5.out
    · exact new_block (by simp only [World.size_setCell])
end Go.Proofs.YtfmedddjmcplnaaDoor
