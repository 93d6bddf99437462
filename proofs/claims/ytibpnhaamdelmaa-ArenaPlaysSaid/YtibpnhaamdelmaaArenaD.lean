/- The walks of an arena's New, Words, Regions. -/
import Derived.Test.YtibpnhaamdelmaaArenaC
import Derived.Deep.OwnRows
namespace Go.Proofs.Ytibpnhaamdelmaa
open Go.RowKit Go.Maps Arena
set_option maxHeartbeats 2000000
set_option maxRecDepth 100000
theorem new_no {w : World} {n : Int} (hn : n < 1 ∨ 20000 < n) : Calls Try.prog 7 #[.int .i64 n] w fun e w' => e = .returned (.tuple #[.pointer none, .bool false]) ∧ w = w' := by
  by_cases h1 : n < 1
  · have b1 : decide (n < 1) = true := decide_eq_true h1
    go_enter Try.func7, Try.ntmps7
    go_wp2
    go_ret2
    exact ⟨rfl, rfl⟩
  · have b1 : decide (n < 1) = false := decide_eq_false h1
    have b2 : decide (20000 < n) = true := decide_eq_true (by omega)
    go_enter Try.func7, Try.ntmps7
    go_wp2
    go_ret2
    exact ⟨rfl, rfl⟩
theorem made_zeros (n : Nat) : madeCells #[Value.int .u64 0] n = ((List.replicate n (0 : Int)).map fun x => Value.int .u64 x).toArray := by
  apply Array.ext
  · simp [madeCells]
  · intro i h1 h2
    simp [madeCells, Nat.mod_one]
theorem arena_new (w : World) {n : Nat} (h2 : n ≤ 20000) : ArenaAt (((w.alloc (.cells (madeCells #[Value.int .u64 0] n) 29)).alloc (.map #[] 0)).alloc (.cells #[.slice (some ⟨w.heap.size, 0, none⟩) n n, .map (some (w.heap.size + 1))] 63)) (w.heap.size + 1 + 1) w.heap.size (w.heap.size + 1) n (List.replicate n 0) [] := by
  have e1 : (w.alloc (.cells (madeCells #[Value.int .u64 0] n) 29)).heap.size = w.heap.size + 1 := by simp
  have e2 : ((w.alloc (.cells (madeCells #[Value.int .u64 0] n) 29)).alloc (.map #[] 0)).heap.size = w.heap.size + 1 + 1 := by simp
  refine ⟨?_, ?_, by simp, ?_, good_nil n, by omega, by omega, by omega, h2⟩
  · have := heap_alloc_new ((w.alloc (.cells (madeCells #[Value.int .u64 0] n) 29)).alloc (.map #[] 0)) (.cells #[.slice (some ⟨w.heap.size, 0, none⟩) n n, .map (some (w.heap.size + 1))] 63)
    rw [e2] at this
    exact this
  · rw [Below.heap_alloc _ _ _ (by rw [e2]; omega), Below.heap_alloc _ _ _ (by rw [e1]; omega), ← made_zeros]
    exact heap_alloc_new w _
  · have := (World.ownsMap_made (H := Unit) (w.alloc (.cells (madeCells #[Value.int .u64 0] n) 29)) Try.prog 3 (plainElem Try.prog 3)).alloc (.cells #[.slice (some ⟨w.heap.size, 0, none⟩) n n, .map (some (w.heap.size + 1))] 63)
    rw [e1] at this
    exact this
theorem new_is {w : World} {n : Nat} (h1 : 1 ≤ n) (h2 : n ≤ 20000) : Calls Try.prog 7 #[.int .i64 n] w fun e w' =>
    ∃ p g bm, e = .returned (.tuple #[.pointer (some ⟨p, 0, none⟩), .bool true]) ∧ ArenaAt w' p g bm n (List.replicate n 0) [] ∧ Ext w w' ∧ w.heap.size ≤ p ∧ w.heap.size ≤ g ∧ w.heap.size ≤ bm := by
  have b1 : decide ((n : Int) < 1) = false := decide_eq_false (by omega)
  have b2 : decide (20000 < (n : Int)) = false := decide_eq_false (by omega)
  have hmk := run_make_row' (P := Try.prog) 42 29 (.int .u64 0) 8 Try.underlying42 info_u64 rfl .i64 .i64 n (by omega) (by omega)
  have hmm := @run_makeMap Try.prog
  go_enter Try.func7, Try.ntmps7
  go_wp2
  go_ret2
  exact ⟨w.heap.size + 1 + 1, w.heap.size, w.heap.size + 1, rfl, arena_new w h2, ((Ext.alloc _ _).trans (Ext.alloc _ _)).trans (Ext.alloc _ _), by omega, by omega, by omega⟩
theorem words_no {w : World} {p g bm n : Nat} {ws : List Int} {R : List (Nat × Nat)} {k : Int} (h : ArenaAt w p g bm n ws R) (hw : (Lit.int .i64 k).wf = true) (h0 : lenAt R k = 0) :
    Calls Try.prog 18 #[.pointer (some ⟨p, 0, none⟩), .int .i64 k] w fun e w' => e = .returned (.tuple #[.slice none 0 0, .bool false]) ∧ w = w' := by
  have hcl : ∀ W, Calls Try.prog 29 #[.slice none 0 0] W fun e w' => e = .returned (.slice none 0 0) ∧ w' = W := fun W => AnyE.slices_Clone_nil Try.cloneA 0 0 W
  go_enter Try.func18, Try.ntmps18
  go_wp2_with fail
  refine (region_no h hw h0).mono ?_; rintro e w' ⟨rfl, rfl⟩
  go_wp2_with fail
  refine (hcl _).mono ?_; rintro e w' ⟨rfl, rfl⟩
  go_wp2
  go_ret2
  exact ⟨rfl, rfl⟩
theorem words_yes {w : World} {p g bm n : Nat} {ws : List Int} {R : List (Nat × Nat)} {r : Nat × Nat} (h : ArenaAt w p g bm n ws R) (hr : r ∈ R) :
    Calls Try.prog 18 #[.pointer (some ⟨p, 0, none⟩), .int .i64 r.1] w fun e w' => ∃ v, e = .returned (.tuple #[v, .bool true]) ∧ w'.ownsRow w.heap.size 29 1 v r.2 (((ws.drop r.1).take r.2).map fun x => Value.int .u64 x) ∧ Ext w w' := by
  obtain ⟨h1, h2⟩ := h.good.2 r hr
  have hn := h.least
  have hl := h.len
  obtain ⟨i0, hi, hz0, hz1, hz2⟩ := info_parts info_u64
  have hcl : Calls Try.prog 29 #[.slice (some ⟨g, r.1, none⟩) r.2 (n - r.1)] w fun e w' => ∃ v', e = .returned v' ∧ w'.ownsRow w.heap.size 29 1 v' r.2 (((ws.drop r.1).take r.2).map fun x => Value.int .u64 x) ∧ v' ≠ .slice none 0 0 ∧ Below w.heap.size w w' :=
    AnyE.slices_Clone Try.cloneA i0 (.int .u64 0) 1 8 hi hz0 hz1 hz2 rfl (by decide) (fun W => by kernel_rfl) g r.1 r.2 (n - r.1) (((ws.drop r.1).take r.2).map fun x => Value.int .u64 x) w
      (by rw [List.length_map, List.length_take, List.length_drop]; omega) (by unfold maxLen; omega) (by omega)
      (fun j u hj => by
        rw [List.getElem?_map] at hj
        obtain ⟨x, hx, rfl⟩ := Option.map_eq_some_iff.1 hj
        have hjl : j < ((ws.drop r.1).take r.2).length := (List.getElem?_eq_some_iff.1 hx).1
        rw [List.length_take, List.length_drop] at hjl
        rw [List.getElem?_take_of_lt (by omega), List.getElem?_drop] at hx
        rw [(h.word (i := r.1 + j) (by omega)).1, List.getD_eq_getElem?_getD, hx]; rfl)
      (fun u hu => by obtain ⟨x, _, rfl⟩ := List.mem_map.1 hu; rfl)
  have HCL := Lib.hid hcl
  have HRG := Lib.hid (region_yes h hr)
  have i1 : (0 : Int) < (r.2 : Int) := by omega
  clear hcl h hi hz0 hz1 hz2
  go_enter Try.func18, Try.ntmps18
  go_wp2_with fail
  refine HRG.out.mono ?_; rintro e w' ⟨rfl, rfl⟩
  go_wp2_with fail
  refine HCL.out.mono ?_; rintro e w1 ⟨v, rfl, hrow, _, hx⟩
  go_wp2
  go_ret2
  exact ⟨v, by simp; omega, hrow, hx⟩
end Go.Proofs.Ytibpnhaamdelmaa
