/- The reference's arena: what writes its words; a new one. -/
import Derived.Test.YtibpnhaamdelmaaRefaA
namespace Go.Proofs.Ytibpnhaamdelmaa
open Go.RowKit Go.Maps Arena
set_option maxHeartbeats 4000000
set_option maxRecDepth 100000
theorem RefAt.store {w : World} {q gq B n : Nat} {ws : List Int} {vR : Value} {R : List (Nat × Nat)} (h : RefAt w q gq B n ws vR R) (i : Nat) (v : Int) : RefAt (w.setCell ⟨gq, i, none⟩ (.int .u64 v)) q gq B n (ws.set i v) vR R := by
  have t : Turn [gq] w (w.setCell ⟨gq, i, none⟩ (.int .u64 v)) := (Turn.refl _ _).setCell (.inl (by simp)) _
  obtain ⟨lq, lg⟩ := h.lt
  refine ⟨by rw [t.block q lq (by simp; exact h.ne)]; exact h.row, ?_, by rw [List.length_set]; exact h.len, h.regs.turn t (by intro b hb; simp at hb; subst hb; exact h.gB), h.good, h.ne, h.qB, h.gB, h.least⟩
  rw [heap_setCell_same w gq i _ _ _ h.words]
  rw [List.map_set]
  simp
theorem refget_yes {w : World} {q gq B n : Nat} {ws : List Int} {vR : Value} {R : List (Nat × Nat)} (h : RefAt w q gq B n ws vR R) {r : Nat × Nat} (hr : r ∈ R) {a : Nat} (ha : a < r.2) :
    Calls Try.prog 15 #[.pointer (some ⟨q, 0, none⟩), .int .i64 r.1, .int .i64 a] w fun e w' => e = .returned (.agg #[.int .u64 (ws.getD (r.1 + a) 0), .bool true]) ∧ Ext w w' := by
  have hall : ∀ W, Ext w W → Calls Try.prog 19 #[.pointer (some ⟨q, 0, none⟩), .int .i64 r.1] W fun e w' => e = .returned (.int .i64 r.2) ∧ W = w' := fun W e => size_yes (h.ext e) hr
  have HF := Lib.hid hall
  obtain ⟨c0, c1, _⟩ := h.cells
  obtain ⟨h1, h2⟩ := h.good.2 r hr
  obtain ⟨k0, _⟩ := h.word (i := r.1 + a) (by omega)
  have hn := h.least
  have hlt := h.lt
  have b1 : decide ((a : Int) < 0) = false := decide_eq_false (by omega)
  have b2 : decide ((r.2 : Int) ≤ (a : Int)) = false := decide_eq_false (by omega)
  generalize ws.getD (r.1 + a) 0 = u at *
  clear h hr hall
  go_enter Try.func15, Try.ntmps15
  go_wp2_with fail
  refine (HF.out _ (Ext.alloc _ _)).mono ?_; rintro e w' ⟨rfl, rfl⟩
  go_wp2
  exact bodyPost_ret (v := .agg #[.int .u64 u, .bool true]) (by simp [results, Try.results15, go_sem]) rfl ⟨rfl, (Below.refl _ _).alloc (Nat.le_refl _) _⟩
theorem refget_no {w : World} {q gq B n : Nat} {ws : List Int} {vR : Value} {R : List (Nat × Nat)} (h : RefAt w q gq B n ws vR R) {x a : Int} (h0 : lenAt R x = 0) :
    Calls Try.prog 15 #[.pointer (some ⟨q, 0, none⟩), .int .i64 x, .int .i64 a] w fun e w' => e = .returned (.agg #[.int .u64 0, .bool false]) ∧ Ext w w' := by
  have hall : ∀ W, Ext w W → Calls Try.prog 19 #[.pointer (some ⟨q, 0, none⟩), .int .i64 x] W fun e w' => e = .returned (.int .i64 (-1)) ∧ W = w' := fun W e => size_no (h.ext e) h0
  have HF := Lib.hid hall
  clear h h0 hall
  by_cases hneg : a < 0
  · have b1 : decide (a < 0) = true := decide_eq_true hneg
    go_enter Try.func15, Try.ntmps15
    go_wp2
    exact bodyPost_ret (v := .agg #[.int .u64 0, .bool false]) (by simp [results, Try.results15, go_sem]) rfl ⟨rfl, (Below.refl _ _).alloc (Nat.le_refl _) _⟩
  · have b1 : decide (a < 0) = false := decide_eq_false hneg
    have b2 : decide ((-1 : Int) ≤ a) = true := decide_eq_true (by omega)
    go_enter Try.func15, Try.ntmps15
    go_wp2_with fail
    refine (HF.out _ (Ext.alloc _ _)).mono ?_; rintro e w' ⟨rfl, rfl⟩
    go_wp2
    exact bodyPost_ret (v := .agg #[.int .u64 0, .bool false]) (by simp [results, Try.results15, go_sem]) rfl ⟨rfl, (Below.refl _ _).alloc (Nat.le_refl _) _⟩
theorem refget_out {w : World} {q gq B n : Nat} {ws : List Int} {vR : Value} {R : List (Nat × Nat)} (h : RefAt w q gq B n ws vR R) {r : Nat × Nat} (hr : r ∈ R) {a : Int} (ha : a < 0 ∨ (r.2 : Int) ≤ a) :
    Calls Try.prog 15 #[.pointer (some ⟨q, 0, none⟩), .int .i64 r.1, .int .i64 a] w fun e w' => e = .returned (.agg #[.int .u64 0, .bool false]) ∧ Ext w w' := by
  have hall : ∀ W, Ext w W → Calls Try.prog 19 #[.pointer (some ⟨q, 0, none⟩), .int .i64 r.1] W fun e w' => e = .returned (.int .i64 r.2) ∧ W = w' := fun W e => size_yes (h.ext e) hr
  have HF := Lib.hid hall
  clear h hr hall
  by_cases hneg : a < 0
  · have b1 : decide (a < 0) = true := decide_eq_true hneg
    clear ha
    go_enter Try.func15, Try.ntmps15
    go_wp2
    exact bodyPost_ret (v := .agg #[.int .u64 0, .bool false]) (by simp [results, Try.results15, go_sem]) rfl ⟨rfl, (Below.refl _ _).alloc (Nat.le_refl _) _⟩
  · have b1 : decide (a < 0) = false := decide_eq_false hneg
    have b2 : decide ((r.2 : Int) ≤ a) = true := decide_eq_true (by omega)
    clear ha
    go_enter Try.func15, Try.ntmps15
    go_wp2_with fail
    refine (HF.out _ (Ext.alloc _ _)).mono ?_; rintro e w' ⟨rfl, rfl⟩
    go_wp2
    exact bodyPost_ret (v := .agg #[.int .u64 0, .bool false]) (by simp [results, Try.results15, go_sem]) rfl ⟨rfl, (Below.refl _ _).alloc (Nat.le_refl _) _⟩
theorem refset_yes {w : World} {q gq B n : Nat} {ws : List Int} {vR : Value} {R : List (Nat × Nat)} (h : RefAt w q gq B n ws vR R) {r : Nat × Nat} (hr : r ∈ R) {a : Nat} (ha : a < r.2) {v : Int} :
    Calls Try.prog 17 #[.pointer (some ⟨q, 0, none⟩), .int .i64 r.1, .int .i64 a, .int .u64 v] w fun e w' => e = .returned (.bool true) ∧ RefAt w' q gq B n (ws.set (r.1 + a) v) vR R ∧ Turn [gq] w w' := by
  have HF := Lib.hid (size_yes h hr)
  obtain ⟨c0, c1, _⟩ := h.cells
  obtain ⟨h1, h2⟩ := h.good.2 r hr
  obtain ⟨k0, k1⟩ := h.word (i := r.1 + a) (by omega)
  have hn := h.least
  have b1 : decide ((a : Int) < 0) = false := decide_eq_false (by omega)
  have b2 : decide ((r.2 : Int) ≤ (a : Int)) = false := decide_eq_false (by omega)
  have HST := Lib.hid (h.store (r.1 + a) v)
  generalize ws.getD (r.1 + a) 0 = u at *
  clear h hr
  go_enter Try.func17, Try.ntmps17
  go_wp2_with fail
  refine HF.out.mono ?_; rintro e w' ⟨rfl, rfl⟩
  go_wp2
  go_ret
  exact ⟨rfl, HST.out, (Turn.refl _ _).setCell (.inl (by simp)) _⟩
theorem refset_no {w : World} {q gq B n : Nat} {ws : List Int} {vR : Value} {R : List (Nat × Nat)} (h : RefAt w q gq B n ws vR R) {x a v : Int} (h0 : lenAt R x = 0) :
    Calls Try.prog 17 #[.pointer (some ⟨q, 0, none⟩), .int .i64 x, .int .i64 a, .int .u64 v] w fun e w' => e = .returned (.bool false) ∧ w = w' := by
  have HF := Lib.hid (size_no h h0)
  clear h h0
  by_cases hneg : a < 0
  · have b1 : decide (a < 0) = true := decide_eq_true hneg
    go_enter Try.func17, Try.ntmps17
    go_wp2
    go_ret
    exact ⟨rfl, rfl⟩
  · have b1 : decide (a < 0) = false := decide_eq_false hneg
    have b2 : decide ((-1 : Int) ≤ a) = true := decide_eq_true (by omega)
    go_enter Try.func17, Try.ntmps17
    go_wp2_with fail
    refine HF.out.mono ?_; rintro e w' ⟨rfl, rfl⟩
    go_wp2
    go_ret
    exact ⟨rfl, rfl⟩
theorem refset_out {w : World} {q gq B n : Nat} {ws : List Int} {vR : Value} {R : List (Nat × Nat)} (h : RefAt w q gq B n ws vR R) {r : Nat × Nat} (hr : r ∈ R) {a v : Int} (ha : a < 0 ∨ (r.2 : Int) ≤ a) :
    Calls Try.prog 17 #[.pointer (some ⟨q, 0, none⟩), .int .i64 r.1, .int .i64 a, .int .u64 v] w fun e w' => e = .returned (.bool false) ∧ w = w' := by
  have HF := Lib.hid (size_yes h hr)
  clear h hr
  by_cases hneg : a < 0
  · have b1 : decide (a < 0) = true := decide_eq_true hneg
    clear ha
    go_enter Try.func17, Try.ntmps17
    go_wp2
    go_ret
    exact ⟨rfl, rfl⟩
  · have b1 : decide (a < 0) = false := decide_eq_false hneg
    have b2 : decide ((r.2 : Int) ≤ a) = true := decide_eq_true (by omega)
    clear ha
    go_enter Try.func17, Try.ntmps17
    go_wp2_with fail
    refine HF.out.mono ?_; rintro e w' ⟨rfl, rfl⟩
    go_wp2
    go_ret
    exact ⟨rfl, rfl⟩
theorem refnew_no {w : World} {n : Int} (hn : n < 1 ∨ 20000 < n) : Calls Try.prog 8 #[.int .i64 n] w fun e w' => e = .returned (.pointer none) ∧ w = w' := by
  by_cases h1 : n < 1
  · have b1 : decide (n < 1) = true := decide_eq_true h1
    clear hn
    go_enter Try.func8, Try.ntmps8
    go_wp2
    go_ret
    exact ⟨rfl, rfl⟩
  · have b1 : decide (n < 1) = false := decide_eq_false h1
    have b2 : decide (20000 < n) = true := decide_eq_true (by omega)
    clear hn
    go_enter Try.func8, Try.ntmps8
    go_wp2
    go_ret
    exact ⟨rfl, rfl⟩
theorem made_zeros' (n : Nat) : madeCells #[Value.int .u64 0] n = ((List.replicate n (0 : Int)).map fun x => Value.int .u64 x).toArray := by
  apply Array.ext'
  rw [toList_madeCells_one]
  simp
theorem refnew_is {w : World} {n : Nat} (h1 : 1 ≤ n) (h2 : n ≤ 20000) : Calls Try.prog 8 #[.int .i64 n] w fun e w' =>
    ∃ q gq, e = .returned (.pointer (some ⟨q, 0, none⟩)) ∧ RefAt w' q gq w'.heap.size n (List.replicate n 0) (.slice none 0 0) [] ∧ Ext w w' ∧ w.heap.size ≤ q ∧ w.heap.size ≤ gq := by
  have b1 : decide ((n : Int) < 1) = false := decide_eq_false (by omega)
  have b2 : decide (20000 < (n : Int)) = false := decide_eq_false (by omega)
  have hmk := run_make_row' (P := Try.prog) 42 29 (.int .u64 0) 8 Try.underlying42 info_u64 rfl .i64 .i64 n (by omega) (by omega)
  go_enter Try.func8, Try.ntmps8
  go_wp2
  go_ret
  refine ⟨w.heap.size + 1, w.heap.size, rfl, ⟨?_, ?_, by simp, PairRow.nil _ _, good_nil _, by omega, by simp, by simp; omega, h2⟩, (Ext.alloc _ _).trans (Ext.alloc _ _), by omega, by omega⟩
  · have := heap_alloc_new (w.alloc (.cells (madeCells #[Value.int .u64 0] n) 29)) (.cells #[.slice (some ⟨w.heap.size, 0, none⟩) n n, .slice none 0 0] 51)
    simpa using this
  · rw [Below.block (Below.alloc (B := w.heap.size + 1) (Below.refl _ _) (by simp) _) w.heap.size (by omega), heap_alloc_new, made_zeros']
end Go.Proofs.Ytibpnhaamdelmaa
