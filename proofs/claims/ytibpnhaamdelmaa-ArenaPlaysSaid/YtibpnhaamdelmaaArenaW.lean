/- An arena in memory; its small functions. -/
import Derived.Test.YtibpnhaamdelmaaArenaP
import Derived.Test.YtibpnhaamdelmaaPairs
import Derived.Test.YtibpnhaamdelmaaShelf
import Derived.Shelf.AbstractIn
import Derived.Maps.OwnOps
namespace Go.Proofs.Ytibpnhaamdelmaa
open Go.RowKit Go.Maps Arena
set_option maxHeartbeats 1000000
/-- an arena's three blocks: its own row, its words, its map -/
structure ArenaAt (w : World) (p g bm n : Nat) (ws : List Int) (R : List (Nat × Nat)) : Prop where
  row : w.heap[p]? = some (.cells #[.slice (some ⟨g, 0, none⟩) n n, .map (some bm)] 63 (0, 0))
  words : w.heap[g]? = some (.cells (ws.map fun x => Value.int .u64 x).toArray 29 (0, 0))
  len : ws.length = n
  regs : w.ownsMap Try.prog 3 (plainElem Try.prog 3) bm R.length (regD R)
  good : Arena.Good n R
  pg : p ≠ g
  pm : p ≠ bm
  gm : g ≠ bm
  least : n ≤ 20000
theorem ArenaAt.lt {w : World} {p g bm n : Nat} {ws : List Int} {R : List (Nat × Nat)} (h : ArenaAt w p g bm n ws R) : p < w.heap.size ∧ g < w.heap.size ∧ bm < w.heap.size :=
  ⟨(Array.getElem?_eq_some_iff.1 h.row).1, (Array.getElem?_eq_some_iff.1 h.words).1, h.regs.lt⟩
theorem ArenaAt.turn {w w' : World} {p g bm n : Nat} {ws : List Int} {R : List (Nat × Nat)} {bs : List Nat} (h : ArenaAt w p g bm n ws R) (t : Turn bs w w') (hp : p ∉ bs) (hg : g ∉ bs) (hm : bm ∉ bs) : ArenaAt w' p g bm n ws R := by
  obtain ⟨lp, lg, lm⟩ := h.lt
  refine ⟨by rw [t.block p lp hp]; exact h.row, by rw [t.block g lg hg]; exact h.words, h.len, ?_, h.good, h.pg, h.pm, h.gm, h.least⟩
  obtain ⟨es, clock, hb, hr⟩ := h.regs
  exact ⟨es, clock, by rw [t.block bm lm hm]; exact hb, hr⟩
theorem ArenaAt.ext {w w' : World} {p g bm n : Nat} {ws : List Int} {R : List (Nat × Nat)} (h : ArenaAt w p g bm n ws R) (e : Ext w w') : ArenaAt w' p g bm n ws R :=
  h.turn (Turn.of_ext (bs := []) e) (by simp) (by simp) (by simp)
theorem ArenaAt.cells {w : World} {p g bm n : Nat} {ws : List Int} {R : List (Nat × Nat)} (h : ArenaAt w p g bm n ws R) :
    w.cell? ⟨p, 0, none⟩ = some (.slice (some ⟨g, 0, none⟩) n n) ∧ w.cell? ⟨p, 1, none⟩ = some (.map (some bm)) := by
  constructor <;> simp [World.cell?, h.row]
/-- a map's bound is its size -/
theorem owns_size {P : Program} {k e : TypeId} {w : World} {b n : Nat} {R : List (Nat × Nat)} (h : w.ownsMap P k (plainElem P e) b n (regD R)) : w.ownsMap P k (plainElem P e) b R.length (regD R) := by
  obtain ⟨es, clock, hb, F, hs, hD⟩ := h
  refine ⟨es, clock, hb, F, ?_, hD⟩
  have h1 : Maps.size (regD R) = es.size := by rw [hD, Maps.size_eq, length_sorted]; simp
  rw [regD_size] at h1
  omega
theorem int_law : Keyed Try.prog 3 := int_keyed Try.underlying3
theorem int_zero (w : World) : (zeroValue 3).run Try.prog w = .ok (.int .i64 0) w := by kernel_rfl

theorem len_is {w : World} {p g bm n : Nat} {ws : List Int} {R : List (Nat × Nat)} (h : ArenaAt w p g bm n ws R) : Calls Try.prog 24 #[.pointer (some ⟨p, 0, none⟩)] w fun e w' => e = .returned (.int .i64 n) ∧ w = w' := by
  obtain ⟨c0, c1⟩ := h.cells
  clear h
  go_enter Try.func24, Try.ntmps24
  go_wp2
  go_ret
  exact ⟨rfl, rfl⟩
theorem len_none (w : World) : Calls Try.prog 24 #[.pointer none] w fun e w' => e = .returned (.int .i64 0) ∧ w = w' := by
  go_enter Try.func24, Try.ntmps24
  go_wp2
  go_ret
  exact ⟨rfl, rfl⟩
theorem free_none (w : World) (k : Int) : Calls Try.prog 12 #[.pointer none, .int .i64 k] w fun e w' => e = .returned (.bool false) ∧ w = w' := by
  go_enter Try.func12, Try.ntmps12
  go_wp2
  go_ret
  exact ⟨rfl, rfl⟩
theorem key_int {k : Int} (hw : (Lit.int .i64 k).wf = true) : keyOf Try.prog 3 (.int .i64 k) = some (.int .i64 k) := keyOf_int_mk Try.underlying3 hw
theorem at_len {R : List (Nat × Nat)} {k c : Int} (h : (regD R).atKey (.int .i64 k) (.lit (.int .i64 0)) = .lit (.int .i64 c)) : c = lenAt R k := by
  rw [regD_atKey] at h
  injection h with h
  injection h with _ h
  exact h.symm
theorem region_no {w : World} {p g bm n : Nat} {ws : List Int} {R : List (Nat × Nat)} {k : Int} (h : ArenaAt w p g bm n ws R) (hw : (Lit.int .i64 k).wf = true) (h0 : lenAt R k = 0) :
    Calls Try.prog 28 #[.pointer (some ⟨p, 0, none⟩), .int .i64 k] w fun e w' => e = .returned (.slice none 0 0) ∧ w = w' := by
  obtain ⟨c0, c1⟩ := h.cells
  have HM := Lib.hid h.regs
  have H0 := Lib.hid h0
  clear h h0
  go_enter Try.func28, Try.ntmps28
  go_wp2_with (at_lookup; refine wpList_lookup_own_int _ rfl _ _ 61 rfl 3 3 .i64 int_law Try.underlying61 Try.underlying3 (int_zero _) bm R.length _ rfl HM.out _ _ rfl (key_int hw) ?_; intro c hat hwc; obtain rfl : c = 0 := by have := at_len hat; rw [H0.out] at this; exact this)
  go_ret
  exact ⟨rfl, rfl⟩
theorem region_yes {w : World} {p g bm n : Nat} {ws : List Int} {R : List (Nat × Nat)} {r : Nat × Nat} (h : ArenaAt w p g bm n ws R) (hr : r ∈ R) :
    Calls Try.prog 28 #[.pointer (some ⟨p, 0, none⟩), .int .i64 r.1] w fun e w' => e = .returned (.slice (some ⟨g, r.1, none⟩) r.2 (n - r.1)) ∧ w = w' := by
  obtain ⟨c0, c1⟩ := h.cells
  have HM := Lib.hid h.regs
  have H0 := Lib.hid (lenAt_mem h.good hr)
  have hn := h.least
  obtain ⟨h1, h2⟩ := h.good.2 r hr
  have hw : (Lit.int .i64 (r.1 : Int)).wf = true := WalkArith.wf_i64 (by omega)
  have b0 : ((r.2 : Int) == 0) = false := beq_false_of_ne (by omega)
  clear h
  go_enter Try.func28, Try.ntmps28
  go_wp2_with (at_lookup; refine wpList_lookup_own_int _ rfl _ _ 61 rfl 3 3 .i64 int_law Try.underlying61 Try.underlying3 (int_zero _) bm R.length _ rfl HM.out _ _ rfl (key_int hw) ?_; intro c hat hwc; obtain rfl : c = (r.2 : Int) := by have := at_len hat; rw [H0.out] at this; exact this)
  go_ret
  exact ⟨by simp, rfl⟩
theorem ArenaAt.word {w : World} {p g bm n : Nat} {ws : List Int} {R : List (Nat × Nat)} (h : ArenaAt w p g bm n ws R) {i : Nat} (hi : i < n) : w.cell? ⟨g, i, none⟩ = some (.int .u64 (ws.getD i 0)) ∧ w.frozen? ⟨g, i, none⟩ = false := by
  have hl := h.len
  constructor
  · simp [World.cell?, h.words, List.getElem?_eq_getElem (show i < ws.length by omega)]
  · simp [World.frozen?, h.words]
theorem ArenaAt.store {w : World} {p g bm n : Nat} {ws : List Int} {R : List (Nat × Nat)} (h : ArenaAt w p g bm n ws R) (i : Nat) (v : Int) : ArenaAt (w.setCell ⟨g, i, none⟩ (.int .u64 v)) p g bm n (ws.set i v) R := by
  refine ⟨?_, ?_, by simpa using h.len, h.regs.setCell (fun e => h.gm e.symm) _, h.good, h.pg, h.pm, h.gm, h.least⟩
  · rw [Below.heap_setCell _ _ _ _ h.pg]; exact h.row
  · rw [Lib.heap_setCell_same h.words]
    simp
theorem get_no {w : World} {p g bm n : Nat} {ws : List Int} {R : List (Nat × Nat)} {k a : Int} (h : ArenaAt w p g bm n ws R) (hw : (Lit.int .i64 k).wf = true) (h0 : lenAt R k = 0) :
    Calls Try.prog 14 #[.pointer (some ⟨p, 0, none⟩), .int .i64 k, .int .i64 a] w fun e w' => e = .returned (.tuple #[.int .u64 0, .bool false]) ∧ w = w' := by
  by_cases ha : a < 0
  · have b1 : decide (a < 0) = true := decide_eq_true ha
    go_enter Try.func14, Try.ntmps14
    go_wp2_with fail
    refine (region_no h hw h0).mono ?_; rintro e w' ⟨rfl, rfl⟩
    go_wp2
    go_ret2
    exact ⟨rfl, rfl⟩
  · have b1 : decide (a < 0) = false := decide_eq_false ha
    have b2 : decide ((0 : Int) ≤ a) = true := decide_eq_true (by omega)
    go_enter Try.func14, Try.ntmps14
    go_wp2_with fail
    refine (region_no h hw h0).mono ?_; rintro e w' ⟨rfl, rfl⟩
    go_wp2
    go_ret2
    exact ⟨rfl, rfl⟩
theorem get_out {w : World} {p g bm n : Nat} {ws : List Int} {R : List (Nat × Nat)} {r : Nat × Nat} {a : Int} (h : ArenaAt w p g bm n ws R) (hr : r ∈ R) (ha : a < 0 ∨ (r.2 : Int) ≤ a) :
    Calls Try.prog 14 #[.pointer (some ⟨p, 0, none⟩), .int .i64 r.1, .int .i64 a] w fun e w' => e = .returned (.tuple #[.int .u64 0, .bool false]) ∧ w = w' := by
  by_cases ha0 : a < 0
  · have b1 : decide (a < 0) = true := decide_eq_true ha0
    go_enter Try.func14, Try.ntmps14
    go_wp2_with fail
    refine (region_yes h hr).mono ?_; rintro e w' ⟨rfl, rfl⟩
    go_wp2
    go_ret2
    exact ⟨rfl, rfl⟩
  · have b1 : decide (a < 0) = false := decide_eq_false ha0
    have b2 : decide ((r.2 : Int) ≤ a) = true := decide_eq_true (by omega)
    go_enter Try.func14, Try.ntmps14
    go_wp2_with fail
    refine (region_yes h hr).mono ?_; rintro e w' ⟨rfl, rfl⟩
    go_wp2
    go_ret2
    exact ⟨rfl, rfl⟩
theorem get_yes {w : World} {p g bm n : Nat} {ws : List Int} {R : List (Nat × Nat)} {r : Nat × Nat} {a : Nat} (h : ArenaAt w p g bm n ws R) (hr : r ∈ R) (ha : a < r.2) :
    Calls Try.prog 14 #[.pointer (some ⟨p, 0, none⟩), .int .i64 r.1, .int .i64 a] w fun e w' => e = .returned (.tuple #[.int .u64 (ws.getD (r.1 + a) 0), .bool true]) ∧ w = w' := by
  obtain ⟨h1, h2⟩ := h.good.2 r hr
  have hn := h.least
  obtain ⟨hc, _⟩ := h.word (i := r.1 + a) (by omega)
  have b1 : decide ((a : Int) < 0) = false := decide_eq_false (by omega)
  have b2 : decide ((r.2 : Int) ≤ (a : Int)) = false := decide_eq_false (by omega)
  have HRG := Lib.hid (region_yes h hr)
  generalize ws.getD (r.1 + a) 0 = v at *
  clear h
  go_enter Try.func14, Try.ntmps14
  go_wp2_with fail
  refine HRG.out.mono ?_; rintro e w' ⟨rfl, rfl⟩
  go_wp2
  go_ret2
  exact ⟨rfl, rfl⟩
theorem set_no {w : World} {p g bm n : Nat} {ws : List Int} {R : List (Nat × Nat)} {k a v : Int} (h : ArenaAt w p g bm n ws R) (hw : (Lit.int .i64 k).wf = true) (h0 : lenAt R k = 0) :
    Calls Try.prog 16 #[.pointer (some ⟨p, 0, none⟩), .int .i64 k, .int .i64 a, .int .u64 v] w fun e w' => e = .returned (.bool false) ∧ w = w' := by
  by_cases ha : a < 0
  · have b1 : decide (a < 0) = true := decide_eq_true ha
    go_enter Try.func16, Try.ntmps16
    go_wp2_with fail
    refine (region_no h hw h0).mono ?_; rintro e w' ⟨rfl, rfl⟩
    go_wp2
    go_ret
    exact ⟨rfl, rfl⟩
  · have b1 : decide (a < 0) = false := decide_eq_false ha
    have b2 : decide ((0 : Int) ≤ a) = true := decide_eq_true (by omega)
    go_enter Try.func16, Try.ntmps16
    go_wp2_with fail
    refine (region_no h hw h0).mono ?_; rintro e w' ⟨rfl, rfl⟩
    go_wp2
    go_ret
    exact ⟨rfl, rfl⟩
theorem set_out {w : World} {p g bm n : Nat} {ws : List Int} {R : List (Nat × Nat)} {r : Nat × Nat} {a v : Int} (h : ArenaAt w p g bm n ws R) (hr : r ∈ R) (ha : a < 0 ∨ (r.2 : Int) ≤ a) :
    Calls Try.prog 16 #[.pointer (some ⟨p, 0, none⟩), .int .i64 r.1, .int .i64 a, .int .u64 v] w fun e w' => e = .returned (.bool false) ∧ w = w' := by
  by_cases ha0 : a < 0
  · have b1 : decide (a < 0) = true := decide_eq_true ha0
    go_enter Try.func16, Try.ntmps16
    go_wp2_with fail
    refine (region_yes h hr).mono ?_; rintro e w' ⟨rfl, rfl⟩
    go_wp2
    go_ret
    exact ⟨rfl, rfl⟩
  · have b1 : decide (a < 0) = false := decide_eq_false ha0
    have b2 : decide ((r.2 : Int) ≤ a) = true := decide_eq_true (by omega)
    go_enter Try.func16, Try.ntmps16
    go_wp2_with fail
    refine (region_yes h hr).mono ?_; rintro e w' ⟨rfl, rfl⟩
    go_wp2
    go_ret
    exact ⟨rfl, rfl⟩
theorem set_yes {w : World} {p g bm n : Nat} {ws : List Int} {R : List (Nat × Nat)} {r : Nat × Nat} {a : Nat} {v : Int} (h : ArenaAt w p g bm n ws R) (hr : r ∈ R) (ha : a < r.2) :
    Calls Try.prog 16 #[.pointer (some ⟨p, 0, none⟩), .int .i64 r.1, .int .i64 a, .int .u64 v] w fun e w' => e = .returned (.bool true) ∧ ArenaAt w' p g bm n (ws.set (r.1 + a) v) R ∧ Turn [g] w w' := by
  obtain ⟨h1, h2⟩ := h.good.2 r hr
  have hn := h.least
  obtain ⟨hc, hf⟩ := h.word (i := r.1 + a) (by omega)
  have b1 : decide ((a : Int) < 0) = false := decide_eq_false (by omega)
  have b2 : decide ((r.2 : Int) ≤ (a : Int)) = false := decide_eq_false (by omega)
  have HRG := Lib.hid (region_yes h hr)
  have HST := Lib.hid (h.store (r.1 + a) v)
  generalize ws.getD (r.1 + a) 0 = u at *
  clear h
  go_enter Try.func16, Try.ntmps16
  go_wp2_with fail
  refine HRG.out.mono ?_; rintro e w' ⟨rfl, rfl⟩
  go_wp2
  go_ret
  exact ⟨rfl, HST.out, (Turn.refl _ _).setCell (.inl (by simp)) _⟩
theorem look_len {w : World} {p g bm n : Nat} {ws : List Int} {R : List (Nat × Nat)} {k : Int} (h : ArenaAt w p g bm n ws R) (hw : (Lit.int .i64 k).wf = true) :
    (Instr.lookup 61 (.map (some bm)) (.int .i64 k) false).run Try.prog w = .ok (.int .i64 (lenAt R k)) w := by
  obtain ⟨c, hrun, hat, _⟩ := h.regs.lookup_int int_law Try.underlying61 Try.underlying3 (int_zero _) (key_int hw)
  rw [← at_len hat]
  exact hrun
theorem free_no {w : World} {p g bm n : Nat} {ws : List Int} {R : List (Nat × Nat)} {k : Int} (h : ArenaAt w p g bm n ws R) (hw : (Lit.int .i64 k).wf = true) (h0 : lenAt R k = 0) :
    Calls Try.prog 12 #[.pointer (some ⟨p, 0, none⟩), .int .i64 k] w fun e w' => e = .returned (.bool false) ∧ w = w' := by
  obtain ⟨c0, c1⟩ := h.cells
  have hlk := look_len h hw
  rw [h0] at hlk
  clear h h0
  go_enter Try.func12, Try.ntmps12
  go_wp2
  go_ret
  exact ⟨rfl, rfl⟩
theorem drop_length {R : List (Nat × Nat)} (k : Int) : (Arena.drop k R).length ≤ R.length := List.length_filter_le _ _
theorem free_yes {w : World} {p g bm n : Nat} {ws : List Int} {R : List (Nat × Nat)} {r : Nat × Nat} (h : ArenaAt w p g bm n ws R) (hr : r ∈ R) :
    Calls Try.prog 12 #[.pointer (some ⟨p, 0, none⟩), .int .i64 r.1] w fun e w' => e = .returned (.bool true) ∧ ArenaAt w' p g bm n ws (Arena.drop r.1 R) ∧ Turn [bm] w w' := by
  obtain ⟨h1, h2⟩ := h.good.2 r hr
  have hn := h.least
  have hw : (Lit.int .i64 (r.1 : Int)).wf = true := WalkArith.wf_i64 (by omega)
  obtain ⟨c0, c1⟩ := h.cells
  have hlk := look_len h hw
  rw [lenAt_mem h.good hr] at hlk
  have b0 : ((r.2 : Int) == 0) = false := beq_false_of_ne (by omega)
  have HM := Lib.hid h.regs
  have HA := Lib.hid h
  clear h
  go_enter Try.func12, Try.ntmps12
  go_wp2_with (at_delete; refine wpList_delete_own _ rfl _ _ 61 3 rfl 3 int_law Try.underlying61 _ bm R.length _ rfl HM.out _ _ rfl (key_int hw) ?_; intro w1 hown1 hturn1)
  go_ret
  have ht : Turn [bm] w w1 := Turn.of_grown hturn1.grown (fun b hb => .inl (by cases hb; exact .head _))
  rw [regD_del] at hown1
  obtain ⟨lp, lg, lm⟩ := HA.out.lt
  refine ⟨rfl, ⟨?_, ?_, HA.out.len, owns_size hown1, good_drop _ HA.out.good, HA.out.pg, HA.out.pm, HA.out.gm, HA.out.least⟩, ht⟩
  · rw [ht.block p lp (by simp; exact HA.out.pm)]; exact HA.out.row
  · rw [ht.block g lg (by simp; exact HA.out.gm)]; exact HA.out.words
/-- slices.Sort's two contracts at this dump, at the fence that asks nothing. -/
theorem sorts_in (m : Nat) : AnyZI.SortsIn Try.prog Try.sortedA_ren Fence.wide m :=
  ⟨fun blk off cap ss W hH hblk hsz => callsIn_wide.2 (AnyM.slices_Sort_int Try.sortA blk off cap ss W hH hblk hsz),
   fun p cap W => callsIn_wide.2 (AnyM.slices_Sort_int_none Try.sortA p cap W)⟩
set_option maxHeartbeats 2000000 in
theorem bases_is {w : World} {p g bm n : Nat} {ws : List Int} {R : List (Nat × Nat)} (h : ArenaAt w p g bm n ws R) :
    Calls Try.prog 26 #[.pointer (some ⟨p, 0, none⟩)] w fun e w' => ∃ v, e = .returned v ∧ w'.ownsRow w.heap.size 3 1 v R.length (R.map fun r => Value.int .i64 r.1) ∧ Ext w w' := by
  obtain ⟨c0, c1⟩ := h.cells
  have hown := h.regs
  have hbl := hown.lt
  have hsz : Maps.size (regD R) ≤ 20000 := by rw [regD_size]; exact Nat.le_trans (good_len h.good) h.least
  have hmax : Maps.size (regD R) ≤ maxLen := by unfold maxLen; omega
  have hbytes : Maps.size (regD R) * 8 ≤ 140737488355328 := by omega
  have HG := Lib.hid h.good
  clear h
  refine (callsIn_wide (n := 6)).1 ?_
  have hseq : SeqGives Fence.wide 2 Try.prog 34 #[.pointer (some ⟨w.heap.size, 0, none⟩)] encZ (fun ss => ss.Perm (intKeys (regD R))) (Maps.size (regD R)) (w.alloc (.cells #[.map (some bm)] 61)) :=
    AnyZI.keys_gives (ρ := Try.keysA_ren) { Try.keysA with } Fence.wide _ trivial rfl (by omega) w.heap.size bm R.length (regD R) _ (by simp) (by simp) (by
      obtain ⟨es, clock, hb, Ft, hs, hD⟩ := hown
      exact ⟨es, clock, (Below.heap_alloc _ _ bm hbl).trans hb, Ft, hs, hD⟩)
  have cK : ∀ mb W, CallsIn Fence.wide 5 Try.prog 31 #[.map mb] W fun e w' => e = .returned (.func (.func 34) #[] #[.pointer (some ⟨W.heap.size, 0, none⟩)]) ∧ w' = W.alloc (.cells #[.map mb] 61) := fun mb W => AnyZI.keys_in Try.keysA Fence.wide 5 trivial rfl mb W
  have cS := AnyZI.sorted_in Try.sortedA Fence.wide 5 trivial trivial trivial trivial rfl (by omega) (sorts_in _) (enters_of Try.func33 (by kernel_rfl) rfl) 34 #[.pointer (some ⟨w.heap.size, 0, none⟩)] trivial (enters_of Try.func34 (by kernel_rfl) rfl) _ _ hmax hbytes _ hseq
  change CallsIn _ _ Try.prog 30 _ _ _ at cS
  have hfK : Fence.wide.fn 31 := trivial
  have hfS : Fence.wide.fn 30 := trivial
  refine callsIn_of_wp Try.func26 rfl trivial ?_ rfl
  simp only [Try.ntmps26, List.size_toArray, List.length_cons, List.length_nil, Nat.reduceAdd, Nat.reduceSub, Array.replicate_succ, Array.replicate_zero, List.push_toArray, List.append_toArray, List.nil_append, List.cons_append]
  gi_wp2_with (first
    | (gi_at_call 31; refine (cK _ _).mono ?_; rintro e w' ⟨rfl, rfl⟩)
    | (gi_at_call 30; refine cS.mono ?_; rintro e w' ⟨v, ss, rfl, hS, hrow, hnil, hb⟩))
  go_ret
  have hsorted := keys_sorted HG.out hS
  have hlen : ss.length = R.length := by rw [hS.length_eq, regD_keys, List.length_map]
  rw [hsorted, List.map_map, hlen] at hrow
  exact ⟨v, rfl, ownsRow_base_a hrow (by simp), ((Below.refl _ w).alloc (Nat.le_refl _) _).trans (hb.mono (by simp))⟩
end Go.Proofs.Ytibpnhaamdelmaa
