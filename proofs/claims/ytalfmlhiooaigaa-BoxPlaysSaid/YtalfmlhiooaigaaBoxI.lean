/- A box: as it lies; a new one; how many messages, how many words. -/
import Derived.Test.YtalfmlhiooaigaaBoxH
import Derived.Test.YtalfmlhiooaigaaRest
import Derived.Conc.SmallLaws
namespace Go.Proofs.Ytalfmlhiooaigaa
open Go.RowKit
set_option maxHeartbeats 4000000
set_option maxRecDepth 100000
def bsum (L : List (Value × List Cl)) : Nat := (L.map fun x => wsum x.2).sum
/-- a box (its block g, its channel's c) of at most cap messages, most words -/
structure BoxAt (w : World) (g c cap most : Nat) (L : List (Value × List Cl)) : Prop where
  ne : c < g
  blk : w.heap[g]? = some (.cells #[.chan (some c), .int .i64 (bsum L : Nat), .int .i64 most] 46 (0, 0))
  chn : ∃ s r, w.heap[c]? = some (.chan cap (L.map Prod.fst).toArray false s r false)
  its : ∀ x ∈ L, goodM x.2 = true ∧ OwnP w (g + 1) 41 x.1 4 (x.2.map celC)
  len : L.length ≤ cap
  cap8 : cap ≤ 8
  sum : bsum L ≤ most
  most2 : most ≤ 2000
theorem BoxAt.turn {w w' : World} {g c cap most : Nat} {L : List (Value × List Cl)} {bs : List Nat} (h : BoxAt w g c cap most L) (t : Turn bs w w') (hg : g ∉ bs) (hc : c ∉ bs) (hb : ∀ x ∈ L, ∀ b, x.1.ownBlock = some b → b ∉ bs) : BoxAt w' g c cap most L := by
  have hlg : g < w.heap.size := (Array.getElem?_eq_some_iff.1 h.blk).1
  obtain ⟨s, r, hch⟩ := h.chn
  exact ⟨h.ne, (t.block g hlg hg).trans h.blk, ⟨s, r, (t.block c (by have := h.ne; omega) hc).trans hch⟩, fun x hx => ⟨(h.its x hx).1, (h.its x hx).2.turn t (hb x hx)⟩, h.len, h.cap8, h.sum, h.most2⟩
theorem BoxAt.ext {w w' : World} {g c cap most : Nat} {L : List (Value × List Cl)} (h : BoxAt w g c cap most L) (t : Ext w w') : BoxAt w' g c cap most L :=
  h.turn (bs := []) (Turn.of_ext t) (by simp) (by simp) (fun _ _ _ _ => by simp)
theorem BoxAt.cells {w : World} {g c cap most : Nat} {L : List (Value × List Cl)} (h : BoxAt w g c cap most L) : w.cell? ⟨g, 0, none⟩ = some (.chan (some c)) ∧ w.cell? ⟨g, 1, none⟩ = some (.int .i64 (bsum L : Nat)) ∧ w.cell? ⟨g, 2, none⟩ = some (.int .i64 most) ∧ w.frozen? ⟨g, 1, none⟩ = false := by
  have hb := h.blk
  refine ⟨by simp [World.cell?, hb], by simp [World.cell?, hb], by simp [World.cell?, hb], by simp [World.frozen?, hb]⟩
theorem mk_chan (k : Nat) (hk : k ≤ 8) (W : World) : (Instr.makeChan 44 (.int .i64 k)).run Try.prog W = .ok (.chan (some W.heap.size)) (W.alloc (.chan k #[] false 0 0 false)) := by
  obtain ⟨i, hi, hb⟩ : ∃ i, Try.prog.info? 29 = some i ∧ i.bytes = 24 := by
    have := (show (Try.prog.info? 29).map (·.bytes) = some 24 by kernel_rfl)
    obtain ⟨i, hi, hb⟩ := Option.map_eq_some_iff.1 this
    exact ⟨i, hi, hb⟩
  exact Go.Conc.run_makeChan (P := Try.prog) (w := W) Try.underlying44 hi .i64 k (by omega) (by rw [hb]; omega)
theorem new_yes (k n : Nat) (hk : 1 ≤ k) (hk2 : k ≤ 8) (hn : n ≤ 2000) (w : World) : Calls Try.prog 6 #[.int .i64 k, .int .i64 n] w fun e w' => e = .returned (.tuple #[.pointer (some ⟨w.heap.size + 1, 0, none⟩), .bool true]) ∧ BoxAt w' (w.heap.size + 1) w.heap.size k n [] ∧ Ext w w' := by
  have b1 : decide ((k : Int) < 1) = false := decide_eq_false (by omega)
  have b2 : decide (8 < (k : Int)) = false := decide_eq_false (by omega)
  have b3 : decide ((n : Int) < 0) = false := decide_eq_false (by omega)
  have b4 : decide (2000 < (n : Int)) = false := decide_eq_false (by omega)
  have hm := mk_chan k hk2
  go_enter Try.func6, Try.ntmps6
  go_wp2
  go_ret2
  refine ⟨rfl, ⟨by omega, new_block (by simp), ⟨0, 0, (Below.block (Ext.alloc _ _) _ (by simp)).trans (heap_alloc_new _ _)⟩, by simp, by simp, hk2, by simp [bsum], hn⟩, (Ext.alloc _ _).trans (Ext.alloc _ _)⟩
theorem new_no (k n : Int) (h : ¬ (1 ≤ k ∧ k ≤ 8 ∧ 0 ≤ n ∧ n ≤ 2000)) (w : World) : Calls Try.prog 6 #[.int .i64 k, .int .i64 n] w fun e w' => e = .returned (.tuple #[.pointer none, .bool false]) ∧ w' = w := by
  by_cases h1 : 1 ≤ k
  · have b1 : decide (k < 1) = false := decide_eq_false (by omega)
    by_cases h2 : k ≤ 8
    · have b2 : decide (8 < k) = false := decide_eq_false (by omega)
      by_cases h3 : 0 ≤ n
      · have b3 : decide (n < 0) = false := decide_eq_false (by omega)
        have b4 : decide (2000 < n) = true := decide_eq_true (by omega)
        clear h h1 h2 h3
        go_enter Try.func6, Try.ntmps6
        go_wp2
        go_ret2
        exact ⟨rfl, rfl⟩
      · have b3 : decide (n < 0) = true := decide_eq_true (by omega)
        clear h h1 h2 h3
        go_enter Try.func6, Try.ntmps6
        go_wp2
        go_ret2
        exact ⟨rfl, rfl⟩
    · have b2 : decide (8 < k) = true := decide_eq_true (by omega)
      clear h h1 h2
      go_enter Try.func6, Try.ntmps6
      go_wp2
      go_ret2
      exact ⟨rfl, rfl⟩
  · have b1 : decide (k < 1) = true := decide_eq_true (by omega)
    clear h h1
    go_enter Try.func6, Try.ntmps6
    go_wp2
    go_ret2
    exact ⟨rfl, rfl⟩
theorem len_nil (w : World) : Calls Try.prog 15 #[.pointer none] w fun e w' => e = .returned (.int .i64 0) ∧ w' = w := by
  go_enter Try.func15, Try.ntmps15
  go_wp2
  go_ret
  exact ⟨rfl, rfl⟩
theorem len_box {w : World} {g c cap most : Nat} {L : List (Value × List Cl)} (h : BoxAt w g c cap most L) : Calls Try.prog 15 #[.pointer (some ⟨g, 0, none⟩)] w fun e w' => e = .returned (.int .i64 L.length) ∧ w' = w := by
  obtain ⟨y0, _, _, _⟩ := h.cells
  obtain ⟨s, r, hch⟩ := h.chn
  have hlen := Go.Conc.run_len_chan (P := Try.prog) (w := w) 44 3 Try.underlying44 hch
  rw [List.size_toArray, List.length_map] at hlen
  go_enter Try.func15, Try.ntmps15
  go_wp2
  go_ret
  exact ⟨rfl, rfl⟩
theorem words_box {w : World} {g c cap most : Nat} {L : List (Value × List Cl)} (h : BoxAt w g c cap most L) : Calls Try.prog 16 #[.pointer (some ⟨g, 0, none⟩)] w fun e w' => e = .returned (.int .i64 (bsum L : Nat)) ∧ w' = w := by
  obtain ⟨_, y1, _, _⟩ := h.cells
  go_enter Try.func16, Try.ntmps16
  go_wp2
  go_ret
  exact ⟨rfl, rfl⟩
end Go.Proofs.Ytalfmlhiooaigaa
