/- A world that has grown, and turned in some of its blocks alone. -/
import Derived.Test.YtalfmlhiooaigaaExt
import Derived.Lib.BufferMore
import Derived.Maps.OwnSet
namespace Go.Proofs.Ytalfmlhiooaigaa
open Go.RowKit
/-- w' is w grown, turned at most in the blocks of a list -/
structure Turn (bs : List Nat) (w w' : World) : Prop where
  os : w'.os = w.os
  tape : w'.tape = w.tape
  output : w'.output = w.output
  size : w.heap.size ≤ w'.heap.size
  block : ∀ k, k < w.heap.size → k ∉ bs → w'.heap[k]? = w.heap[k]?
theorem Turn.refl (bs : List Nat) (w : World) : Turn bs w w := ⟨rfl, rfl, rfl, Nat.le_refl _, fun _ _ _ => rfl⟩
theorem Turn.trans {bs : List Nat} {a b c : World} (h : Turn bs a b) (k : Turn bs b c) : Turn bs a c :=
  ⟨k.os.trans h.os, k.tape.trans h.tape, k.output.trans h.output, Nat.le_trans h.size k.size, fun i hi hb => (k.block i (Nat.lt_of_lt_of_le hi h.size) hb).trans (h.block i hi hb)⟩
theorem Turn.mono {bs cs : List Nat} {w w' : World} (h : Turn bs w w') (hs : ∀ b ∈ bs, b ∈ cs) : Turn cs w w' :=
  ⟨h.os, h.tape, h.output, h.size, fun i hi hb => h.block i hi fun hm => hb (hs i hm)⟩
theorem Turn.of_ext {bs : List Nat} {w w' : World} (h : Ext w w') : Turn bs w w' := ⟨Below.os h, Below.tape h, Below.output h, Below.size h, fun i hi _ => Below.block h i hi⟩
theorem Turn.ext {w w' : World} (h : Turn [] w w') : Ext w w' := ⟨h.os, h.tape, h.output, h.size, fun i hi => h.block i hi (by simp)⟩
theorem Turn.of_grown {w w' : World} {row : Option Nat} {bs : List Nat} (h : w.grownBy w' row) (hr : ∀ b, row = some b → b ∈ bs ∨ w.heap.size ≤ b) : Turn bs w w' :=
  ⟨h.os, h.tape, h.output, h.size, fun i hi hb => h.block i hi fun e => by rcases hr i e.symm with h | h; exact hb h; omega⟩
theorem Turn.setCell {bs : List Nat} {w w' : World} (h : Turn bs w w') {a : Addr} (ha : a.block ∈ bs ∨ w.heap.size ≤ a.block) (u : Value) : Turn bs w (w'.setCell a u) := by
  refine ⟨h.os, h.tape, h.output, by simpa [World.setCell] using h.size, fun i hi hb => ?_⟩
  rw [Below.heap_setCell _ _ _ _ (by rintro rfl; rcases ha with h | h; exact hb h; omega)]
  exact h.block i hi hb
theorem Turn.below {B : Nat} {bs : List Nat} {w w' : World} (h : Turn bs w w') (hB : B ≤ w.heap.size) (hb : ∀ b ∈ bs, B ≤ b) : Below B w w' :=
  ⟨h.os, h.tape, h.output, h.size, fun i hi => h.block i (by omega) fun hm => by have := hb i hm; omega⟩
theorem Turn.cell {bs : List Nat} {w w' : World} (h : Turn bs w w') {a : Addr} {v : Value} (ha : a.block ∉ bs) (hc : w.cell? a = some v) : w'.cell? a = some v := by
  have hl : a.block < w.heap.size := by
    by_cases hl : a.block < w.heap.size
    · exact hl
    · have : w.heap[a.block]? = none := Array.getElem?_eq_none (by omega)
      simp [World.cell?, this] at hc
  rw [World.cell?_of_block (w := w) (h.block a.block hl ha)]
  exact hc
end Go.Proofs.Ytalfmlhiooaigaa
