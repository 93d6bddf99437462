/- Entries compared; a pile's row in memory. -/
import Derived.Test.YtgapjglijpdkmaaHeapP
import Derived.Test.YtgapjglijpdkmaaPairsI
import Derived.Test.YtgapjglijpdkmaaShelf
import Derived.Test.YtgapjglijpdkmaaLast
import Derived.Deep.RegionHeld3
import Derived.Deep.DrawnRows
namespace Go.Proofs.Ytgapjglijpdkmaa
open Go.RowKit Go.Maps Heap Go.Sort
set_option maxHeartbeats 4000000
set_option maxRecDepth 100000
attribute [local go_sem ↓] Go.wp_at_zero Go.wp_at_succ
/-- how two entries compare -/
def cf (a b : Ent) : Int := if Lib.compareInt a.2 b.2 = 0 then Lib.compareInt a.1 b.1 else Lib.compareInt a.2 b.2
theorem cf_lt (a b : Ent) : cf a b < 0 ↔ lt a b := by
  unfold cf lt Lib.compareInt
  by_cases h1 : a.2 < b.2
  · simp [h1]
  · by_cases h2 : b.2 < a.2
    · simp [h1, h2]; omega
    · have e : a.2 = b.2 := by omega
      by_cases h3 : a.1 < b.1
      · simp [h3, e]
      · by_cases h4 : b.1 < a.1 <;> simp [h3, h4, e]
/-- the first of two that is not 0 -/
def orI (x y : Int) : Int := if x = 0 then y else x
theorem new_cell (W : World) (cs : Array Value) (T : TypeId) {i : Nat} {u : Value} (h : cs[i]? = some u) : (W.alloc (.cells cs T)).drew.cell? ⟨W.heap.size, i, none⟩ = some u := by
  have hb : (W.alloc (.cells cs T)).drew.heap[W.heap.size]? = some (.cells cs T) := heap_alloc_new W _
  simp only [World.cell?, hb]
  exact h
theorem or_is {w : World} {b : Nat} {x y : Int} (hx : w.cell? ⟨b, 0, none⟩ = some (.int .i64 x)) (hy : w.cell? ⟨b, 1, none⟩ = some (.int .i64 y)) :
    Calls Try.prog 49 #[.slice (some ⟨b, 0, none⟩) 2 2] w fun e w' => e = .returned (.int .i64 (orI x y)) ∧ w = w' := by
  by_cases h0 : x = 0
  · by_cases h1 : y = 0
    · have t0 : (x != 0) = false := by simp [h0]
      have t1 : (y != 0) = false := by simp [h1]
      have HR := Lib.hid (show orI x y = 0 by simp [orI, h0, h1])
      clear h0 h1
      go_enter Try.func49, Try.ntmps49
      go_wp2
      go_loop [5, 8] (fun s i => i = .int .i64 0 ∨ i = .int .i64 1 ∨ i = .int .i64 2) (fun _ i => 2 - (Go.RowKit.intOf i).toNat)
      case atStart => exact .inl rfl
      case round =>
        rcases hrel with rfl | rfl | rfl
        · go_wp2
          go_round
          case rel => exact .inr (.inl rfl)
          case measure => simp [Go.RowKit.intOf]
        · go_wp2
          go_round
          case rel => exact .inr (.inr rfl)
          case measure => simp [Go.RowKit.intOf]
        · go_wp2
          go_ret
          exact ⟨by rw [HR.out]; rfl, rfl⟩
    · have t0 : (x != 0) = false := by simp [h0]
      have t1 : (y != 0) = true := by simpa using h1
      have HR := Lib.hid (show orI x y = y by simp [orI, h0])
      clear h0 h1
      go_enter Try.func49, Try.ntmps49
      go_wp2
      go_loop [5, 8] (fun s i => i = .int .i64 0 ∨ i = .int .i64 1) (fun _ i => 2 - (Go.RowKit.intOf i).toNat)
      case atStart => exact .inl rfl
      case round =>
        rcases hrel with rfl | rfl
        · go_wp2
          go_round
          case rel => exact .inr rfl
          case measure => simp [Go.RowKit.intOf]
        · go_wp2
          go_ret
          exact ⟨by rw [HR.out]; rfl, rfl⟩
  · have t0 : (x != 0) = true := by simpa using h0
    have HR := Lib.hid (show orI x y = x by simp [orI, h0])
    clear h0
    go_enter Try.func49, Try.ntmps49
    go_wp2
    go_loop [5, 8] (fun s i => i = .int .i64 0) (fun _ i => 2 - (Go.RowKit.intOf i).toNat)
    case atStart => rfl
    case round =>
      obtain rfl := hrel
      go_wp2
      go_ret
      exact ⟨by rw [HR.out]; rfl, rfl⟩
theorem compare_is (a b : Ent) (w : World) : Calls Try.prog 44 #[.agg #[.int .i64 a.1, .int .i64 a.2], .agg #[.int .i64 b.1, .int .i64 b.2]] w fun e w' => e = .returned (.int .i64 (cf a b)) ∧ ∃ q os', w' = grow (w.drewN q) os' := by
  have hcon := fun x y W' => AnyG.cmp_Compare_int Try.cmpA x y W'
  change ∀ x y W', Calls Try.prog 50 _ _ _ at hcon
  have HC := Lib.hid hcon
  clear hcon
  have HO := Lib.hid (fun (W : World) (x y : Int) => or_is (w := (W.alloc (.cells #[.int .i64 x, .int .i64 y] 3)).drew) (b := W.heap.size) (x := x) (y := y) (new_cell _ _ _ rfl) (new_cell _ _ _ rfl))
  have HF := Lib.hid (show orI (Lib.compareInt a.2 b.2) (Lib.compareInt a.1 b.1) = cf a b from rfl)
  go_enter Try.func44, Try.ntmps44
  go_wp2
  have hA : ((w.alloc (.cells #[.int .i64 a.1, .int .i64 a.2] 56)).alloc (.cells #[.int .i64 b.1, .int .i64 b.2] 56)).heap[w.heap.size]? = some (.cells #[.int .i64 a.1, .int .i64 a.2] 56) := by
    rw [Below.block (Below.alloc (B := w.heap.size + 1) (Below.refl _ _) (by simp) _) w.heap.size (by omega), heap_alloc_new]
  have hB := heap_alloc_new (w.alloc (.cells #[.int .i64 a.1, .int .i64 a.2] 56)) (.cells #[.int .i64 b.1, .int .i64 b.2] 56)
  rw [show (w.alloc (.cells #[.int .i64 a.1, .int .i64 a.2] 56)).heap.size = w.heap.size + 1 by simp] at hB
  have hG : (w.alloc (.cells #[.int .i64 a.1, .int .i64 a.2] 56)).alloc (.cells #[.int .i64 b.1, .int .i64 b.2] 56) = grow w #[.cells #[.int .i64 a.1, .int .i64 a.2] 56, .cells #[.int .i64 b.1, .int .i64 b.2] 56] := by rw [alloc_eq_grow, alloc_eq_grow, grow_grow]; rfl
  have HG := Lib.hid hG
  have hsz : ((w.alloc (.cells #[.int .i64 a.1, .int .i64 a.2] 56)).alloc (.cells #[.int .i64 b.1, .int .i64 b.2] 56)).heap.size = w.heap.size + 1 + 1 := by simp
  have HSZ := Lib.hid hsz
  clear hG hsz
  generalize (w.alloc (.cells #[.int .i64 a.1, .int .i64 a.2] 56)).alloc (.cells #[.int .i64 b.1, .int .i64 b.2] 56) = W at *
  have A0 : W.cell? ⟨w.heap.size, 0, none⟩ = some (.int .i64 a.1) := by simp [World.cell?, hA]
  have A1 : W.cell? ⟨w.heap.size, 1, none⟩ = some (.int .i64 a.2) := by simp [World.cell?, hA]
  have B0 : W.cell? ⟨w.heap.size + 1, 0, none⟩ = some (.int .i64 b.1) := by simp [World.cell?, hB]
  have B1 : W.cell? ⟨w.heap.size + 1, 1, none⟩ = some (.int .i64 b.2) := by simp [World.cell?, hB]
  clear hA hB
  go_region_held3 (fun w' => w'.cell? ⟨w.heap.size, 0, none⟩ = some (.int .i64 a.1) ∧ w'.cell? ⟨w.heap.size, 1, none⟩ = some (.int .i64 a.2) ∧ w'.cell? ⟨w.heap.size + 1, 0, none⟩ = some (.int .i64 b.1) ∧ w'.cell? ⟨w.heap.size + 1, 1, none⟩ = some (.int .i64 b.2))
    (go_keep)
    (first
      | (go_at_call 50; refine (HC.out _ _ _).mono ?_; rintro e w' ⟨rfl, rfl⟩)
      | (go_at_call 49; refine (HO.out _ _ _).mono ?_; rintro e w' ⟨rfl, rfl⟩))
  go_wp2
  go_ret
  refine ⟨by rw [← HF.out]; rfl, 1, #[.cells #[.int .i64 a.1, .int .i64 a.2] 56, .cells #[.int .i64 b.1, .int .i64 b.2] 56, .cells #[.int .i64 (Lib.compareInt a.2 b.2), .int .i64 (Lib.compareInt a.1 b.1)] 3], ?_⟩
  rw [HG.out, alloc_eq_grow, grow_grow]
  rfl
/-- two cells an entry -/
def entC (e : Ent) : List Value := [.int .i64 e.1, .int .i64 e.2]
theorem entC_length (L : List Ent) : (L.flatMap entC).length = L.length * 2 := by
  induction L with
  | nil => rfl
  | cons x L ih => rw [List.flatMap_cons, List.length_append, ih]; simp [entC]; omega
theorem entC_at : ∀ (L : List Ent) (i : Nat), i < L.length → (L.flatMap entC)[i * 2]? = some (.int .i64 (nth L i).1) ∧ (L.flatMap entC)[i * 2 + 1]? = some (.int .i64 (nth L i).2) := by
  intro L
  induction L with
  | nil => intro i h; simp at h
  | cons y L ih =>
    intro i h
    rw [List.flatMap_cons]
    cases i with
    | zero => exact ⟨rfl, rfl⟩
    | succ i =>
      have h2 := ih i (by simpa using h)
      rw [show (i + 1) * 2 = (entC y).length + i * 2 by simp [entC]; omega, show (entC y).length + i * 2 + 1 = (entC y).length + (i * 2 + 1) by omega, List.getElem?_append_right (by omega), List.getElem?_append_right (by omega)]
      simpa [nth] using h2
theorem entC_set (L : List Ent) (i : Nat) (e : Ent) : ((L.flatMap entC).set (i * 2) (.int .i64 e.1)).set (i * 2 + 1) (.int .i64 e.2) = (L.set i e).flatMap entC := by
  induction L generalizing i with
  | nil => simp
  | cons y L ih =>
    cases i with
    | zero => rfl
    | succ i =>
      rw [List.set_cons_succ, List.flatMap_cons, List.flatMap_cons, ← ih i]
      have e1 : (i + 1) * 2 = i * 2 + 1 + 1 := by omega
      rw [e1]
      rfl
/-- a row of entries that the call owns -/
def EntRow (w : World) (B : Nat) (v : Value) (L : List Ent) : Prop := w.ownsRow B 56 2 v L.length (L.flatMap entC)
theorem EntRow.form {w : World} {B : Nat} {v : Value} {L : List Ent} (h : EntRow w B v L) (hl : 0 < L.length) : ∃ b c, v = .slice (some ⟨b, 0, none⟩) L.length c ∧ B ≤ b ∧ b < w.heap.size ∧ L.length ≤ c ∧ c ≤ maxLen := by
  rcases h.2 with ⟨h1, h2⟩ | ⟨b, c, cur, h1, hb, hg, h2, h3, h4, h5⟩
  · omega
  · exact ⟨b, c, h1, hb, (Array.getElem?_eq_some_iff.1 hg).1, h2, h3⟩
theorem EntRow.cells {w : World} {B b c i : Nat} {L : List Ent} (h : EntRow w B (.slice (some ⟨b, 0, none⟩) L.length c) L) (hi : i < L.length) :
    w.cell? ⟨b, i * 2, none⟩ = some (.int .i64 (nth L i).1) ∧ w.cell? ⟨b, i * 2 + 1, none⟩ = some (.int .i64 (nth L i).2) ∧ w.frozen? ⟨b, i * 2, none⟩ = false ∧ w.frozen? ⟨b, i * 2 + 1, none⟩ = false := by
  obtain ⟨h1, h2⟩ := entC_at L i hi
  exact ⟨(World.ownsRow.cellAt h (i * 2) (by omega)).trans h1, (World.ownsRow.cellAt h (i * 2 + 1) (by omega)).trans h2, World.ownsRow.frozenAt h _, World.ownsRow.frozenAt h _⟩
theorem EntRow.turn {w w' : World} {B : Nat} {bs : List Nat} {v : Value} {L : List Ent} (h : EntRow w B v L) (t : Turn bs w w') (hb : ∀ b, v.ownBlock = some b → b ∉ bs) : EntRow w' B v L := by
  refine ⟨h.1, ?_⟩
  rcases h.2 with h1 | ⟨g, cap, cur, h1, hb1, hg, h2⟩
  · exact .inl h1
  · exact .inr ⟨g, cap, cur, h1, hb1, by rw [t.block g (Array.getElem?_eq_some_iff.1 hg).1 (hb g (by rw [h1]; rfl))]; exact hg, h2⟩
theorem EntRow.store {w : World} {B b c i : Nat} {L : List Ent} (h : EntRow w B (.slice (some ⟨b, 0, none⟩) L.length c) L) (e : Ent) :
    EntRow ((w.setCell ⟨b, i * 2, none⟩ (.int .i64 e.1)).setCell ⟨b, i * 2 + 1, none⟩ (.int .i64 e.2)) B (.slice (some ⟨b, 0, none⟩) L.length c) (L.set i e) ∧ Turn [b] w ((w.setCell ⟨b, i * 2, none⟩ (.int .i64 e.1)).setCell ⟨b, i * 2 + 1, none⟩ (.int .i64 e.2)) := by
  have h1 := (World.ownsRow.stored h (i * 2) (.int .i64 e.1)).1
  have h2 := (World.ownsRow.stored h1 (i * 2 + 1) (.int .i64 e.2)).1
  refine ⟨?_, ((Turn.refl _ _).setCell (.inl (by simp)) _).setCell (.inl (by simp)) _⟩
  unfold EntRow
  rw [List.length_set, ← entC_set]
  exact h2
end Go.Proofs.Ytgapjglijpdkmaa
