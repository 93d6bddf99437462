/- The reference's arena in memory; what only reads it. -/
import Derived.Test.YtibpnhaamdelmaaArenaP
import Derived.Test.YtibpnhaamdelmaaPairs
import Derived.Deep.RegionHeld3
import Derived.Deep.AppendLies
import Derived.Deep.DrawnRows
namespace Go.Proofs.Ytibpnhaamdelmaa
open Go.RowKit Go.Maps Arena
set_option maxHeartbeats 4000000
set_option maxRecDepth 100000
/-- the reference's arena: its row, its words, its regions -/
structure RefAt (w : World) (q gq B n : Nat) (ws : List Int) (vR : Value) (R : List (Nat × Nat)) : Prop where
  row : w.heap[q]? = some (.cells #[.slice (some ⟨gq, 0, none⟩) n n, vR] 51 (0, 0))
  words : w.heap[gq]? = some (.cells (ws.map fun x => Value.int .u64 x).toArray 29 (0, 0))
  len : ws.length = n
  regs : PairRow w B vR R
  good : Arena.Good n R
  ne : q ≠ gq
  qB : q < B
  gB : gq < B
  least : n ≤ 20000
theorem RefAt.lt {w : World} {q gq B n : Nat} {ws : List Int} {vR : Value} {R : List (Nat × Nat)} (h : RefAt w q gq B n ws vR R) : q < w.heap.size ∧ gq < w.heap.size :=
  ⟨(Array.getElem?_eq_some_iff.1 h.row).1, (Array.getElem?_eq_some_iff.1 h.words).1⟩
theorem RefAt.turn {w w' : World} {q gq B n : Nat} {ws : List Int} {vR : Value} {R : List (Nat × Nat)} {bs : List Nat} (h : RefAt w q gq B n ws vR R) (t : Turn bs w w') (hq : q ∉ bs) (hg : gq ∉ bs) (hb : ∀ b ∈ bs, b < B) : RefAt w' q gq B n ws vR R := by
  obtain ⟨lq, lg⟩ := h.lt
  exact ⟨by rw [t.block q lq hq]; exact h.row, by rw [t.block gq lg hg]; exact h.words, h.len, h.regs.turn t hb, h.good, h.ne, h.qB, h.gB, h.least⟩
theorem RefAt.ext {w w' : World} {q gq B n : Nat} {ws : List Int} {vR : Value} {R : List (Nat × Nat)} (h : RefAt w q gq B n ws vR R) (e : Ext w w') : RefAt w' q gq B n ws vR R :=
  h.turn (Turn.of_ext (bs := []) e) (by simp) (by simp) (by simp)
theorem RefAt.cells {w : World} {q gq B n : Nat} {ws : List Int} {vR : Value} {R : List (Nat × Nat)} (h : RefAt w q gq B n ws vR R) :
    w.cell? ⟨q, 0, none⟩ = some (.slice (some ⟨gq, 0, none⟩) n n) ∧ w.cell? ⟨q, 1, none⟩ = some vR ∧ w.frozen? ⟨q, 1, none⟩ = false := by
  refine ⟨?_, ?_, ?_⟩
  · simp [World.cell?, h.row]
  · simp [World.cell?, h.row]
  · simp [World.frozen?, h.row]
theorem RefAt.word {w : World} {q gq B n : Nat} {ws : List Int} {vR : Value} {R : List (Nat × Nat)} (h : RefAt w q gq B n ws vR R) {i : Nat} (hi : i < n) : w.cell? ⟨gq, i, none⟩ = some (.int .u64 (ws.getD i 0)) ∧ w.frozen? ⟨gq, i, none⟩ = false := by
  have hl : i < ws.length := by rw [h.len]; exact hi
  constructor
  · simp [World.cell?, h.words, hl]
  · simp [World.frozen?, h.words]
theorem lenAt_zero {n : Nat} {R : List (Nat × Nat)} {k : Int} (hg : Arena.Good n R) (h0 : lenAt R k = 0) : ∀ r ∈ R, (r.1 : Int) ≠ k := by
  intro r hr e
  subst e
  have h1 := lenAt_mem hg hr
  have h2 := (hg.2 r hr).1
  omega
theorem find_yes {w : World} {q gq B n : Nat} {ws : List Int} {vR : Value} {R : List (Nat × Nat)} (h : RefAt w q gq B n ws vR R) {i : Nat} (hi : i < R.length) :
    Calls Try.prog 27 #[.pointer (some ⟨q, 0, none⟩), .int .i64 R[i].1] w fun e w' => e = .returned (.int .i64 i) ∧ w = w' := by
  obtain ⟨qa, ca, rfl, la1, la2, hca⟩ := h.regs.sl
  obtain ⟨c0, c1, _⟩ := h.cells
  have hg := h.good
  have HG := Lib.hid hg
  have HA := Lib.hid hca
  have hrl := good_len hg
  have hn := h.least
  unfold maxLen at la2
  have HI := Lib.hid (show R[i] = R[i] from rfl)
  generalize hx : R[i] = x at HI ⊢
  have HX := Lib.hid hx
  clear hca h hg hx HI
  go_enter Try.func27, Try.ntmps27
  go_wp2
  go_loop [5] (fun j => ∃ k : Nat, k ≤ i ∧ j = .int .i64 k) (fun j => R.length - (Go.RowKit.intOf j).toNat)
  case atStart => exact ⟨0, by omega, rfl⟩
  case round =>
    obtain ⟨k, hk, rfl⟩ := hrel
    have i1 : (k : Int) < (R.length : Int) := by omega
    obtain ⟨b, off, rfl, p0, p1⟩ := HA.out k _ (List.getElem?_eq_getElem (by omega))
    by_cases hlt : k < i
    · have hne := good_ne HG.out hlt hi
      have hp := (HG.out.2 R[k] (List.getElem_mem (by omega))).1
      rw [HX.out] at hne
      have bne : ((R[k].1 : Int) == (x.1 : Int)) = false := beq_false_of_ne (by omega)
      clear hne hp p1
      generalize R[k] = y at *
      go_wp2
      go_round
      case rel => exact ⟨k + 1, by omega, by go_num⟩
      case measure => simp [Go.RowKit.intOf]; omega
    · obtain rfl : k = i := by omega
      rw [HX.out] at p0
      clear p1
      go_wp2
      go_ret
      exact ⟨rfl, rfl⟩
theorem find_no {w : World} {q gq B n : Nat} {ws : List Int} {vR : Value} {R : List (Nat × Nat)} {x : Int} (h : RefAt w q gq B n ws vR R) (h0 : lenAt R x = 0) :
    Calls Try.prog 27 #[.pointer (some ⟨q, 0, none⟩), .int .i64 x] w fun e w' => e = .returned (.int .i64 (-1)) ∧ w = w' := by
  obtain ⟨qa, ca, rfl, la1, la2, hca⟩ := h.regs.sl
  obtain ⟨c0, c1, _⟩ := h.cells
  have hg := h.good
  have HZ := Lib.hid (lenAt_zero hg h0)
  have HA := Lib.hid hca
  have hrl := good_len hg
  have hn := h.least
  unfold maxLen at la2
  clear hca h hg h0
  go_enter Try.func27, Try.ntmps27
  go_wp2
  go_loop [5] (fun j => ∃ k : Nat, k ≤ R.length ∧ j = .int .i64 k) (fun j => R.length - (Go.RowKit.intOf j).toNat)
  case atStart => exact ⟨0, by omega, rfl⟩
  case round =>
    obtain ⟨k, hk, rfl⟩ := hrel
    by_cases hlt : k < R.length
    · have i1 : (k : Int) < (R.length : Int) := by omega
      obtain ⟨b, off, rfl, p0, p1⟩ := HA.out k _ (List.getElem?_eq_getElem hlt)
      have bne : ((R[k].1 : Int) == x) = false := beq_false_of_ne (HZ.out _ (List.getElem_mem hlt))
      clear p1
      generalize R[k] = y at *
      go_wp2
      go_round
      case rel => exact ⟨k + 1, by omega, by go_num⟩
      case measure => simp [Go.RowKit.intOf]; omega
    · obtain rfl : k = R.length := by omega
      go_wp2
      go_ret
      exact ⟨rfl, rfl⟩
theorem size_yes {w : World} {q gq B n : Nat} {ws : List Int} {vR : Value} {R : List (Nat × Nat)} (h : RefAt w q gq B n ws vR R) {r : Nat × Nat} (hr : r ∈ R) :
    Calls Try.prog 19 #[.pointer (some ⟨q, 0, none⟩), .int .i64 r.1] w fun e w' => e = .returned (.int .i64 r.2) ∧ w = w' := by
  obtain ⟨i, hi, rfl⟩ := List.getElem_of_mem hr
  have HF := Lib.hid (find_yes h hi)
  obtain ⟨qa, ca, rfl, la1, la2, hca⟩ := h.regs.sl
  obtain ⟨c0, c1, _⟩ := h.cells
  have hrl := good_len h.good
  have hn := h.least
  obtain ⟨b, off, rfl, p0, p1⟩ := hca i _ (List.getElem?_eq_getElem hi)
  unfold maxLen at la2
  have i1 : (i : Int) < (R.length : Int) := by omega
  clear hca h p0 hr
  generalize R[i] = y at *
  go_enter Try.func19, Try.ntmps19
  go_wp2_with fail
  refine HF.out.mono ?_; rintro e w' ⟨rfl, rfl⟩
  go_wp2
  go_ret
  exact ⟨rfl, rfl⟩
theorem size_no {w : World} {q gq B n : Nat} {ws : List Int} {vR : Value} {R : List (Nat × Nat)} {x : Int} (h : RefAt w q gq B n ws vR R) (h0 : lenAt R x = 0) :
    Calls Try.prog 19 #[.pointer (some ⟨q, 0, none⟩), .int .i64 x] w fun e w' => e = .returned (.int .i64 (-1)) ∧ w = w' := by
  have HF := Lib.hid (find_no h h0)
  clear h h0
  go_enter Try.func19, Try.ntmps19
  go_wp2_with fail
  refine HF.out.mono ?_; rintro e w' ⟨rfl, rfl⟩
  go_wp2
  go_ret
  exact ⟨rfl, rfl⟩
theorem refwords_yes {w : World} {q gq B n : Nat} {ws : List Int} {vR : Value} {R : List (Nat × Nat)} (h : RefAt w q gq B n ws vR R) {r : Nat × Nat} (hr : r ∈ R) :
    Calls Try.prog 21 #[.pointer (some ⟨q, 0, none⟩), .int .i64 r.1] w fun e w' => e = .returned (.slice (some ⟨gq, r.1, none⟩) r.2 (n - r.1)) ∧ w = w' := by
  have HF := Lib.hid (size_yes h hr)
  obtain ⟨c0, c1, _⟩ := h.cells
  have hn := h.least
  obtain ⟨h1, h2⟩ := h.good.2 r hr
  clear h hr
  have g1 : ((r.1 : Int) + (r.2 : Int)) ≤ (n : Int) := by omega
  go_enter Try.func21, Try.ntmps21
  go_wp2_with fail
  refine HF.out.mono ?_; rintro e w' ⟨rfl, rfl⟩
  go_wp2
  go_ret
  refine ⟨?_, rfl⟩
  have e1 : r.1 + r.2 - r.1 = r.2 := by omega
  simp [e1]
theorem refwords_no {w : World} {q gq B n : Nat} {ws : List Int} {vR : Value} {R : List (Nat × Nat)} {x : Int} (h : RefAt w q gq B n ws vR R) (h0 : lenAt R x = 0) :
    Calls Try.prog 21 #[.pointer (some ⟨q, 0, none⟩), .int .i64 x] w fun e w' => e = .returned (.slice none 0 0) ∧ w = w' := by
  have HF := Lib.hid (size_no h h0)
  clear h h0
  go_enter Try.func21, Try.ntmps21
  go_wp2_with fail
  refine HF.out.mono ?_; rintro e w' ⟨rfl, rfl⟩
  go_wp2
  go_ret
  exact ⟨rfl, rfl⟩
end Go.Proofs.Ytibpnhaamdelmaa
