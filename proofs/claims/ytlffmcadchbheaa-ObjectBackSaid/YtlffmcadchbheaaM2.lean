/- Proved here: the contracts and laws of RefaC, Shelf, ArenaW, ArenaC, ArenaD, ArenaX, Args, RowsIn, ArenaT of this claim, each beneath its own remark; conditions: those that each theorem names. -/
import Derived.Test.YtlffmcadchbheaaM1
import Derived.Test.YtlffmcadchbheaaProg
import Derived.Shelf.SlIterI.Nil
import Derived.Shelf.SortM.Plain
import Derived.Shelf.SortM.SortNone
import Derived.Shelf.SlicesE.Clone
import Derived.Ground.GgzProg
import Derived.Ground.SlgmProg
import Derived.Ground.SlgnProg
import Derived.Shelf.AbstractIn
import Derived.Maps.OwnOps
import Derived.Lib.SliceRun
import Derived.Deep.OwnRows
import Derived.ProofKit
import Derived.OpenShut
import Derived.Deep.DeepHandedRow
import Derived.SizedLaws
import Derived.Deep.Slices
import Derived.Deep.AppendLies
import Derived.Deep.CutBlock
/- The reference's arena: what makes its regions anew. -/
namespace Go.Proofs.Ytlffmcadchbheaa
open Go.RowKit Go.Maps Arena
set_option maxHeartbeats 4000000
set_option maxRecDepth 100000
attribute [local go_sem ↓] Go.wp_at_zero Go.wp_at_succ
/-- the rest of a row without one of its places -/
theorem drop_at {n : Nat} {R : List (Nat × Nat)} (hg : Arena.Good n R) {i : Nat} (hi : i < R.length) : R.take i ++ R.drop (i + 1) = Arena.drop (R[i].1 : Int) R := by
  have h1 : Arena.drop (R[i].1 : Int) (R.take i ++ R[i] :: R.drop (i + 1)) = R.take i ++ R.drop (i + 1) := by
    unfold Arena.drop
    rw [List.filter_append, List.filter_cons]
    simp only [decide_true, Bool.not_true, Bool.false_eq_true, if_false]
    congr 1
    · refine List.filter_eq_self.2 fun r hr => ?_
      obtain ⟨j, hj, rfl⟩ := List.getElem_of_mem hr
      rw [List.length_take] at hj
      have := good_ne hg (i := j) (j := i) (by omega) hi
      have := (hg.2 R[j] (List.getElem_mem (by omega))).1
      simp only [List.getElem_take, Bool.not_eq_true', decide_eq_false_iff_not]
      omega
    · refine List.filter_eq_self.2 fun r hr => ?_
      obtain ⟨j, hj, rfl⟩ := List.getElem_of_mem hr
      rw [List.length_drop] at hj
      have := good_ne hg (i := i) (j := i + 1 + j) (by omega) (by omega)
      have := (hg.2 R[i] (List.getElem_mem (by omega))).1
      simp only [List.getElem_drop, Bool.not_eq_true', decide_eq_false_iff_not]
      omega
  rw [← h1, List.getElem_cons_drop, List.take_append_drop]
theorem RefAt.newRegs {w w' : World} {q gq B n : Nat} {ws : List Int} {vR v : Value} {R R' : List (Nat × Nat)} (h : RefAt w q gq B n ws vR R) (e : Ext w w') (hB : B ≤ w.heap.size) (hv : PairRow w' w.heap.size v R') (hg : Arena.Good n R') :
    RefAt (w'.setCell ⟨q, 1, none⟩ v) q gq B n ws v R' := by
  have hlt := h.lt
  have t : Turn [q] w' (w'.setCell ⟨q, 1, none⟩ v) := (Turn.refl _ _).setCell (.inl (by simp)) _
  have h2 := h.ext e
  obtain ⟨lq, lg⟩ := h2.lt
  refine ⟨?_, by rw [t.block gq lg (by simp; exact fun e => h.ne e.symm)]; exact h2.words, h.len, (hv.turn t (by simp; omega)).mono hB, hg, h.ne, h.qB, h.gB, h.least⟩
  rw [heap_setCell_same w' q 1 _ _ _ h2.row]
  rfl
end Go.Proofs.Ytlffmcadchbheaa
/-
  DERIVED: THE SHELF's CONTRACTS AT THIS DUMP, IN PLAIN WORDS (tools/lay-plain.mjs out of 'TryShelf.lean', which tools/lay-shelf.mjs wrote): THE SAME DECLARATIONS UNDER THE SAME NAMES: 'import', 'namespace', 'open', 'def', 'theorem' AND NOTHING ELSE: no command of the shelf's: FOR A HAND-IN. Each laying: the table of numbers ('.._ren') and one theorem, a field a fact of the dump's own or the kernel's comparison; each contract: ONE APPLICATION.
-/
namespace Go.Proofs
open Go.Shelf
def Try.keysA_ren : Go.Shelf.Ren := ⟨fun | 7 => 70 | 10 => 74 | n => n, fun | 23 => 109 | 26 => 3 | 3 => 3 | 28 => 128 | 0 => 0 | 27 => 127 | 33 => 58 | 4 => 4 | n => n, fun | n => n⟩
theorem Try.keysA : Go.Proofs.SlLaysZI.n7 Try.prog Try.keysA_ren := {
  mixed := by kernel_rfl
  f7 := ⟨Try.f70.name, by decide, Try.func70.trans (congrArg some (by kernel_rfl))⟩
  f10 := ⟨Try.f74.name, by decide, Try.func74.trans (congrArg some (by kernel_rfl))⟩
  t0 := Try.underlying0
  a0 := Try.isAgg0
  z0 := Try.sizeOf0
  v0 := Try.zeroValue0
  t4 := Try.underlying4
  a4 := Try.isAgg4
  z4 := Try.sizeOf4
  v4 := Try.zeroValue4
  t23 := Try.underlying109
  a23 := Try.isAgg109
  z23 := Try.sizeOf109
  v23 := Try.zeroValue109
  t26 := Try.underlying3
  a26 := Try.isAgg3
  z26 := Try.sizeOf3
  v26 := Try.zeroValue3
  t27 := Try.underlying127
  a27 := Try.isAgg127
  z27 := Try.sizeOf127
  v27 := Try.zeroValue127
  t28 := Try.underlying128
  a28 := Try.isAgg128
  z28 := Try.sizeOf128
  v28 := Try.zeroValue128
  t33 := Try.underlying58
  a33 := Try.isAgg58
  z33 := Try.sizeOf58
  v33 := Try.zeroValue58 }
def Try.sortedA_ren : Go.Shelf.Ren := ⟨fun | 6 => 69 | 8 => 72 | 9 => 73 | 11 => 76 | 13 => 78 | 12 => 77 | 23 => 88 | 24 => 89 | 14 => 79 | 15 => 80 | 16 => 81 | 17 => 82 | 18 => 83 | 19 => 84 | 20 => 85 | 21 => 86 | 22 => 87 | 25 => 90 | 26 => 91 | 27 => 92 | 28 => 93 | 29 => 94 | 30 => 95 | 31 => 96 | n => n, fun | 26 => 3 | 28 => 128 | 24 => 47 | 0 => 0 | 3 => 3 | 37 => 87 | 48 => 144 | 50 => 29 | 4 => 4 | 40 => 137 | 39 => 136 | 45 => 82 | 5 => 5 | 9 => 9 | 51 => 145 | 55 => 149 | 57 => 151 | 58 => 152 | 33 => 58 | n => n, fun | n => n⟩
theorem Try.sortedA : Go.Proofs.SlLaysZI.n6 Try.prog Try.sortedA_ren := {
  mixed := by kernel_rfl
  f6 := ⟨Try.f69.name, by decide, Try.func69.trans (congrArg some (by kernel_rfl))⟩
  f8 := ⟨Try.f72.name, by decide, Try.func72.trans (congrArg some (by kernel_rfl))⟩
  f11 := ⟨Try.f76.name, by decide, Try.func76.trans (congrArg some (by kernel_rfl))⟩
  t0 := Try.underlying0
  a0 := Try.isAgg0
  z0 := Try.sizeOf0
  v0 := Try.zeroValue0
  t24 := Try.underlying47
  a24 := Try.isAgg47
  z24 := Try.sizeOf47
  v24 := Try.zeroValue47
  t26 := Try.underlying3
  a26 := Try.isAgg3
  z26 := Try.sizeOf3
  v26 := Try.zeroValue3
  t28 := Try.underlying128
  a28 := Try.isAgg128
  z28 := Try.sizeOf128
  v28 := Try.zeroValue128
  i26 := by kernel_rfl }
def Try.sortA_ren : Go.Shelf.Ren := ⟨fun | 5 => 73 | 8 => 78 | 7 => 77 | 19 => 88 | 20 => 89 | 10 => 79 | 11 => 80 | 12 => 81 | 13 => 82 | 14 => 83 | 15 => 84 | 16 => 85 | 17 => 86 | 18 => 87 | 30 => 90 | 31 => 91 | 32 => 92 | 33 => 93 | 34 => 94 | 35 => 95 | 40 => 96 | n => n, fun | 23 => 47 | 25 => 3 | 3 => 3 | 32 => 87 | 22 => 47 | 0 => 0 | 44 => 144 | 46 => 29 | 4 => 4 | 36 => 137 | 35 => 136 | 41 => 82 | 5 => 5 | 9 => 9 | 53 => 145 | 57 => 149 | 63 => 151 | 64 => 152 | n => n, fun | n => n⟩
theorem Try.sortA : Go.Proofs.SlLaysM.n5 Try.prog Try.sortA_ren := {
  mixed := by kernel_rfl
  f5 := ⟨Try.f73.name, by decide, Try.func73.trans (congrArg some (by kernel_rfl))⟩
  f7 := ⟨Try.f77.name, by decide, Try.func77.trans (congrArg some (by kernel_rfl))⟩
  f8 := Try.func78.trans (congrArg some (by kernel_rfl))
  f10 := ⟨Try.f79.name, by decide, Try.func79.trans (congrArg some (by kernel_rfl))⟩
  f11 := ⟨Try.f80.name, by decide, Try.func80.trans (congrArg some (by kernel_rfl))⟩
  f12 := ⟨Try.f81.name, by decide, Try.func81.trans (congrArg some (by kernel_rfl))⟩
  f13 := ⟨Try.f82.name, by decide, Try.func82.trans (congrArg some (by kernel_rfl))⟩
  f14 := ⟨Try.f83.name, by decide, Try.func83.trans (congrArg some (by kernel_rfl))⟩
  f15 := ⟨Try.f84.name, by decide, Try.func84.trans (congrArg some (by kernel_rfl))⟩
  f16 := ⟨Try.f85.name, by decide, Try.func85.trans (congrArg some (by kernel_rfl))⟩
  f17 := ⟨Try.f86.name, by decide, Try.func86.trans (congrArg some (by kernel_rfl))⟩
  f18 := ⟨Try.f87.name, by decide, Try.func87.trans (congrArg some (by kernel_rfl))⟩
  f19 := Try.func88.trans (congrArg some (by kernel_rfl))
  f20 := Try.func89.trans (congrArg some (by kernel_rfl))
  f30 := ⟨Try.f90.name, by decide, Try.func90.trans (congrArg some (by kernel_rfl))⟩
  f31 := Try.func91.trans (congrArg some (by kernel_rfl))
  f32 := Try.func92.trans (congrArg some (by kernel_rfl))
  f33 := ⟨Try.f93.name, by decide, Try.func93.trans (congrArg some (by kernel_rfl))⟩
  f34 := ⟨Try.f94.name, by decide, Try.func94.trans (congrArg some (by kernel_rfl))⟩
  f35 := ⟨Try.f95.name, by decide, Try.func95.trans (congrArg some (by kernel_rfl))⟩
  f40 := ⟨Try.f96.name, by decide, Try.func96.trans (congrArg some (by kernel_rfl))⟩
  t0 := Try.underlying0
  a0 := Try.isAgg0
  z0 := Try.sizeOf0
  v0 := Try.zeroValue0
  t3 := Try.underlying3
  a3 := Try.isAgg3
  z3 := Try.sizeOf3
  v3 := Try.zeroValue3
  t4 := Try.underlying4
  a4 := Try.isAgg4
  z4 := Try.sizeOf4
  v4 := Try.zeroValue4
  t5 := Try.underlying5
  a5 := Try.isAgg5
  z5 := Try.sizeOf5
  v5 := Try.zeroValue5
  t9 := Try.underlying9
  a9 := Try.isAgg9
  z9 := Try.sizeOf9
  v9 := Try.zeroValue9
  t22 := Try.underlying47
  a22 := Try.isAgg47
  z22 := Try.sizeOf47
  v22 := Try.zeroValue47
  t23 := Try.underlying47
  a23 := Try.isAgg47
  z23 := Try.sizeOf47
  v23 := Try.zeroValue47
  t25 := Try.underlying3
  a25 := Try.isAgg3
  z25 := Try.sizeOf3
  v25 := Try.zeroValue3
  t32 := Try.underlying87
  a32 := Try.isAgg87
  z32 := Try.sizeOf87
  v32 := Try.zeroValue87
  t35 := Try.underlying136
  a35 := Try.isAgg136
  z35 := Try.sizeOf136
  v35 := Try.zeroValue136
  t36 := Try.underlying137
  a36 := Try.isAgg137
  z36 := Try.sizeOf137
  v36 := Try.zeroValue137
  t41 := Try.underlying82
  a41 := Try.isAgg82
  z41 := Try.sizeOf82
  v41 := Try.zeroValue82
  t44 := Try.underlying144
  a44 := Try.isAgg144
  z44 := Try.sizeOf144
  v44 := Try.zeroValue144
  t46 := Try.underlying29
  a46 := Try.isAgg29
  z46 := Try.sizeOf29
  v46 := Try.zeroValue29
  t53 := Try.underlying145
  a53 := Try.isAgg145
  z53 := Try.sizeOf145
  v53 := Try.zeroValue145
  t57 := Try.underlying149
  a57 := Try.isAgg149
  z57 := Try.sizeOf149
  v57 := Try.zeroValue149
  t63 := Try.underlying151
  a63 := Try.isAgg151
  z63 := Try.sizeOf151
  v63 := Try.zeroValue151
  t64 := Try.underlying152
  a64 := Try.isAgg152
  z64 := Try.sizeOf152
  v64 := Try.zeroValue152 }
def Try.cloneA_ren : Go.Shelf.Ren := ⟨fun | 41 => 65 | n => n, fun | 22 => 22 | 23 => 29 | 4 => 4 | n => n, fun | n => n⟩
theorem Try.cloneA : Go.Proofs.SlLaysE0.n41 Try.prog Try.cloneA_ren := {
  mixed := by kernel_rfl
  f41 := ⟨Try.f65.name, by decide, Try.func65.trans (congrArg some (by kernel_rfl))⟩
  t4 := Try.underlying4
  a4 := Try.isAgg4
  z4 := Try.sizeOf4
  v4 := Try.zeroValue4
  t22 := Try.underlying22
  a22 := Try.isAgg22
  z22 := Try.sizeOf22
  v22 := Try.zeroValue22 }
end Go.Proofs
/- An arena in memory; its small functions. -/
namespace Go.Proofs.Ytlffmcadchbheaa
open Go.RowKit Go.Maps Arena
set_option maxHeartbeats 1000000
/-- an arena's three blocks: its own row, its words, its map -/
structure ArenaAt (w : World) (p g bm n : Nat) (ws : List Int) (R : List (Nat × Nat)) : Prop where
  row : w.heap[p]? = some (.cells #[.slice (some ⟨g, 0, none⟩) n n, .map (some bm)] 111 (0, 0))
  words : w.heap[g]? = some (.cells (ws.map fun x => Value.int .u64 x).toArray 29 (0, 0))
  len : ws.length = n
  regs : w.ownsMap Try.prog 3 (plainElem Try.prog 3) bm R.length (regD R)
  good : Arena.Good n R
  pg : p ≠ g
  pm : p ≠ bm
  gm : g ≠ bm
  least : n ≤ 20000
theorem ArenaAt.lt {w : World} {p g bm n : Nat} {ws : List Int} {R : List (Nat × Nat)} (h : ArenaAt w p g bm n ws R) : p < w.heap.size ∧ g < w.heap.size ∧ bm < w.heap.size :=
  ⟨(Array.getElem?_eq_some_iff.1 h.row).1, (Array.getElem?_eq_some_iff.1 h.words).1, h.regs.lt⟩
theorem ArenaAt.turn {w w' : World} {p g bm n : Nat} {ws : List Int} {R : List (Nat × Nat)} {bs : List Nat} (h : ArenaAt w p g bm n ws R) (t : Turn bs w w') (hp : p ∉ bs) (hg : g ∉ bs) (hm : bm ∉ bs) : ArenaAt w' p g bm n ws R := by
  obtain ⟨lp, lg, lm⟩ := h.lt
  refine ⟨by rw [t.block p lp hp]; exact h.row, by rw [t.block g lg hg]; exact h.words, h.len, ?_, h.good, h.pg, h.pm, h.gm, h.least⟩
  obtain ⟨es, clock, hb, hr⟩ := h.regs
  exact ⟨es, clock, by rw [t.block bm lm hm]; exact hb, hr⟩
theorem ArenaAt.ext {w w' : World} {p g bm n : Nat} {ws : List Int} {R : List (Nat × Nat)} (h : ArenaAt w p g bm n ws R) (e : Ext w w') : ArenaAt w' p g bm n ws R :=
  h.turn (Turn.of_ext (bs := []) e) (by simp) (by simp) (by simp)
theorem ArenaAt.cells {w : World} {p g bm n : Nat} {ws : List Int} {R : List (Nat × Nat)} (h : ArenaAt w p g bm n ws R) :
    w.cell? ⟨p, 0, none⟩ = some (.slice (some ⟨g, 0, none⟩) n n) ∧ w.cell? ⟨p, 1, none⟩ = some (.map (some bm)) := by
  constructor <;> simp [World.cell?, h.row]
/-- a map's bound is its size -/
theorem owns_size {P : Program} {k e : TypeId} {w : World} {b n : Nat} {R : List (Nat × Nat)} (h : w.ownsMap P k (plainElem P e) b n (regD R)) : w.ownsMap P k (plainElem P e) b R.length (regD R) := by
  obtain ⟨es, clock, hb, F, hs, hD⟩ := h
  refine ⟨es, clock, hb, F, ?_, hD⟩
  have h1 : Maps.size (regD R) = es.size := by rw [hD, Maps.size_eq, length_sorted]; simp
  rw [regD_size] at h1
  omega
theorem int_law : Keyed Try.prog 3 := int_keyed Try.underlying3
theorem int_zero (w : World) : (zeroValue 3).run Try.prog w = .ok (.int .i64 0) w := by kernel_rfl

theorem key_int {k : Int} (hw : (Lit.int .i64 k).wf = true) : keyOf Try.prog 3 (.int .i64 k) = some (.int .i64 k) := keyOf_int_mk Try.underlying3 hw
theorem at_len {R : List (Nat × Nat)} {k c : Int} (h : (regD R).atKey (.int .i64 k) (.lit (.int .i64 0)) = .lit (.int .i64 c)) : c = lenAt R k := by
  rw [regD_atKey] at h
  injection h with h
  injection h with _ h
  exact h.symm
theorem region_no {w : World} {p g bm n : Nat} {ws : List Int} {R : List (Nat × Nat)} {k : Int} (h : ArenaAt w p g bm n ws R) (hw : (Lit.int .i64 k).wf = true) (h0 : lenAt R k = 0) :
    Calls Try.prog 59 #[.pointer (some ⟨p, 0, none⟩), .int .i64 k] w fun e w' => e = .returned (.slice none 0 0) ∧ w = w' := by
  obtain ⟨c0, c1⟩ := h.cells
  have HM := Lib.hid h.regs
  have H0 := Lib.hid h0
  clear h h0
  go_enter Try.func59, Try.ntmps59
  go_wp2_with (at_lookup; refine wpList_lookup_own_int _ rfl _ _ 109 rfl 3 3 .i64 int_law Try.underlying109 Try.underlying3 (int_zero _) bm R.length _ rfl HM.out _ _ rfl (key_int hw) ?_; intro c hat hwc; obtain rfl : c = 0 := by have := at_len hat; rw [H0.out] at this; exact this)
  go_ret
  exact ⟨rfl, rfl⟩
theorem region_yes {w : World} {p g bm n : Nat} {ws : List Int} {R : List (Nat × Nat)} {r : Nat × Nat} (h : ArenaAt w p g bm n ws R) (hr : r ∈ R) :
    Calls Try.prog 59 #[.pointer (some ⟨p, 0, none⟩), .int .i64 r.1] w fun e w' => e = .returned (.slice (some ⟨g, r.1, none⟩) r.2 (n - r.1)) ∧ w = w' := by
  obtain ⟨c0, c1⟩ := h.cells
  have HM := Lib.hid h.regs
  have H0 := Lib.hid (lenAt_mem h.good hr)
  have hn := h.least
  obtain ⟨h1, h2⟩ := h.good.2 r hr
  have hw : (Lit.int .i64 (r.1 : Int)).wf = true := WalkArith.wf_i64 (by omega)
  have b0 : ((r.2 : Int) == 0) = false := beq_false_of_ne (by omega)
  clear h
  go_enter Try.func59, Try.ntmps59
  go_wp2_with (at_lookup; refine wpList_lookup_own_int _ rfl _ _ 109 rfl 3 3 .i64 int_law Try.underlying109 Try.underlying3 (int_zero _) bm R.length _ rfl HM.out _ _ rfl (key_int hw) ?_; intro c hat hwc; obtain rfl : c = (r.2 : Int) := by have := at_len hat; rw [H0.out] at this; exact this)
  go_ret
  exact ⟨by simp, rfl⟩
theorem ArenaAt.word {w : World} {p g bm n : Nat} {ws : List Int} {R : List (Nat × Nat)} (h : ArenaAt w p g bm n ws R) {i : Nat} (hi : i < n) : w.cell? ⟨g, i, none⟩ = some (.int .u64 (ws.getD i 0)) ∧ w.frozen? ⟨g, i, none⟩ = false := by
  have hl := h.len
  constructor
  · simp [World.cell?, h.words, List.getElem?_eq_getElem (show i < ws.length by omega)]
  · simp [World.frozen?, h.words]
theorem ArenaAt.store {w : World} {p g bm n : Nat} {ws : List Int} {R : List (Nat × Nat)} (h : ArenaAt w p g bm n ws R) (i : Nat) (v : Int) : ArenaAt (w.setCell ⟨g, i, none⟩ (.int .u64 v)) p g bm n (ws.set i v) R := by
  refine ⟨?_, ?_, by simpa using h.len, h.regs.setCell (fun e => h.gm e.symm) _, h.good, h.pg, h.pm, h.gm, h.least⟩
  · rw [Below.heap_setCell _ _ _ _ h.pg]; exact h.row
  · rw [Lib.heap_setCell_same h.words]
    simp
theorem get_no {w : World} {p g bm n : Nat} {ws : List Int} {R : List (Nat × Nat)} {k a : Int} (h : ArenaAt w p g bm n ws R) (hw : (Lit.int .i64 k).wf = true) (h0 : lenAt R k = 0) :
    Calls Try.prog 75 #[.pointer (some ⟨p, 0, none⟩), .int .i64 k, .int .i64 a] w fun e w' => e = .returned (.tuple #[.int .u64 0, .bool false]) ∧ w = w' := by
  by_cases ha : a < 0
  · have b1 : decide (a < 0) = true := decide_eq_true ha
    go_enter Try.func75, Try.ntmps75
    go_wp2_with fail
    refine (region_no h hw h0).mono ?_; rintro e w' ⟨rfl, rfl⟩
    go_wp2
    go_ret2
    exact ⟨rfl, rfl⟩
  · have b1 : decide (a < 0) = false := decide_eq_false ha
    have b2 : decide ((0 : Int) ≤ a) = true := decide_eq_true (by omega)
    go_enter Try.func75, Try.ntmps75
    go_wp2_with fail
    refine (region_no h hw h0).mono ?_; rintro e w' ⟨rfl, rfl⟩
    go_wp2
    go_ret2
    exact ⟨rfl, rfl⟩
theorem get_out {w : World} {p g bm n : Nat} {ws : List Int} {R : List (Nat × Nat)} {r : Nat × Nat} {a : Int} (h : ArenaAt w p g bm n ws R) (hr : r ∈ R) (ha : a < 0 ∨ (r.2 : Int) ≤ a) :
    Calls Try.prog 75 #[.pointer (some ⟨p, 0, none⟩), .int .i64 r.1, .int .i64 a] w fun e w' => e = .returned (.tuple #[.int .u64 0, .bool false]) ∧ w = w' := by
  by_cases ha0 : a < 0
  · have b1 : decide (a < 0) = true := decide_eq_true ha0
    go_enter Try.func75, Try.ntmps75
    go_wp2_with fail
    refine (region_yes h hr).mono ?_; rintro e w' ⟨rfl, rfl⟩
    go_wp2
    go_ret2
    exact ⟨rfl, rfl⟩
  · have b1 : decide (a < 0) = false := decide_eq_false ha0
    have b2 : decide ((r.2 : Int) ≤ a) = true := decide_eq_true (by omega)
    go_enter Try.func75, Try.ntmps75
    go_wp2_with fail
    refine (region_yes h hr).mono ?_; rintro e w' ⟨rfl, rfl⟩
    go_wp2
    go_ret2
    exact ⟨rfl, rfl⟩
theorem get_yes {w : World} {p g bm n : Nat} {ws : List Int} {R : List (Nat × Nat)} {r : Nat × Nat} {a : Nat} (h : ArenaAt w p g bm n ws R) (hr : r ∈ R) (ha : a < r.2) :
    Calls Try.prog 75 #[.pointer (some ⟨p, 0, none⟩), .int .i64 r.1, .int .i64 a] w fun e w' => e = .returned (.tuple #[.int .u64 (ws.getD (r.1 + a) 0), .bool true]) ∧ w = w' := by
  obtain ⟨h1, h2⟩ := h.good.2 r hr
  have hn := h.least
  obtain ⟨hc, _⟩ := h.word (i := r.1 + a) (by omega)
  have b1 : decide ((a : Int) < 0) = false := decide_eq_false (by omega)
  have b2 : decide ((r.2 : Int) ≤ (a : Int)) = false := decide_eq_false (by omega)
  have HRG := Lib.hid (region_yes h hr)
  generalize ws.getD (r.1 + a) 0 = v at *
  clear h
  go_enter Try.func75, Try.ntmps75
  go_wp2_with fail
  refine HRG.out.mono ?_; rintro e w' ⟨rfl, rfl⟩
  go_wp2
  go_ret2
  exact ⟨rfl, rfl⟩
theorem set_no {w : World} {p g bm n : Nat} {ws : List Int} {R : List (Nat × Nat)} {k a v : Int} (h : ArenaAt w p g bm n ws R) (hw : (Lit.int .i64 k).wf = true) (h0 : lenAt R k = 0) :
    Calls Try.prog 37 #[.pointer (some ⟨p, 0, none⟩), .int .i64 k, .int .i64 a, .int .u64 v] w fun e w' => e = .returned (.bool false) ∧ w = w' := by
  by_cases ha : a < 0
  · have b1 : decide (a < 0) = true := decide_eq_true ha
    go_enter Try.func37, Try.ntmps37
    go_wp2_with fail
    refine (region_no h hw h0).mono ?_; rintro e w' ⟨rfl, rfl⟩
    go_wp2
    go_ret
    exact ⟨rfl, rfl⟩
  · have b1 : decide (a < 0) = false := decide_eq_false ha
    have b2 : decide ((0 : Int) ≤ a) = true := decide_eq_true (by omega)
    go_enter Try.func37, Try.ntmps37
    go_wp2_with fail
    refine (region_no h hw h0).mono ?_; rintro e w' ⟨rfl, rfl⟩
    go_wp2
    go_ret
    exact ⟨rfl, rfl⟩
theorem set_out {w : World} {p g bm n : Nat} {ws : List Int} {R : List (Nat × Nat)} {r : Nat × Nat} {a v : Int} (h : ArenaAt w p g bm n ws R) (hr : r ∈ R) (ha : a < 0 ∨ (r.2 : Int) ≤ a) :
    Calls Try.prog 37 #[.pointer (some ⟨p, 0, none⟩), .int .i64 r.1, .int .i64 a, .int .u64 v] w fun e w' => e = .returned (.bool false) ∧ w = w' := by
  by_cases ha0 : a < 0
  · have b1 : decide (a < 0) = true := decide_eq_true ha0
    go_enter Try.func37, Try.ntmps37
    go_wp2_with fail
    refine (region_yes h hr).mono ?_; rintro e w' ⟨rfl, rfl⟩
    go_wp2
    go_ret
    exact ⟨rfl, rfl⟩
  · have b1 : decide (a < 0) = false := decide_eq_false ha0
    have b2 : decide ((r.2 : Int) ≤ a) = true := decide_eq_true (by omega)
    go_enter Try.func37, Try.ntmps37
    go_wp2_with fail
    refine (region_yes h hr).mono ?_; rintro e w' ⟨rfl, rfl⟩
    go_wp2
    go_ret
    exact ⟨rfl, rfl⟩
theorem set_yes {w : World} {p g bm n : Nat} {ws : List Int} {R : List (Nat × Nat)} {r : Nat × Nat} {a : Nat} {v : Int} (h : ArenaAt w p g bm n ws R) (hr : r ∈ R) (ha : a < r.2) :
    Calls Try.prog 37 #[.pointer (some ⟨p, 0, none⟩), .int .i64 r.1, .int .i64 a, .int .u64 v] w fun e w' => e = .returned (.bool true) ∧ ArenaAt w' p g bm n (ws.set (r.1 + a) v) R ∧ Turn [g] w w' := by
  obtain ⟨h1, h2⟩ := h.good.2 r hr
  have hn := h.least
  obtain ⟨hc, hf⟩ := h.word (i := r.1 + a) (by omega)
  have b1 : decide ((a : Int) < 0) = false := decide_eq_false (by omega)
  have b2 : decide ((r.2 : Int) ≤ (a : Int)) = false := decide_eq_false (by omega)
  have HRG := Lib.hid (region_yes h hr)
  have HST := Lib.hid (h.store (r.1 + a) v)
  generalize ws.getD (r.1 + a) 0 = u at *
  clear h
  go_enter Try.func37, Try.ntmps37
  go_wp2_with fail
  refine HRG.out.mono ?_; rintro e w' ⟨rfl, rfl⟩
  go_wp2
  go_ret
  exact ⟨rfl, HST.out, (Turn.refl _ _).setCell (.inl (by simp)) _⟩
theorem look_len {w : World} {p g bm n : Nat} {ws : List Int} {R : List (Nat × Nat)} {k : Int} (h : ArenaAt w p g bm n ws R) (hw : (Lit.int .i64 k).wf = true) :
    (Instr.lookup 109 (.map (some bm)) (.int .i64 k) false).run Try.prog w = .ok (.int .i64 (lenAt R k)) w := by
  obtain ⟨c, hrun, hat, _⟩ := h.regs.lookup_int int_law Try.underlying109 Try.underlying3 (int_zero _) (key_int hw)
  rw [← at_len hat]
  exact hrun
theorem drop_length {R : List (Nat × Nat)} (k : Int) : (Arena.drop k R).length ≤ R.length := List.length_filter_le _ _
/-- slices.Sort's two contracts at this dump, at the fence that asks nothing. -/
theorem sorts_in (m : Nat) : AnyZI.SortsIn Try.prog Try.sortedA_ren Fence.wide m :=
  ⟨fun blk off cap ss W hH hblk hsz => callsIn_wide.2 (AnyM.slices_Sort_int Try.sortA blk off cap ss W hH hblk hsz),
   fun p cap W => callsIn_wide.2 (AnyM.slices_Sort_int_none Try.sortA p cap W)⟩
set_option maxHeartbeats 2000000 in
theorem bases_is {w : World} {p g bm n : Nat} {ws : List Int} {R : List (Nat × Nat)} (h : ArenaAt w p g bm n ws R) :
    Calls Try.prog 58 #[.pointer (some ⟨p, 0, none⟩)] w fun e w' => ∃ v, e = .returned v ∧ w'.ownsRow w.heap.size 3 1 v R.length (R.map fun r => Value.int .i64 r.1) ∧ Ext w w' := by
  obtain ⟨c0, c1⟩ := h.cells
  have hown := h.regs
  have hbl := hown.lt
  have hsz : Maps.size (regD R) ≤ 20000 := by rw [regD_size]; exact Nat.le_trans (good_len h.good) h.least
  have hmax : Maps.size (regD R) ≤ maxLen := by unfold maxLen; omega
  have hbytes : Maps.size (regD R) * 8 ≤ 140737488355328 := by omega
  have HG := Lib.hid h.good
  clear h
  refine (callsIn_wide (n := 6)).1 ?_
  have hseq : SeqGives Fence.wide 2 Try.prog 74 #[.pointer (some ⟨w.heap.size, 0, none⟩)] encZ (fun ss => ss.Perm (intKeys (regD R))) (Maps.size (regD R)) (w.alloc (.cells #[.map (some bm)] 109)) :=
    AnyZI.keys_gives (ρ := Try.keysA_ren) { Try.keysA with } Fence.wide _ trivial rfl (by omega) w.heap.size bm R.length (regD R) _ (by simp) (by simp) (by
      obtain ⟨es, clock, hb, Ft, hs, hD⟩ := hown
      exact ⟨es, clock, (Below.heap_alloc _ _ bm hbl).trans hb, Ft, hs, hD⟩)
  have cK : ∀ mb W, CallsIn Fence.wide 5 Try.prog 70 #[.map mb] W fun e w' => e = .returned (.func (.func 74) #[] #[.pointer (some ⟨W.heap.size, 0, none⟩)]) ∧ w' = W.alloc (.cells #[.map mb] 109) := fun mb W => AnyZI.keys_in Try.keysA Fence.wide 5 trivial rfl mb W
  have cS := AnyZI.sorted_in Try.sortedA Fence.wide 5 trivial trivial trivial trivial rfl (by omega) (sorts_in _) (enters_of Try.func73 (by kernel_rfl) rfl) 74 #[.pointer (some ⟨w.heap.size, 0, none⟩)] trivial (enters_of Try.func74 (by kernel_rfl) rfl) _ _ hmax hbytes _ hseq
  change CallsIn _ _ Try.prog 69 _ _ _ at cS
  have hfK : Fence.wide.fn 70 := trivial
  have hfS : Fence.wide.fn 69 := trivial
  refine callsIn_of_wp Try.func58 rfl trivial ?_ rfl
  simp only [Try.ntmps58, List.size_toArray, List.length_cons, List.length_nil, Nat.reduceAdd, Nat.reduceSub, Array.replicate_succ, Array.replicate_zero, List.push_toArray, List.append_toArray, List.nil_append, List.cons_append]
  gi_wp2_with (first
    | (gi_at_call 70; refine (cK _ _).mono ?_; rintro e w' ⟨rfl, rfl⟩)
    | (gi_at_call 69; refine cS.mono ?_; rintro e w' ⟨v, ss, rfl, hS, hrow, hnil, hb⟩))
  go_ret
  have hsorted := keys_sorted HG.out hS
  have hlen : ss.length = R.length := by rw [hS.length_eq, regD_keys, List.length_map]
  rw [hsorted, List.map_map, hlen] at hrow
  exact ⟨v, rfl, ownsRow_base_a hrow (by simp), ((Below.refl _ w).alloc (Nat.le_refl _) _).trans (hb.mono (by simp))⟩
end Go.Proofs.Ytlffmcadchbheaa
/- The walk of an arena's Cut. -/
namespace Go.Proofs.Ytlffmcadchbheaa
open Go.RowKit Go.Maps Arena
set_option maxHeartbeats 2000000
set_option maxRecDepth 100000
/-- what a row of places is good for -/
theorem row_any {w : World} {base : Nat} {v : Value} {R : List (Nat × Nat)} (h : w.ownsRow base 3 1 v R.length (R.map fun r => Value.int .i64 r.1)) : ∃ q c, v = .slice q R.length c ∧ R.length ≤ c ∧ c ≤ maxLen ∧
    ∀ (i : Nat) (x : Nat × Nat), R[i]? = some x → ∃ s, q = some ⟨s, 0, none⟩ ∧ w.cell? ⟨s, i, none⟩ = some (.int .i64 x.1) := by
  rcases h.2 with ⟨h1, h2⟩ | ⟨g, cap, cur, h1, hb, hg, h2, h3, h4, h5⟩
  · refine ⟨none, 0, by rw [h1, h2], by omega, Nat.zero_le _, fun i x hx => ?_⟩
    have := (List.getElem?_eq_some_iff.1 hx).1
    omega
  · refine ⟨_, cap, h1, h2, h3, fun i x hx => ⟨g, rfl, ?_⟩⟩
    subst h1
    have hi : i < R.length := (List.getElem?_eq_some_iff.1 hx).1
    rw [World.ownsRow.cellAt h i (by omega), List.getElem?_map, hx]
    rfl
/-- words from a place on set to others -/
def setMany (ws : List Int) (o : Nat) : List Int → List Int
  | [] => ws
  | v :: vs => setMany (ws.set o v) (o + 1) vs
theorem setMany_length (vs : List Int) : ∀ (ws : List Int) (o : Nat), (setMany ws o vs).length = ws.length := by
  induction vs with
  | nil => intro ws o; rfl
  | cons v vs ih => intro ws o; rw [setMany, ih, List.length_set]
theorem ArenaAt.stores {p g bm n : Nat} {R : List (Nat × Nat)} (vs : List Int) : ∀ {w : World} {ws : List Int} (o : Nat), ArenaAt w p g bm n ws R → ArenaAt (w.setCells g o (vs.map fun x => Value.int .u64 x)) p g bm n (setMany ws o vs) R ∧ Turn [g] w (w.setCells g o (vs.map fun x => Value.int .u64 x)) := by
  induction vs with
  | nil => intro w ws o h; exact ⟨h, Turn.refl _ _⟩
  | cons v vs ih =>
    intro w ws o h
    obtain ⟨h1, h2⟩ := ih (o + 1) (h.store o v)
    exact ⟨h1, ((Turn.refl [g] w).setCell (.inl (by simp)) _).trans h2⟩
theorem ArenaAt.cutRow {w w1 : World} {p g bm n : Nat} {ws : List Int} {R : List (Nat × Nat)} {k : Nat} (h : ArenaAt w p g bm n ws R) (hk : 1 ≤ k) (hn : scan k 0 R + k ≤ n)
    (ho : w1.ownsMap Try.prog 3 (plainElem Try.prog 3) bm (R.length + 1) ((regD R).put (.int .i64 (scan k 0 R)) (.lit (.int .i64 k)))) (hg : w.grownBy w1 (some bm)) :
    ArenaAt w1 p g bm n ws (ins (scan k 0 R, k) R) ∧ Turn [bm] w w1 := by
  have ht : Turn [bm] w w1 := Turn.of_grown hg (fun b hb => .inl (by cases hb; exact .head _))
  obtain ⟨lp, lg, lm⟩ := h.lt
  rw [regD_put (x := (scan k 0 R, k)) (scan_ne h.good hk)] at ho
  refine ⟨⟨?_, ?_, h.len, owns_size ho, good_cut h.good hk hn, h.pg, h.pm, h.gm, h.least⟩, ht⟩
  · rw [ht.block p lp (by simp; exact h.pm)]; exact h.row
  · rw [ht.block g lg (by simp; exact h.gm)]; exact h.words
theorem scan_round {k a : Nat} {r : Nat × Nat} {R : List (Nat × Nat)} : (a + k ≤ r.1 → scan k a (r :: R) = a) ∧ (¬ a + k ≤ r.1 → scan k a (r :: R) = scan k (r.1 + r.2) R) := by
  constructor <;> intro h <;> simp [scan, h]
theorem clear_run {w : World} {p g bm n a k : Nat} {ws : List Int} {R : List (Nat × Nat)} (h : ArenaAt w p g bm n ws R) (hk : 1 ≤ k) (hfit : a + k ≤ n) (ty : TypeId) :
    (Builtin.clear_ #[22] ty #[.slice (some ⟨g, a, none⟩) k (n - a)]).run Try.prog w = .ok (.tuple #[]) (w.setCells g a ((List.replicate k 0).map fun x => Value.int .u64 x)) := by
  rw [List.map_replicate]
  exact Lib.run_clear_slice w 22 29 ty (.int .u64 0) Try.underlying22 (fun _ => by kernel_rfl) rfl rfl g a k (n - a) hk
    (fun j hj => by rw [(h.word (i := a + j) (by omega)).1]; rfl) (fun j hj => (h.word (i := a + j) (by omega)).2)
theorem cut_small {w : World} {p : Nat} {k : Int} (hk : k < 1) : Calls Try.prog 35 #[.pointer (some ⟨p, 0, none⟩), .int .i64 k] w fun e w' => e = .returned (.tuple #[.int .i64 0, .bool false]) ∧ w = w' := by
  go_enter Try.func35, Try.ntmps35
  go_wp2
  go_ret2
  exact ⟨rfl, rfl⟩
theorem cut_is {w : World} {p g bm n : Nat} {ws : List Int} {R : List (Nat × Nat)} {k : Nat} (h : ArenaAt w p g bm n ws R) (hk : 1 ≤ k) (hk2 : k ≤ 9223372036854775807) :
    Calls Try.prog 35 #[.pointer (some ⟨p, 0, none⟩), .int .i64 k] w fun e w' =>
      (scan k 0 R + k ≤ n ∧ e = .returned (.tuple #[.int .i64 (scan k 0 R), .bool true]) ∧ ArenaAt w' p g bm n (setMany ws (scan k 0 R) (List.replicate k 0)) (ins (scan k 0 R, k) R) ∧ Turn [g, bm] w w') ∨
      (¬ scan k 0 R + k ≤ n ∧ e = .returned (.tuple #[.int .i64 0, .bool false]) ∧ Ext w w') := by
  have hn := h.least
  have HA := Lib.hid h
  clear h
  go_enter Try.func35, Try.ntmps35
  go_wp2_with fail
  refine (bases_is HA.out).mono ?_; rintro e w1 ⟨v, rfl, hrow, hx⟩
  obtain ⟨q, c, rfl, hc1, hc2, hcell⟩ := row_any hrow
  have h1 := HA.out.ext hx
  obtain ⟨c0, c1⟩ := h1.cells
  have HX := Lib.hid hx; have H1 := Lib.hid h1; have HC := Lib.hid hcell
  have hle := scan_le (k := k) R 0 h1.good (Nat.zero_le _)
  clear hx h1 hcell hrow
  unfold maxLen at hc2
  go_wp2_with fail
  go_loop [6, 18] (fun at_ i => ∃ j a : Nat, j ≤ R.length ∧ i = .int .i64 j ∧ at_ = .int .i64 a ∧ a ≤ n ∧ scan k 0 R = scan k a (R.drop j)) (fun _ i => R.length - (intOf i).toNat)
  case atStart => exact ⟨0, 0, by omega, rfl, rfl, Nat.zero_le _, rfl⟩
  case round =>
    obtain ⟨j, a, hj, rfl, rfl, ha, hsc⟩ := hrel
    by_cases hlt : j < R.length
    · have hxj : R[j]? = some R[j] := List.getElem?_eq_getElem hlt
      have hd : R.drop j = R[j] :: R.drop (j + 1) := List.drop_eq_getElem_cons hlt
      have hmem : R[j] ∈ R := List.getElem_mem hlt
      obtain ⟨s, rfl, hcj⟩ := HC.out j _ hxj
      have hb := H1.out.good.2 R[j] hmem
      have hlk := look_len (k := (R[j].1 : Int)) H1.out (WalkArith.wf_i64 (by omega))
      rw [lenAt_mem H1.out.good hmem] at hlk
      rw [hd] at hsc
      generalize R[j] = x at *
      obtain ⟨xb, xl⟩ := x
      dsimp only at hcj hb hlk
      obtain ⟨hb1, hb2⟩ := hb
      have i1 : (j : Int) < (R.length : Int) := by omega
      clear hxj hd hmem
      by_cases hroom : a + k ≤ xb
      · have g1 : (k : Int) ≤ (xb : Int) - (a : Int) := by omega
        have hs2 : scan k 0 R = a := hsc.trans ((scan_round (r := (xb, xl)) (R := R.drop (j + 1))).1 hroom)
        have HS := Lib.hid hs2
        clear hsc hs2 hlk
        by_cases hfit : a + k ≤ n
        · have f1 : ¬ ((n : Int) - (a : Int) < (k : Int)) := by omega
          have hwa : (Lit.int .i64 (a : Int)).wf = true := WalkArith.wf_i64 (by omega)
          have hwk : (Lit.int .i64 (k : Int)).wf = true := WalkArith.wf_i64 (by omega)
          have hfit2 : scan k 0 R + k ≤ n := by rw [HS.out]; exact hfit
          have HF := Lib.hid hfit2
          have hrl := good_len H1.out.good
          have HM := Lib.hid H1.out.regs
          clear hfit2
          go_wp2_with (at_mapUpdate; refine wpList_mapUpdate_own _ rfl _ _ _ 109 rfl 3 3 int_law Try.underlying109 _ bm R.length _ rfl HM.out (by unfold maxLen; omega) _ _ _ rfl rfl (key_int hwa) _ [] (plainElem_int Try.underlying3 hwk) ?_; intro w2 hown2 hgrow2; have hcr := ArenaAt.cutRow (k := k) H1.out hk HF.out (by rw [HS.out]; exact hown2) hgrow2; obtain ⟨d0, d1⟩ := hcr.1.cells; have HCR := Lib.hid hcr; clear hcr; have hcl := fun ty => clear_run (k := k) (a := a) HCR.out.1 hk hfit ty)
          go_ret2
          obtain ⟨s1, s2⟩ := HCR.out.1.stores (List.replicate k 0) a
          rw [List.map_replicate] at s1 s2
          refine .inl ⟨HF.out, by rw [HS.out]; rfl, by rw [HS.out] at s1 ⊢; exact s1, ?_⟩
          exact ((Turn.of_ext (bs := [g, bm]) HX.out).trans (Turn.mono (cs := [g, bm]) HCR.out.2 (by simp))).trans (Turn.mono (cs := [g, bm]) s2 (by simp))
        · have f1 : decide ((n : Int) - (a : Int) < (k : Int)) = true := decide_eq_true (by omega)
          have hfit2 : ¬ scan k 0 R + k ≤ n := by rw [HS.out]; exact hfit
          have HF := Lib.hid hfit2
          clear hfit2 hfit
          go_wp2_with fail
          go_ret2
          exact .inr ⟨by have := HF.out; omega, rfl, HX.out⟩
      · have g1 : ¬ ((k : Int) ≤ (xb : Int) - (a : Int)) := by omega
        have hs2 : scan k 0 R = scan k (xb + xl) (R.drop (j + 1)) := hsc.trans ((scan_round (r := (xb, xl)) (R := R.drop (j + 1))).2 hroom)
        have HS := Lib.hid hs2
        clear hsc hs2
        go_wp2_with fail
        exact ⟨⟨j + 1, xb + xl, by omega, by go_num, by go_num, by omega, HS.out⟩, by simp [intOf]; omega⟩
    · obtain rfl : j = R.length := by omega
      have hs2 : scan k 0 R = a := by rw [hsc, List.drop_eq_nil_of_le (Nat.le_refl _)]; rfl
      have HS := Lib.hid hs2
      clear hsc hs2
      by_cases hfit : a + k ≤ n
      · have f1 : ¬ ((n : Int) - (a : Int) < (k : Int)) := by omega
        have hwa : (Lit.int .i64 (a : Int)).wf = true := WalkArith.wf_i64 (by omega)
        have hwk : (Lit.int .i64 (k : Int)).wf = true := WalkArith.wf_i64 (by omega)
        have hfit2 : scan k 0 R + k ≤ n := by rw [HS.out]; exact hfit
        have HF := Lib.hid hfit2
        have hrl := good_len H1.out.good
        have HM := Lib.hid H1.out.regs
        clear hfit2
        go_wp2_with (at_mapUpdate; refine wpList_mapUpdate_own _ rfl _ _ _ 109 rfl 3 3 int_law Try.underlying109 _ bm R.length _ rfl HM.out (by unfold maxLen; omega) _ _ _ rfl rfl (key_int hwa) _ [] (plainElem_int Try.underlying3 hwk) ?_; intro w2 hown2 hgrow2; have hcr := ArenaAt.cutRow (k := k) H1.out hk HF.out (by rw [HS.out]; exact hown2) hgrow2; obtain ⟨d0, d1⟩ := hcr.1.cells; have HCR := Lib.hid hcr; clear hcr; have hcl := fun ty => clear_run (k := k) (a := a) HCR.out.1 hk hfit ty)
        go_ret2
        obtain ⟨s1, s2⟩ := HCR.out.1.stores (List.replicate k 0) a
        rw [List.map_replicate] at s1 s2
        refine .inl ⟨HF.out, by rw [HS.out]; rfl, by rw [HS.out] at s1 ⊢; exact s1, ?_⟩
        exact ((Turn.of_ext (bs := [g, bm]) HX.out).trans (Turn.mono (cs := [g, bm]) HCR.out.2 (by simp))).trans (Turn.mono (cs := [g, bm]) s2 (by simp))
      · have f1 : decide ((n : Int) - (a : Int) < (k : Int)) = true := decide_eq_true (by omega)
        have hfit2 : ¬ scan k 0 R + k ≤ n := by rw [HS.out]; exact hfit
        have HF := Lib.hid hfit2
        clear hfit2 hfit
        go_wp2_with fail
        go_ret2
        exact .inr ⟨by have := HF.out; omega, rfl, HX.out⟩
end Go.Proofs.Ytlffmcadchbheaa
/- The walks of an arena's New, Words, Regions. -/
namespace Go.Proofs.Ytlffmcadchbheaa
open Go.RowKit Go.Maps Arena
set_option maxHeartbeats 2000000
set_option maxRecDepth 100000
theorem new_no {w : World} {n : Int} (hn : n < 1 ∨ 20000 < n) : Calls Try.prog 33 #[.int .i64 n] w fun e w' => e = .returned (.tuple #[.pointer none, .bool false]) ∧ w = w' := by
  by_cases h1 : n < 1
  · have b1 : decide (n < 1) = true := decide_eq_true h1
    go_enter Try.func33, Try.ntmps33
    go_wp2
    go_ret2
    exact ⟨rfl, rfl⟩
  · have b1 : decide (n < 1) = false := decide_eq_false h1
    have b2 : decide (20000 < n) = true := decide_eq_true (by omega)
    go_enter Try.func33, Try.ntmps33
    go_wp2
    go_ret2
    exact ⟨rfl, rfl⟩
theorem made_zeros (n : Nat) : madeCells #[Value.int .u64 0] n = ((List.replicate n (0 : Int)).map fun x => Value.int .u64 x).toArray := by
  apply Array.ext
  · simp [madeCells]
  · intro i h1 h2
    simp [madeCells, Nat.mod_one]
theorem arena_new (w : World) {n : Nat} (h2 : n ≤ 20000) : ArenaAt (((w.alloc (.cells (madeCells #[Value.int .u64 0] n) 29)).alloc (.map #[] 0)).alloc (.cells #[.slice (some ⟨w.heap.size, 0, none⟩) n n, .map (some (w.heap.size + 1))] 111)) (w.heap.size + 1 + 1) w.heap.size (w.heap.size + 1) n (List.replicate n 0) [] := by
  have e1 : (w.alloc (.cells (madeCells #[Value.int .u64 0] n) 29)).heap.size = w.heap.size + 1 := by simp
  have e2 : ((w.alloc (.cells (madeCells #[Value.int .u64 0] n) 29)).alloc (.map #[] 0)).heap.size = w.heap.size + 1 + 1 := by simp
  refine ⟨?_, ?_, by simp, ?_, good_nil n, by omega, by omega, by omega, h2⟩
  · have := heap_alloc_new ((w.alloc (.cells (madeCells #[Value.int .u64 0] n) 29)).alloc (.map #[] 0)) (.cells #[.slice (some ⟨w.heap.size, 0, none⟩) n n, .map (some (w.heap.size + 1))] 111)
    rw [e2] at this
    exact this
  · rw [Below.heap_alloc _ _ _ (by rw [e2]; omega), Below.heap_alloc _ _ _ (by rw [e1]; omega), ← made_zeros]
    exact heap_alloc_new w _
  · have := (World.ownsMap_made (H := Unit) (w.alloc (.cells (madeCells #[Value.int .u64 0] n) 29)) Try.prog 3 (plainElem Try.prog 3)).alloc (.cells #[.slice (some ⟨w.heap.size, 0, none⟩) n n, .map (some (w.heap.size + 1))] 111)
    rw [e1] at this
    exact this
theorem new_is {w : World} {n : Nat} (h1 : 1 ≤ n) (h2 : n ≤ 20000) : Calls Try.prog 33 #[.int .i64 n] w fun e w' =>
    ∃ p g bm, e = .returned (.tuple #[.pointer (some ⟨p, 0, none⟩), .bool true]) ∧ ArenaAt w' p g bm n (List.replicate n 0) [] ∧ Ext w w' ∧ w.heap.size ≤ p ∧ w.heap.size ≤ g ∧ w.heap.size ≤ bm := by
  have b1 : decide ((n : Int) < 1) = false := decide_eq_false (by omega)
  have b2 : decide (20000 < (n : Int)) = false := decide_eq_false (by omega)
  have hmk := run_make_row' (P := Try.prog) 22 29 (.int .u64 0) 8 Try.underlying22 info_u64 rfl .i64 .i64 n (by omega) (by omega)
  have hmm := @run_makeMap Try.prog
  go_enter Try.func33, Try.ntmps33
  go_wp2
  go_ret2
  exact ⟨w.heap.size + 1 + 1, w.heap.size, w.heap.size + 1, rfl, arena_new w h2, ((Ext.alloc _ _).trans (Ext.alloc _ _)).trans (Ext.alloc _ _), by omega, by omega, by omega⟩
theorem words_no {w : World} {p g bm n : Nat} {ws : List Int} {R : List (Nat × Nat)} {k : Int} (h : ArenaAt w p g bm n ws R) (hw : (Lit.int .i64 k).wf = true) (h0 : lenAt R k = 0) :
    Calls Try.prog 50 #[.pointer (some ⟨p, 0, none⟩), .int .i64 k] w fun e w' => e = .returned (.tuple #[.slice none 0 0, .bool false]) ∧ w = w' := by
  have hcl : ∀ W, Calls Try.prog 65 #[.slice none 0 0] W fun e w' => e = .returned (.slice none 0 0) ∧ w' = W := fun W => AnyE.slices_Clone_nil Try.cloneA 0 0 W
  go_enter Try.func50, Try.ntmps50
  go_wp2_with fail
  refine (region_no h hw h0).mono ?_; rintro e w' ⟨rfl, rfl⟩
  go_wp2_with fail
  refine (hcl _).mono ?_; rintro e w' ⟨rfl, rfl⟩
  go_wp2
  go_ret2
  exact ⟨rfl, rfl⟩
theorem words_yes {w : World} {p g bm n : Nat} {ws : List Int} {R : List (Nat × Nat)} {r : Nat × Nat} (h : ArenaAt w p g bm n ws R) (hr : r ∈ R) :
    Calls Try.prog 50 #[.pointer (some ⟨p, 0, none⟩), .int .i64 r.1] w fun e w' => ∃ v, e = .returned (.tuple #[v, .bool true]) ∧ w'.ownsRow w.heap.size 29 1 v r.2 (((ws.drop r.1).take r.2).map fun x => Value.int .u64 x) ∧ Ext w w' := by
  obtain ⟨h1, h2⟩ := h.good.2 r hr
  have hn := h.least
  have hl := h.len
  obtain ⟨i0, hi, hz0, hz1, hz2⟩ := info_parts info_u64
  have hcl : Calls Try.prog 65 #[.slice (some ⟨g, r.1, none⟩) r.2 (n - r.1)] w fun e w' => ∃ v', e = .returned v' ∧ w'.ownsRow w.heap.size 29 1 v' r.2 (((ws.drop r.1).take r.2).map fun x => Value.int .u64 x) ∧ v' ≠ .slice none 0 0 ∧ Below w.heap.size w w' :=
    AnyE.slices_Clone Try.cloneA i0 (.int .u64 0) 1 8 hi hz0 hz1 hz2 rfl (by decide) (fun W => by kernel_rfl) g r.1 r.2 (n - r.1) (((ws.drop r.1).take r.2).map fun x => Value.int .u64 x) w
      (by rw [List.length_map, List.length_take, List.length_drop]; omega) (by unfold maxLen; omega) (by omega)
      (fun j u hj => by
        rw [List.getElem?_map] at hj
        obtain ⟨x, hx, rfl⟩ := Option.map_eq_some_iff.1 hj
        have hjl : j < ((ws.drop r.1).take r.2).length := (List.getElem?_eq_some_iff.1 hx).1
        rw [List.length_take, List.length_drop] at hjl
        rw [List.getElem?_take_of_lt (by omega), List.getElem?_drop] at hx
        rw [(h.word (i := r.1 + j) (by omega)).1, List.getD_eq_getElem?_getD, hx]; rfl)
      (fun u hu => by obtain ⟨x, _, rfl⟩ := List.mem_map.1 hu; rfl)
  have HCL := Lib.hid hcl
  have HRG := Lib.hid (region_yes h hr)
  have i1 : (0 : Int) < (r.2 : Int) := by omega
  clear hcl h hi hz0 hz1 hz2
  go_enter Try.func50, Try.ntmps50
  go_wp2_with fail
  refine HRG.out.mono ?_; rintro e w' ⟨rfl, rfl⟩
  go_wp2_with fail
  refine HCL.out.mono ?_; rintro e w1 ⟨v, rfl, hrow, _, hx⟩
  go_wp2
  go_ret2
  exact ⟨v, by simp; omega, hrow, hx⟩
end Go.Proofs.Ytlffmcadchbheaa
/- The walk of the arena's wakes. -/
namespace Go.Proofs.Ytlffmcadchbheaa
open Go.RowKit Go.Maps Arena
set_option maxHeartbeats 4000000
set_option maxRecDepth 100000
def TrueExt (w : World) (e : Ending) (w' : World) : Prop := e = .returned (.bool true) ∧ Ext w w'
theorem cut_yes {w : World} {p g bm n : Nat} {ws : List Int} {R R' : List (Nat × Nat)} {k at_ : Nat} (h : ArenaAt w p g bm n ws R) (hk : 1 ≤ k) (hk2 : k ≤ 9223372036854775807) (hs : scan k 0 R = at_) (hfit : at_ + k ≤ n) (hR : ins (at_, k) R = R') :
    Calls Try.prog 35 #[.pointer (some ⟨p, 0, none⟩), .int .i64 k] w fun e w' => e = .returned (.tuple #[.int .i64 at_, .bool true]) ∧ ArenaAt w' p g bm n (setMany ws at_ (List.replicate k 0)) R' ∧ Turn [g, bm] w w' := by
  subst hs; subst hR
  refine (cut_is h hk hk2).mono ?_
  rintro e w' (⟨_, h1, h2, h3⟩ | ⟨h1, _⟩)
  · exact ⟨h1, h2, h3⟩
  · exact absurd hfit h1
theorem cut_no {w : World} {p g bm n : Nat} {ws : List Int} {R : List (Nat × Nat)} {k : Nat} (h : ArenaAt w p g bm n ws R) (hk : 1 ≤ k) (hk2 : k ≤ 9223372036854775807) (hfit : ¬ scan k 0 R + k ≤ n) :
    Calls Try.prog 35 #[.pointer (some ⟨p, 0, none⟩), .int .i64 k] w fun e w' => e = .returned (.tuple #[.int .i64 0, .bool false]) ∧ ArenaAt w' p g bm n ws R ∧ Turn [] w w' := by
  refine (cut_is h hk hk2).mono ?_
  rintro e w' (⟨h1, _⟩ | ⟨_, h1, h2⟩)
  · exact absurd h1 hfit
  · exact ⟨h1, h.ext h2, Turn.of_ext h2⟩
theorem word_lit (w : World) (l : List Int) (hl : l.length ≤ 1000) (T : TypeId) : WordSl (w.alloc (.cells (l.map fun x => Value.int .u64 x).toArray T)) (.slice (some ⟨w.heap.size, 0, none⟩) l.length l.length) l := by
  refine ⟨_, _, rfl, Nat.le_refl _, by unfold maxLen; omega, fun i x hx => ⟨w.heap.size, 0, rfl, ?_⟩⟩
  have hb := heap_alloc_new w (.cells (l.map fun x => Value.int .u64 x).toArray T)
  simp only [World.cell?, hb, Nat.zero_add]
  simp [hx]
theorem pair_lit (w : World) (l : List (Nat × Nat)) (hl : l.length ≤ 1000) (T : TypeId) : PairSl (w.alloc (.cells (l.flatMap pairC).toArray T)) (.slice (some ⟨w.heap.size, 0, none⟩) l.length l.length) l := by
  refine ⟨_, _, rfl, Nat.le_refl _, by unfold maxLen; omega, fun i x hx => ⟨w.heap.size, 0, rfl, ?_⟩⟩
  have hb := heap_alloc_new w (.cells (l.flatMap pairC).toArray T)
  have hf := flat2 l i x hx
  constructor
  · simp only [World.cell?, hb, Nat.zero_add]
    simp [hf.1]
  · simp only [World.cell?, hb, Nat.zero_add]
    simp [hf.2]
end Go.Proofs.Ytlffmcadchbheaa
/- Arguments that were read are read again behind a call that turned nothing of what lay before it. -/
namespace Go.Proofs.Ytlffmcadchbheaa
open Go.ChangeShapes Go.WideShapes Go.ChangeAt Go.RowKit
theorem args_stay {H : Type} {enc : TypeId × Value → H} {P : Program} {W W' : World} {sp' : Nat → Bool} (hl : laidOutB P = true) :
    ∀ {ts : List TypeId} {vs : List Value} {ds : List (DataW H)} {ps : List MemPlace}, (∀ t ∈ ts, P.readableRec t = true ∧ t < P.types.size) → DataW.TrodAll enc P W 0 (fun _ => true) true ts vs ds ps →
      (∀ p ∈ ps, W.sameAt W' p) → (∀ p ∈ ps, sp' p.block = true) → DataW.TrodAll enc P W' 0 sp' true ts vs ds ps := by
  intro ts
  induction ts with
  | nil =>
    intro vs ds ps _ h _ _
    obtain ⟨rfl, rfl, rfl⟩ := trodAll_nil h
    exact trodAll_mk0
  | cons t ts ih =>
    intro vs ds ps hr h hsame hs
    obtain ⟨v, vs', d, ds', p, q, rfl, rfl, rfl, h0, r0⟩ := trodAll_cons h
    have ht := hr t (.head _)
    exact trodAll_cons_mk (WideElems.Trod_stays hl ht.1 ht.2 h0 (fun x hx => hsame x (List.mem_append_left _ hx)) (fun x hx => hs x (List.mem_append_left _ hx)))
      (ih (fun t ht => hr t (.tail _ ht)) r0 (fun x hx => hsame x (List.mem_append_right _ hx)) (fun x hx => hs x (List.mem_append_right _ hx)))
end Go.Proofs.Ytlffmcadchbheaa
/- A slice among the arguments, whatever its elements: each element's cells, and that they read. -/
namespace Go.Proofs.Ytlffmcadchbheaa
open Go.ChangeShapes Go.WideShapes Go.ChangeAt Go.RowKit Go.Deep
/-- a slice whose elements are rows of s cells, wherever it lies -/
def RowsSl (w : World) (v : Value) (s : Nat) (l : List (List Value)) : Prop := ∃ q c, v = .slice q l.length c ∧ l.length ≤ c ∧ c ≤ maxLen ∧
  ∀ (i : Nat) (cs : List Value), l[i]? = some cs → cs.length = s ∧ ∃ b off, q = some ⟨b, off, none⟩ ∧ ∀ (f : Nat) (u : Value), cs[f]? = some u → w.cell? ⟨b, off + i * s + f, none⟩ = some u
theorem RowsSl.ext {w w' : World} {v : Value} {s : Nat} {l : List (List Value)} (h : RowsSl w v s l) (e : Ext w w') : RowsSl w' v s l := by
  obtain ⟨q, c, hv, h1, h2, hc⟩ := h
  exact ⟨q, c, hv, h1, h2, fun i cs hcs => by obtain ⟨hl, b, off, hq, hf⟩ := hc i cs hcs; exact ⟨hl, b, off, hq, fun f u hu => e.cell (hf f u hu)⟩⟩
/-- what an argument's element reads as -/
def ReadsAs {H : Type} (enc : TypeId × Value → H) (P : Program) (w : World) (e : TypeId) (cs : List Value) : Prop := ∃ n x, DataW.trod enc P w 0 (fun _ => true) true n e cs = some x
theorem open_rows {H : Type} {enc : TypeId × Value → H} {P : Program} {w : World} {base : Nat} {t e : TypeId} {s : Nat} {v : Value} {d : DataW H} {ps : List MemPlace} (ht : P.underlying t = some (.slice e)) (hs : P.cellsOf e = s) (h1 : 1 ≤ s)
    (hval : Value.okWide P w .any base t v) (h : DataW.Trod enc P w 0 (fun _ => true) true t v d ps) : ∃ l, RowsSl w v s l ∧ ∀ cs ∈ l, ReadsAs enc P w e cs := by
  obtain ⟨a0, len, cap, rfl⟩ := okWide_slice ht hval
  obtain ⟨fuel, hf⟩ := h
  simp only [Value.cells] at hf
  rcases open_slice ht hf with ⟨hcs, _⟩ | ⟨a, len', cap', m, n, D, Pl, hcs, _, hlc, hcm, hm, _, hel⟩
  · simp only [List.cons.injEq, and_true, Value.slice.injEq] at hcs
    obtain ⟨rfl, rfl, rfl⟩ := hcs
    exact ⟨[], ⟨none, 0, rfl, Nat.le_refl _, Nat.zero_le _, fun i cs h => by simp at h⟩, fun cs h => by cases h⟩
  · simp only [List.cons.injEq, and_true, Value.slice.injEq] at hcs
    obtain ⟨rfl, rfl, rfl⟩ := hcs
    simp only [if_true] at hm
    rw [hs] at hel
    rw [hm] at hel
    obtain ⟨V, hV⟩ := choose_lt (n := cap) (p := fun i cs => w.cells? 0 (a.add (i * s)) s = some cs ∧ DataW.trod enc P w 0 (fun _ => true) true n e cs = some (D i, Pl i)) (fun i hi => hel i hi)
    have hl : ((List.range len).map V).length = len := by simp
    refine ⟨(List.range len).map V, ⟨some a, cap, by rw [hl], by rw [hl]; exact hlc, hcm, fun i cs hi => ?_⟩, fun cs hcs => ?_⟩
    · have hil : i < len := by have := (List.getElem?_eq_some_iff.1 hi).1; simpa using this
      have hcs : V i = cs := by simpa [hil] using hi
      subst hcs
      obtain ⟨_, hlen, hcell⟩ := World.cells?_some (hV i (by omega)).1
      obtain ⟨_, hlen0, hcell0⟩ := World.cells?_some (hV 0 (by omega)).1
      have hc0 := hcell0 0 (by omega)
      rw [List.getElem?_eq_getElem (by omega : 0 < (V 0).length), Go.Deep.add_add] at hc0
      obtain ⟨b, off, spot⟩ := a
      have hspot : spot = none := by simpa [Addr.add] using World.cell?_spot hc0
      subst hspot
      refine ⟨hlen, b, off, rfl, fun f u hu => ?_⟩
      have hfl : f < s := by rw [← hlen]; exact (List.getElem?_eq_some_iff.1 hu).1
      have := hcell f hfl
      rw [Go.Deep.add_add, add_plain, hu] at this
      rw [Nat.add_assoc]
      exact this
    · obtain ⟨i, hi, rfl⟩ := List.mem_map.1 hcs
      have hil := List.mem_range.1 hi
      exact ⟨n, _, (hV i (by omega)).2⟩
end Go.Proofs.Ytlffmcadchbheaa
/- Steps among the arguments; keep.Mod; what is set in one region leaves another's words. -/
namespace Go.Proofs.Ytlffmcadchbheaa
open Go.ChangeShapes Go.WideShapes Go.ChangeAt Go.RowKit Arena
set_option maxHeartbeats 4000000
set_option maxRecDepth 100000
structure StepD where
  kind : Int
  n : Int
  at_ : Int
  wd : Int
/-- a slice that reads as steps, wherever it lies -/
def StepSl (w : World) (v : Value) (l : List StepD) : Prop := ∃ q c, v = .slice q l.length c ∧ l.length ≤ c ∧ c ≤ maxLen ∧
  ∀ (i : Nat) (x : StepD), l[i]? = some x → (Lit.int .i64 x.n).wf = true ∧ (Lit.int .i64 x.at_).wf = true ∧ ∃ b off, q = some ⟨b, off, none⟩ ∧ w.cell? ⟨b, off + i * 4, none⟩ = some (.int .i64 x.kind) ∧
    w.cell? ⟨b, off + i * 4 + 1, none⟩ = some (.int .i64 x.n) ∧ w.cell? ⟨b, off + i * 4 + 2, none⟩ = some (.int .i64 x.at_) ∧ w.cell? ⟨b, off + i * 4 + 3, none⟩ = some (.int .u64 x.wd)
theorem setMany_below : ∀ (vs ws : List Int) (o : Nat) {i : Nat}, i < o → (setMany ws o vs)[i]? = ws[i]? := by
  intro vs
  induction vs with
  | nil => intro ws o i _; rfl
  | cons v vs ih =>
    intro ws o i h
    show (setMany (ws.set o v) (o + 1) vs)[i]? = _
    rw [ih _ _ (by omega), List.getElem?_set_ne (by omega)]
/-- a region's words -/
def wordsOf (ws : List Int) (r : Nat × Nat) : List Int := (ws.drop r.1).take r.2
theorem words_apart {n : Nat} {R : List (Nat × Nat)} {ws : List Int} (hg : Arena.Good n R) {i j : Nat} (hi : i < R.length) (hj : j < R.length) (hne : i ≠ j) {a : Nat} (ha : a < R[i].2) (v : Int) : wordsOf (ws.set (R[i].1 + a) v) R[j] = wordsOf ws R[j] := by
  have hap : R[i].1 + R[i].2 ≤ R[j].1 ∨ R[j].1 + R[j].2 ≤ R[i].1 := by
    rcases Nat.lt_or_gt_of_ne hne with h | h
    · exact .inl (List.pairwise_iff_getElem.1 hg.1 i j hi hj h)
    · exact .inr (List.pairwise_iff_getElem.1 hg.1 j i hj hi h)
  unfold wordsOf
  apply List.ext_getElem?
  intro x
  by_cases hx : x < R[j].2
  · rw [List.getElem?_take_of_lt hx, List.getElem?_take_of_lt hx, List.getElem?_drop, List.getElem?_drop, List.getElem?_set_ne (by omega)]
  · rw [List.getElem?_eq_none (by rw [List.length_take]; omega), List.getElem?_eq_none (by rw [List.length_take]; omega)]
theorem wordsOf_length {n : Nat} {R : List (Nat × Nat)} {ws : List Int} (hg : Arena.Good n R) (hl : ws.length = n) {r : Nat × Nat} (hr : r ∈ R) : (wordsOf ws r).length = r.2 := by
  have := (hg.2 r hr).2
  unfold wordsOf
  rw [List.length_take, List.length_drop]
  omega
/-- a cut's words are 0 -/
theorem wordsOf_cut {ws : List Int} : ∀ (k o : Nat), o + k ≤ ws.length → wordsOf (setMany ws o (List.replicate k 0)) (o, k) = List.replicate k 0 := by
  intro k
  induction k generalizing ws with
  | zero => intro o _; simp [wordsOf]
  | succ k ih =>
    intro o h
    have h2 := ih (ws := ws.set o 0) (o + 1) (by rw [List.length_set]; omega)
    rw [List.replicate_succ]
    show wordsOf (setMany (ws.set o 0) (o + 1) (List.replicate k 0)) (o, k + 1) = _
    have hz : (setMany (ws.set o 0) (o + 1) (List.replicate k 0))[o]? = some 0 := by
      rw [setMany_below _ _ _ (by omega), List.getElem?_set_self (by omega)]
    unfold wordsOf at h2 ⊢
    dsimp only at h2 ⊢
    have hlt : o < (setMany (ws.set o 0) (o + 1) (List.replicate k 0)).length := (List.getElem?_eq_some_iff.1 hz).1
    rw [List.drop_eq_getElem_cons hlt, List.take_succ_cons, h2]
    congr 1
    rw [List.getElem?_eq_getElem hlt] at hz
    exact Option.some.inj hz
end Go.Proofs.Ytlffmcadchbheaa
