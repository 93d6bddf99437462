/- Proved here: the contracts and laws of ArenaC, ArenaD, ArenaX, Args, RowsIn, ArenaT, RefaD, RefaE, ObjJ, ObjK, ObjL, ObjM of this claim, each beneath its own remark; conditions: those that each theorem names. -/
import Derived.Test.YtppkgfcobnknfaaGreatDoorM3
import Derived.Test.YtppkgfcobnknfaaGreatDoorM1
import Derived.Lib.SliceRun
import Derived.Deep.OwnRows
import Derived.ProofKit
import Derived.OpenShut
import Derived.Deep.DeepHandedRow
import Derived.SizedLaws
import Derived.Deep.Slices
import Derived.Deep.AppendLies
import Derived.Deep.CutBlock
/- The walk of an arena's Cut. -/
namespace Go.Proofs.YtppkgfcobnknfaaGreatDoor
open Go.RowKit Go.Maps Arena
set_option maxHeartbeats 2000000
set_option maxRecDepth 100000
/-- what a row of places is good for -/
theorem row_any {w : World} {base : Nat} {v : Value} {R : List (Nat × Nat)} (h : w.ownsRow base 3 1 v R.length (R.map fun r => Value.int .i64 r.1)) : ∃ q c, v = .slice q R.length c ∧ R.length ≤ c ∧ c ≤ maxLen ∧
    ∀ (i : Nat) (x : Nat × Nat), R[i]? = some x → ∃ s, q = some ⟨s, 0, none⟩ ∧ w.cell? ⟨s, i, none⟩ = some (.int .i64 x.1) := by
  rcases h.2 with ⟨h1, h2⟩ | ⟨g, cap, cur, h1, hb, hg, h2, h3, h4, h5⟩
  · refine ⟨none, 0, by rw [h1, h2], by omega, Nat.zero_le _, fun i x hx => ?_⟩
    have := (List.getElem?_eq_some_iff.1 hx).1
    omega
  · refine ⟨_, cap, h1, h2, h3, fun i x hx => ⟨g, rfl, ?_⟩⟩
    subst h1
    have hi : i < R.length := (List.getElem?_eq_some_iff.1 hx).1
    rw [World.ownsRow.cellAt h i (by omega), List.getElem?_map, hx]
    rfl
/-- words from a place on set to others -/
def setMany (ws : List Int) (o : Nat) : List Int → List Int
  | [] => ws
  | v :: vs => setMany (ws.set o v) (o + 1) vs
theorem setMany_length (vs : List Int) : ∀ (ws : List Int) (o : Nat), (setMany ws o vs).length = ws.length := by
  induction vs with
  | nil => intro ws o; rfl
  | cons v vs ih => intro ws o; rw [setMany, ih, List.length_set]
theorem ArenaAt.stores {p g bm n : Nat} {R : List (Nat × Nat)} (vs : List Int) : ∀ {w : World} {ws : List Int} (o : Nat), ArenaAt w p g bm n ws R → ArenaAt (w.setCells g o (vs.map fun x => Value.int .u64 x)) p g bm n (setMany ws o vs) R ∧ Turn [g] w (w.setCells g o (vs.map fun x => Value.int .u64 x)) := by
  induction vs with
  | nil => intro w ws o h; exact ⟨h, Turn.refl _ _⟩
  | cons v vs ih =>
    intro w ws o h
    obtain ⟨h1, h2⟩ := ih (o + 1) (h.store o v)
    exact ⟨h1, ((Turn.refl [g] w).setCell (.inl (by simp)) _).trans h2⟩
theorem ArenaAt.cutRow {w w1 : World} {p g bm n : Nat} {ws : List Int} {R : List (Nat × Nat)} {k : Nat} (h : ArenaAt w p g bm n ws R) (hk : 1 ≤ k) (hn : scan k 0 R + k ≤ n)
    (ho : w1.ownsMap Tryz.prog 3 (plainElem Tryz.prog 3) bm (R.length + 1) ((regD R).put (.int .i64 (scan k 0 R)) (.lit (.int .i64 k)))) (hg : w.grownBy w1 (some bm)) :
    ArenaAt w1 p g bm n ws (ins (scan k 0 R, k) R) ∧ Turn [bm] w w1 := by
  have ht : Turn [bm] w w1 := Turn.of_grown hg (fun b hb => .inl (by cases hb; exact .head _))
  obtain ⟨lp, lg, lm⟩ := h.lt
  rw [regD_put (x := (scan k 0 R, k)) (scan_ne h.good hk)] at ho
  refine ⟨⟨?_, ?_, h.len, owns_size ho, good_cut h.good hk hn, h.pg, h.pm, h.gm, h.least⟩, ht⟩
  · rw [ht.block p lp (by simp; exact h.pm)]; exact h.row
  · rw [ht.block g lg (by simp; exact h.gm)]; exact h.words
theorem scan_round {k a : Nat} {r : Nat × Nat} {R : List (Nat × Nat)} : (a + k ≤ r.1 → scan k a (r :: R) = a) ∧ (¬ a + k ≤ r.1 → scan k a (r :: R) = scan k (r.1 + r.2) R) := by
  constructor <;> intro h <;> simp [scan, h]
theorem clear_run {w : World} {p g bm n a k : Nat} {ws : List Int} {R : List (Nat × Nat)} (h : ArenaAt w p g bm n ws R) (hk : 1 ≤ k) (hfit : a + k ≤ n) (ty : TypeId) :
    (Builtin.clear_ #[22] ty #[.slice (some ⟨g, a, none⟩) k (n - a)]).run Tryz.prog w = .ok (.tuple #[]) (w.setCells g a ((List.replicate k 0).map fun x => Value.int .u64 x)) := by
  rw [List.map_replicate]
  exact Lib.run_clear_slice w 22 42 ty (.int .u64 0) Tryz.underlying22 (fun _ => by kernel_rfl) rfl rfl g a k (n - a) hk
    (fun j hj => by rw [(h.word (i := a + j) (by omega)).1]; rfl) (fun j hj => (h.word (i := a + j) (by omega)).2)
theorem cut_small {w : World} {p : Nat} {k : Int} (hk : k < 1) : Calls Tryz.prog 26 #[.pointer (some ⟨p, 0, none⟩), .int .i64 k] w fun e w' => e = .returned (.tuple #[.int .i64 0, .bool false]) ∧ w = w' := by
  go_enter Tryz.func26, Tryz.ntmps26
  go_wp2
  go_ret2
  exact ⟨rfl, rfl⟩
theorem cut_is {w : World} {p g bm n : Nat} {ws : List Int} {R : List (Nat × Nat)} {k : Nat} (h : ArenaAt w p g bm n ws R) (hk : 1 ≤ k) (hk2 : k ≤ 9223372036854775807) :
    Calls Tryz.prog 26 #[.pointer (some ⟨p, 0, none⟩), .int .i64 k] w fun e w' =>
      (scan k 0 R + k ≤ n ∧ e = .returned (.tuple #[.int .i64 (scan k 0 R), .bool true]) ∧ ArenaAt w' p g bm n (setMany ws (scan k 0 R) (List.replicate k 0)) (ins (scan k 0 R, k) R) ∧ Turn [g, bm] w w') ∨
      (¬ scan k 0 R + k ≤ n ∧ e = .returned (.tuple #[.int .i64 0, .bool false]) ∧ Ext w w') := by
  have hn := h.least
  have HA := Lib.hid h
  clear h
  go_enter Tryz.func26, Tryz.ntmps26
  go_wp2_with fail
  refine (bases_is HA.out).mono ?_; rintro e w1 ⟨v, rfl, hrow, hx⟩
  obtain ⟨q, c, rfl, hc1, hc2, hcell⟩ := row_any hrow
  have h1 := HA.out.ext hx
  obtain ⟨c0, c1⟩ := h1.cells
  have HX := Lib.hid hx; have H1 := Lib.hid h1; have HC := Lib.hid hcell
  have hle := scan_le (k := k) R 0 h1.good (Nat.zero_le _)
  clear hx h1 hcell hrow
  unfold maxLen at hc2
  go_wp2_with fail
  go_loop [6, 18] (fun at_ i => ∃ j a : Nat, j ≤ R.length ∧ i = .int .i64 j ∧ at_ = .int .i64 a ∧ a ≤ n ∧ scan k 0 R = scan k a (R.drop j)) (fun _ i => R.length - (Go.RowKit.intOf i).toNat)
  case atStart => exact ⟨0, 0, by omega, rfl, rfl, Nat.zero_le _, rfl⟩
  case round =>
    obtain ⟨j, a, hj, rfl, rfl, ha, hsc⟩ := hrel
    by_cases hlt : j < R.length
    · have hxj : R[j]? = some R[j] := List.getElem?_eq_getElem hlt
      have hd : R.drop j = R[j] :: R.drop (j + 1) := List.drop_eq_getElem_cons hlt
      have hmem : R[j] ∈ R := List.getElem_mem hlt
      obtain ⟨s, rfl, hcj⟩ := HC.out j _ hxj
      have hb := H1.out.good.2 R[j] hmem
      have hlk := look_len (k := (R[j].1 : Int)) H1.out (WalkArith.wf_i64 (by omega))
      rw [lenAt_mem H1.out.good hmem] at hlk
      rw [hd] at hsc
      generalize R[j] = x at *
      obtain ⟨xb, xl⟩ := x
      dsimp only at hcj hb hlk
      obtain ⟨hb1, hb2⟩ := hb
      have i1 : (j : Int) < (R.length : Int) := by omega
      clear hxj hd hmem
      by_cases hroom : a + k ≤ xb
      · have g1 : (k : Int) ≤ (xb : Int) - (a : Int) := by omega
        have hs2 : scan k 0 R = a := hsc.trans ((scan_round (r := (xb, xl)) (R := R.drop (j + 1))).1 hroom)
        have HS := Lib.hid hs2
        clear hsc hs2 hlk
        by_cases hfit : a + k ≤ n
        · have f1 : ¬ ((n : Int) - (a : Int) < (k : Int)) := by omega
          have hwa : (Lit.int .i64 (a : Int)).wf = true := WalkArith.wf_i64 (by omega)
          have hwk : (Lit.int .i64 (k : Int)).wf = true := WalkArith.wf_i64 (by omega)
          have hfit2 : scan k 0 R + k ≤ n := by rw [HS.out]; exact hfit
          have HF := Lib.hid hfit2
          have hrl := good_len H1.out.good
          have HM := Lib.hid H1.out.regs
          clear hfit2
          go_wp2_with (at_mapUpdate; refine wpList_mapUpdate_own _ rfl _ _ _ 114 rfl 3 3 int_law Tryz.underlying114 _ bm R.length _ rfl HM.out (by unfold maxLen; omega) _ _ _ rfl rfl (key_int hwa) _ [] (plainElem_int Tryz.underlying3 hwk) ?_; intro w2 hown2 hgrow2; have hcr := ArenaAt.cutRow (k := k) H1.out hk HF.out (by rw [HS.out]; exact hown2) hgrow2; obtain ⟨d0, d1⟩ := hcr.1.cells; have HCR := Lib.hid hcr; clear hcr; have hcl := fun ty => clear_run (k := k) (a := a) HCR.out.1 hk hfit ty)
          go_ret2
          obtain ⟨s1, s2⟩ := HCR.out.1.stores (List.replicate k 0) a
          rw [List.map_replicate] at s1 s2
          refine .inl ⟨HF.out, by rw [HS.out]; rfl, by rw [HS.out] at s1 ⊢; exact s1, ?_⟩
          exact ((Turn.of_ext (bs := [g, bm]) HX.out).trans (Turn.mono (cs := [g, bm]) HCR.out.2 (by simp))).trans (Turn.mono (cs := [g, bm]) s2 (by simp))
        · have f1 : decide ((n : Int) - (a : Int) < (k : Int)) = true := decide_eq_true (by omega)
          have hfit2 : ¬ scan k 0 R + k ≤ n := by rw [HS.out]; exact hfit
          have HF := Lib.hid hfit2
          clear hfit2 hfit
          go_wp2_with fail
          go_ret2
          exact .inr ⟨by have := HF.out; omega, rfl, HX.out⟩
      · have g1 : ¬ ((k : Int) ≤ (xb : Int) - (a : Int)) := by omega
        have hs2 : scan k 0 R = scan k (xb + xl) (R.drop (j + 1)) := hsc.trans ((scan_round (r := (xb, xl)) (R := R.drop (j + 1))).2 hroom)
        have HS := Lib.hid hs2
        clear hsc hs2
        go_wp2_with fail
        exact ⟨⟨j + 1, xb + xl, by omega, by go_num, by go_num, by omega, HS.out⟩, by simp [Go.RowKit.intOf]; omega⟩
    · obtain rfl : j = R.length := by omega
      have hs2 : scan k 0 R = a := by rw [hsc, List.drop_eq_nil_of_le (Nat.le_refl _)]; rfl
      have HS := Lib.hid hs2
      clear hsc hs2
      by_cases hfit : a + k ≤ n
      · have f1 : ¬ ((n : Int) - (a : Int) < (k : Int)) := by omega
        have hwa : (Lit.int .i64 (a : Int)).wf = true := WalkArith.wf_i64 (by omega)
        have hwk : (Lit.int .i64 (k : Int)).wf = true := WalkArith.wf_i64 (by omega)
        have hfit2 : scan k 0 R + k ≤ n := by rw [HS.out]; exact hfit
        have HF := Lib.hid hfit2
        have hrl := good_len H1.out.good
        have HM := Lib.hid H1.out.regs
        clear hfit2
        go_wp2_with (at_mapUpdate; refine wpList_mapUpdate_own _ rfl _ _ _ 114 rfl 3 3 int_law Tryz.underlying114 _ bm R.length _ rfl HM.out (by unfold maxLen; omega) _ _ _ rfl rfl (key_int hwa) _ [] (plainElem_int Tryz.underlying3 hwk) ?_; intro w2 hown2 hgrow2; have hcr := ArenaAt.cutRow (k := k) H1.out hk HF.out (by rw [HS.out]; exact hown2) hgrow2; obtain ⟨d0, d1⟩ := hcr.1.cells; have HCR := Lib.hid hcr; clear hcr; have hcl := fun ty => clear_run (k := k) (a := a) HCR.out.1 hk hfit ty)
        go_ret2
        obtain ⟨s1, s2⟩ := HCR.out.1.stores (List.replicate k 0) a
        rw [List.map_replicate] at s1 s2
        refine .inl ⟨HF.out, by rw [HS.out]; rfl, by rw [HS.out] at s1 ⊢; exact s1, ?_⟩
        exact ((Turn.of_ext (bs := [g, bm]) HX.out).trans (Turn.mono (cs := [g, bm]) HCR.out.2 (by simp))).trans (Turn.mono (cs := [g, bm]) s2 (by simp))
      · have f1 : decide ((n : Int) - (a : Int) < (k : Int)) = true := decide_eq_true (by omega)
        have hfit2 : ¬ scan k 0 R + k ≤ n := by rw [HS.out]; exact hfit
        have HF := Lib.hid hfit2
        clear hfit2 hfit
        go_wp2_with fail
        go_ret2
        exact .inr ⟨by have := HF.out; omega, rfl, HX.out⟩
end Go.Proofs.YtppkgfcobnknfaaGreatDoor
/- The walks of an arena's New, Words, Regions. -/
namespace Go.Proofs.YtppkgfcobnknfaaGreatDoor
open Go.RowKit Go.Maps Arena
set_option maxHeartbeats 2000000
set_option maxRecDepth 100000
theorem new_no {w : World} {n : Int} (hn : n < 1 ∨ 20000 < n) : Calls Tryz.prog 24 #[.int .i64 n] w fun e w' => e = .returned (.tuple #[.pointer none, .bool false]) ∧ w = w' := by
  by_cases h1 : n < 1
  · have b1 : decide (n < 1) = true := decide_eq_true h1
    go_enter Tryz.func24, Tryz.ntmps24
    go_wp2
    go_ret2
    exact ⟨rfl, rfl⟩
  · have b1 : decide (n < 1) = false := decide_eq_false h1
    have b2 : decide (20000 < n) = true := decide_eq_true (by omega)
    go_enter Tryz.func24, Tryz.ntmps24
    go_wp2
    go_ret2
    exact ⟨rfl, rfl⟩
theorem made_zeros (n : Nat) : madeCells #[Value.int .u64 0] n = ((List.replicate n (0 : Int)).map fun x => Value.int .u64 x).toArray := by
  apply Array.ext
  · simp [madeCells]
  · intro i h1 h2
    simp [madeCells, Nat.mod_one]
theorem arena_new (w : World) {n : Nat} (h2 : n ≤ 20000) : ArenaAt (((w.alloc (.cells (madeCells #[Value.int .u64 0] n) 42)).alloc (.map #[] 0)).alloc (.cells #[.slice (some ⟨w.heap.size, 0, none⟩) n n, .map (some (w.heap.size + 1))] 116)) (w.heap.size + 1 + 1) w.heap.size (w.heap.size + 1) n (List.replicate n 0) [] := by
  have e1 : (w.alloc (.cells (madeCells #[Value.int .u64 0] n) 42)).heap.size = w.heap.size + 1 := by simp
  have e2 : ((w.alloc (.cells (madeCells #[Value.int .u64 0] n) 42)).alloc (.map #[] 0)).heap.size = w.heap.size + 1 + 1 := by simp
  refine ⟨?_, ?_, by simp, ?_, good_nil n, by omega, by omega, by omega, h2⟩
  · have := heap_alloc_new ((w.alloc (.cells (madeCells #[Value.int .u64 0] n) 42)).alloc (.map #[] 0)) (.cells #[.slice (some ⟨w.heap.size, 0, none⟩) n n, .map (some (w.heap.size + 1))] 116)
    rw [e2] at this
    exact this
  · rw [Below.heap_alloc _ _ _ (by rw [e2]; omega), Below.heap_alloc _ _ _ (by rw [e1]; omega), ← made_zeros]
    exact heap_alloc_new w _
  · have := (World.ownsMap_made (H := Unit) (w.alloc (.cells (madeCells #[Value.int .u64 0] n) 42)) Tryz.prog 3 (plainElem Tryz.prog 3)).alloc (.cells #[.slice (some ⟨w.heap.size, 0, none⟩) n n, .map (some (w.heap.size + 1))] 116)
    rw [e1] at this
    exact this
theorem new_is {w : World} {n : Nat} (h1 : 1 ≤ n) (h2 : n ≤ 20000) : Calls Tryz.prog 24 #[.int .i64 n] w fun e w' =>
    ∃ p g bm, e = .returned (.tuple #[.pointer (some ⟨p, 0, none⟩), .bool true]) ∧ ArenaAt w' p g bm n (List.replicate n 0) [] ∧ Ext w w' ∧ w.heap.size ≤ p ∧ w.heap.size ≤ g ∧ w.heap.size ≤ bm := by
  have b1 : decide ((n : Int) < 1) = false := decide_eq_false (by omega)
  have b2 : decide (20000 < (n : Int)) = false := decide_eq_false (by omega)
  have hmk := run_make_row' (P := Tryz.prog) 22 42 (.int .u64 0) 8 Tryz.underlying22 info_u64 rfl .i64 .i64 n (by omega) (by omega)
  have hmm := @run_makeMap Tryz.prog
  go_enter Tryz.func24, Tryz.ntmps24
  go_wp2
  go_ret2
  exact ⟨w.heap.size + 1 + 1, w.heap.size, w.heap.size + 1, rfl, arena_new w h2, ((Ext.alloc _ _).trans (Ext.alloc _ _)).trans (Ext.alloc _ _), by omega, by omega, by omega⟩
theorem words_no {w : World} {p g bm n : Nat} {ws : List Int} {R : List (Nat × Nat)} {k : Int} (h : ArenaAt w p g bm n ws R) (hw : (Lit.int .i64 k).wf = true) (h0 : lenAt R k = 0) :
    Calls Tryz.prog 9 #[.pointer (some ⟨p, 0, none⟩), .int .i64 k] w fun e w' => e = .returned (.tuple #[.slice none 0 0, .bool false]) ∧ w = w' := by
  have hcl : ∀ W, Calls Tryz.prog 32 #[.slice none 0 0] W fun e w' => e = .returned (.slice none 0 0) ∧ w' = W := fun W => AnyE.slices_Clone_nil Tryz.cloneA 0 0 W
  go_enter Tryz.func9, Tryz.ntmps9
  go_wp2_with fail
  refine (region_no h hw h0).mono ?_; rintro e w' ⟨rfl, rfl⟩
  go_wp2_with fail
  refine (hcl _).mono ?_; rintro e w' ⟨rfl, rfl⟩
  go_wp2
  go_ret2
  exact ⟨rfl, rfl⟩
theorem words_yes {w : World} {p g bm n : Nat} {ws : List Int} {R : List (Nat × Nat)} {r : Nat × Nat} (h : ArenaAt w p g bm n ws R) (hr : r ∈ R) :
    Calls Tryz.prog 9 #[.pointer (some ⟨p, 0, none⟩), .int .i64 r.1] w fun e w' => ∃ v, e = .returned (.tuple #[v, .bool true]) ∧ w'.ownsRow w.heap.size 42 1 v r.2 (((ws.drop r.1).take r.2).map fun x => Value.int .u64 x) ∧ Ext w w' := by
  obtain ⟨h1, h2⟩ := h.good.2 r hr
  have hn := h.least
  have hl := h.len
  obtain ⟨i0, hi, hz0, hz1, hz2⟩ := info_parts info_u64
  have hcl : Calls Tryz.prog 32 #[.slice (some ⟨g, r.1, none⟩) r.2 (n - r.1)] w fun e w' => ∃ v', e = .returned v' ∧ w'.ownsRow w.heap.size 42 1 v' r.2 (((ws.drop r.1).take r.2).map fun x => Value.int .u64 x) ∧ v' ≠ .slice none 0 0 ∧ Below w.heap.size w w' :=
    AnyE.slices_Clone Tryz.cloneA i0 (.int .u64 0) 1 8 hi hz0 hz1 hz2 rfl (by decide) (fun W => by kernel_rfl) g r.1 r.2 (n - r.1) (((ws.drop r.1).take r.2).map fun x => Value.int .u64 x) w
      (by rw [List.length_map, List.length_take, List.length_drop]; omega) (by unfold maxLen; omega) (by omega)
      (fun j u hj => by
        rw [List.getElem?_map] at hj
        obtain ⟨x, hx, rfl⟩ := Option.map_eq_some_iff.1 hj
        have hjl : j < ((ws.drop r.1).take r.2).length := (List.getElem?_eq_some_iff.1 hx).1
        rw [List.length_take, List.length_drop] at hjl
        rw [List.getElem?_take_of_lt (by omega), List.getElem?_drop] at hx
        rw [(h.word (i := r.1 + j) (by omega)).1, List.getD_eq_getElem?_getD, hx]; rfl)
      (fun u hu => by obtain ⟨x, _, rfl⟩ := List.mem_map.1 hu; rfl)
  have HCL := Lib.hid hcl
  have HRG := Lib.hid (region_yes h hr)
  have i1 : (0 : Int) < (r.2 : Int) := by omega
  clear hcl h hi hz0 hz1 hz2
  go_enter Tryz.func9, Tryz.ntmps9
  go_wp2_with fail
  refine HRG.out.mono ?_; rintro e w' ⟨rfl, rfl⟩
  go_wp2_with fail
  refine HCL.out.mono ?_; rintro e w1 ⟨v, rfl, hrow, _, hx⟩
  go_wp2
  go_ret2
  exact ⟨v, by simp; omega, hrow, hx⟩
end Go.Proofs.YtppkgfcobnknfaaGreatDoor
/- The walk of the arena's wakes. -/
namespace Go.Proofs.YtppkgfcobnknfaaGreatDoor
open Go.RowKit Go.Maps Arena
set_option maxHeartbeats 4000000
set_option maxRecDepth 100000
def TrueExt (w : World) (e : Ending) (w' : World) : Prop := e = .returned (.bool true) ∧ Ext w w'
theorem cut_yes {w : World} {p g bm n : Nat} {ws : List Int} {R R' : List (Nat × Nat)} {k at_ : Nat} (h : ArenaAt w p g bm n ws R) (hk : 1 ≤ k) (hk2 : k ≤ 9223372036854775807) (hs : scan k 0 R = at_) (hfit : at_ + k ≤ n) (hR : ins (at_, k) R = R') :
    Calls Tryz.prog 26 #[.pointer (some ⟨p, 0, none⟩), .int .i64 k] w fun e w' => e = .returned (.tuple #[.int .i64 at_, .bool true]) ∧ ArenaAt w' p g bm n (setMany ws at_ (List.replicate k 0)) R' ∧ Turn [g, bm] w w' := by
  subst hs; subst hR
  refine (cut_is h hk hk2).mono ?_
  rintro e w' (⟨_, h1, h2, h3⟩ | ⟨h1, _⟩)
  · exact ⟨h1, h2, h3⟩
  · exact absurd hfit h1
theorem cut_no {w : World} {p g bm n : Nat} {ws : List Int} {R : List (Nat × Nat)} {k : Nat} (h : ArenaAt w p g bm n ws R) (hk : 1 ≤ k) (hk2 : k ≤ 9223372036854775807) (hfit : ¬ scan k 0 R + k ≤ n) :
    Calls Tryz.prog 26 #[.pointer (some ⟨p, 0, none⟩), .int .i64 k] w fun e w' => e = .returned (.tuple #[.int .i64 0, .bool false]) ∧ ArenaAt w' p g bm n ws R ∧ Turn [] w w' := by
  refine (cut_is h hk hk2).mono ?_
  rintro e w' (⟨h1, _⟩ | ⟨_, h1, h2⟩)
  · exact absurd h1 hfit
  · exact ⟨h1, h.ext h2, Turn.of_ext h2⟩
theorem word_lit (w : World) (l : List Int) (hl : l.length ≤ 1000) (T : TypeId) : WordSl (w.alloc (.cells (l.map fun x => Value.int .u64 x).toArray T)) (.slice (some ⟨w.heap.size, 0, none⟩) l.length l.length) l := by
  refine ⟨_, _, rfl, Nat.le_refl _, by unfold maxLen; omega, fun i x hx => ⟨w.heap.size, 0, rfl, ?_⟩⟩
  have hb := heap_alloc_new w (.cells (l.map fun x => Value.int .u64 x).toArray T)
  simp only [World.cell?, hb, Nat.zero_add]
  simp [hx]
theorem pair_lit (w : World) (l : List (Nat × Nat)) (hl : l.length ≤ 1000) (T : TypeId) : PairSl (w.alloc (.cells (l.flatMap pairC).toArray T)) (.slice (some ⟨w.heap.size, 0, none⟩) l.length l.length) l := by
  refine ⟨_, _, rfl, Nat.le_refl _, by unfold maxLen; omega, fun i x hx => ⟨w.heap.size, 0, rfl, ?_⟩⟩
  have hb := heap_alloc_new w (.cells (l.flatMap pairC).toArray T)
  have hf := flat2 l i x hx
  constructor
  · simp only [World.cell?, hb, Nat.zero_add]
    simp [hf.1]
  · simp only [World.cell?, hb, Nat.zero_add]
    simp [hf.2]
end Go.Proofs.YtppkgfcobnknfaaGreatDoor
/- Arguments that were read are read again behind a call that turned nothing of what lay before it. -/
namespace Go.Proofs.YtppkgfcobnknfaaGreatDoor
open Go.ChangeShapes Go.WideShapes Go.ChangeAt Go.RowKit
theorem args_stay {H : Type} {enc : TypeId × Value → H} {P : Program} {W W' : World} {sp' : Nat → Bool} (hl : laidOutB P = true) :
    ∀ {ts : List TypeId} {vs : List Value} {ds : List (DataW H)} {ps : List MemPlace}, (∀ t ∈ ts, P.readableRec t = true ∧ t < P.types.size) → DataW.TrodAll enc P W 0 (fun _ => true) true ts vs ds ps →
      (∀ p ∈ ps, W.sameAt W' p) → (∀ p ∈ ps, sp' p.block = true) → DataW.TrodAll enc P W' 0 sp' true ts vs ds ps := by
  intro ts
  induction ts with
  | nil =>
    intro vs ds ps _ h _ _
    obtain ⟨rfl, rfl, rfl⟩ := trodAll_nil h
    exact trodAll_mk0
  | cons t ts ih =>
    intro vs ds ps hr h hsame hs
    obtain ⟨v, vs', d, ds', p, q, rfl, rfl, rfl, h0, r0⟩ := trodAll_cons h
    have ht := hr t (.head _)
    exact trodAll_cons_mk (WideElems.Trod_stays hl ht.1 ht.2 h0 (fun x hx => hsame x (List.mem_append_left _ hx)) (fun x hx => hs x (List.mem_append_left _ hx)))
      (ih (fun t ht => hr t (.tail _ ht)) r0 (fun x hx => hsame x (List.mem_append_right _ hx)) (fun x hx => hs x (List.mem_append_right _ hx)))
end Go.Proofs.YtppkgfcobnknfaaGreatDoor
/- A slice among the arguments, whatever its elements: each element's cells, and that they read. -/
namespace Go.Proofs.YtppkgfcobnknfaaGreatDoor
open Go.ChangeShapes Go.WideShapes Go.ChangeAt Go.RowKit Go.Deep
/-- a slice whose elements are rows of s cells, wherever it lies -/
def RowsSl (w : World) (v : Value) (s : Nat) (l : List (List Value)) : Prop := ∃ q c, v = .slice q l.length c ∧ l.length ≤ c ∧ c ≤ maxLen ∧
  ∀ (i : Nat) (cs : List Value), l[i]? = some cs → cs.length = s ∧ ∃ b off, q = some ⟨b, off, none⟩ ∧ ∀ (f : Nat) (u : Value), cs[f]? = some u → w.cell? ⟨b, off + i * s + f, none⟩ = some u
theorem RowsSl.ext {w w' : World} {v : Value} {s : Nat} {l : List (List Value)} (h : RowsSl w v s l) (e : Ext w w') : RowsSl w' v s l := by
  obtain ⟨q, c, hv, h1, h2, hc⟩ := h
  exact ⟨q, c, hv, h1, h2, fun i cs hcs => by obtain ⟨hl, b, off, hq, hf⟩ := hc i cs hcs; exact ⟨hl, b, off, hq, fun f u hu => e.cell (hf f u hu)⟩⟩
/-- what an argument's element reads as -/
def ReadsAs {H : Type} (enc : TypeId × Value → H) (P : Program) (w : World) (e : TypeId) (cs : List Value) : Prop := ∃ n x, DataW.trod enc P w 0 (fun _ => true) true n e cs = some x
theorem open_rows {H : Type} {enc : TypeId × Value → H} {P : Program} {w : World} {base : Nat} {t e : TypeId} {s : Nat} {v : Value} {d : DataW H} {ps : List MemPlace} (ht : P.underlying t = some (.slice e)) (hs : P.cellsOf e = s) (h1 : 1 ≤ s)
    (hval : Value.okWide P w .any base t v) (h : DataW.Trod enc P w 0 (fun _ => true) true t v d ps) : ∃ l, RowsSl w v s l ∧ ∀ cs ∈ l, ReadsAs enc P w e cs := by
  obtain ⟨a0, len, cap, rfl⟩ := okWide_slice ht hval
  obtain ⟨fuel, hf⟩ := h
  simp only [Value.cells] at hf
  rcases open_slice ht hf with ⟨hcs, _⟩ | ⟨a, len', cap', m, n, D, Pl, hcs, _, hlc, hcm, hm, _, hel⟩
  · simp only [List.cons.injEq, and_true, Value.slice.injEq] at hcs
    obtain ⟨rfl, rfl, rfl⟩ := hcs
    exact ⟨[], ⟨none, 0, rfl, Nat.le_refl _, Nat.zero_le _, fun i cs h => by simp at h⟩, fun cs h => by cases h⟩
  · simp only [List.cons.injEq, and_true, Value.slice.injEq] at hcs
    obtain ⟨rfl, rfl, rfl⟩ := hcs
    simp only [if_true] at hm
    rw [hs] at hel
    rw [hm] at hel
    obtain ⟨V, hV⟩ := choose_lt (n := cap) (p := fun i cs => w.cells? 0 (a.add (i * s)) s = some cs ∧ DataW.trod enc P w 0 (fun _ => true) true n e cs = some (D i, Pl i)) (fun i hi => hel i hi)
    have hl : ((List.range len).map V).length = len := by simp
    refine ⟨(List.range len).map V, ⟨some a, cap, by rw [hl], by rw [hl]; exact hlc, hcm, fun i cs hi => ?_⟩, fun cs hcs => ?_⟩
    · have hil : i < len := by have := (List.getElem?_eq_some_iff.1 hi).1; simpa using this
      have hcs : V i = cs := by simpa [hil] using hi
      subst hcs
      obtain ⟨_, hlen, hcell⟩ := World.cells?_some (hV i (by omega)).1
      obtain ⟨_, hlen0, hcell0⟩ := World.cells?_some (hV 0 (by omega)).1
      have hc0 := hcell0 0 (by omega)
      rw [List.getElem?_eq_getElem (by omega : 0 < (V 0).length), Go.Deep.add_add] at hc0
      obtain ⟨b, off, spot⟩ := a
      have hspot : spot = none := by simpa [Addr.add] using World.cell?_spot hc0
      subst hspot
      refine ⟨hlen, b, off, rfl, fun f u hu => ?_⟩
      have hfl : f < s := by rw [← hlen]; exact (List.getElem?_eq_some_iff.1 hu).1
      have := hcell f hfl
      rw [Go.Deep.add_add, add_plain, hu] at this
      rw [Nat.add_assoc]
      exact this
    · obtain ⟨i, hi, rfl⟩ := List.mem_map.1 hcs
      have hil := List.mem_range.1 hi
      exact ⟨n, _, (hV i (by omega)).2⟩
end Go.Proofs.YtppkgfcobnknfaaGreatDoor
/- Steps among the arguments; keep.Mod; what is set in one region leaves another's words. -/
namespace Go.Proofs.YtppkgfcobnknfaaGreatDoor
open Go.ChangeShapes Go.WideShapes Go.ChangeAt Go.RowKit Arena
set_option maxHeartbeats 4000000
set_option maxRecDepth 100000
structure StepD where
  kind : Int
  n : Int
  at_ : Int
  wd : Int
/-- a slice that reads as steps, wherever it lies -/
def StepSl (w : World) (v : Value) (l : List StepD) : Prop := ∃ q c, v = .slice q l.length c ∧ l.length ≤ c ∧ c ≤ maxLen ∧
  ∀ (i : Nat) (x : StepD), l[i]? = some x → (Lit.int .i64 x.n).wf = true ∧ (Lit.int .i64 x.at_).wf = true ∧ ∃ b off, q = some ⟨b, off, none⟩ ∧ w.cell? ⟨b, off + i * 4, none⟩ = some (.int .i64 x.kind) ∧
    w.cell? ⟨b, off + i * 4 + 1, none⟩ = some (.int .i64 x.n) ∧ w.cell? ⟨b, off + i * 4 + 2, none⟩ = some (.int .i64 x.at_) ∧ w.cell? ⟨b, off + i * 4 + 3, none⟩ = some (.int .u64 x.wd)
theorem setMany_below : ∀ (vs ws : List Int) (o : Nat) {i : Nat}, i < o → (setMany ws o vs)[i]? = ws[i]? := by
  intro vs
  induction vs with
  | nil => intro ws o i _; rfl
  | cons v vs ih =>
    intro ws o i h
    show (setMany (ws.set o v) (o + 1) vs)[i]? = _
    rw [ih _ _ (by omega), List.getElem?_set_ne (by omega)]
/-- a region's words -/
def wordsOf (ws : List Int) (r : Nat × Nat) : List Int := (ws.drop r.1).take r.2
theorem words_apart {n : Nat} {R : List (Nat × Nat)} {ws : List Int} (hg : Arena.Good n R) {i j : Nat} (hi : i < R.length) (hj : j < R.length) (hne : i ≠ j) {a : Nat} (ha : a < R[i].2) (v : Int) : wordsOf (ws.set (R[i].1 + a) v) R[j] = wordsOf ws R[j] := by
  have hap : R[i].1 + R[i].2 ≤ R[j].1 ∨ R[j].1 + R[j].2 ≤ R[i].1 := by
    rcases Nat.lt_or_gt_of_ne hne with h | h
    · exact .inl (List.pairwise_iff_getElem.1 hg.1 i j hi hj h)
    · exact .inr (List.pairwise_iff_getElem.1 hg.1 j i hj hi h)
  unfold wordsOf
  apply List.ext_getElem?
  intro x
  by_cases hx : x < R[j].2
  · rw [List.getElem?_take_of_lt hx, List.getElem?_take_of_lt hx, List.getElem?_drop, List.getElem?_drop, List.getElem?_set_ne (by omega)]
  · rw [List.getElem?_eq_none (by rw [List.length_take]; omega), List.getElem?_eq_none (by rw [List.length_take]; omega)]
theorem wordsOf_length {n : Nat} {R : List (Nat × Nat)} {ws : List Int} (hg : Arena.Good n R) (hl : ws.length = n) {r : Nat × Nat} (hr : r ∈ R) : (wordsOf ws r).length = r.2 := by
  have := (hg.2 r hr).2
  unfold wordsOf
  rw [List.length_take, List.length_drop]
  omega
/-- a cut's words are 0 -/
theorem wordsOf_cut {ws : List Int} : ∀ (k o : Nat), o + k ≤ ws.length → wordsOf (setMany ws o (List.replicate k 0)) (o, k) = List.replicate k 0 := by
  intro k
  induction k generalizing ws with
  | zero => intro o _; simp [wordsOf]
  | succ k ih =>
    intro o h
    have h2 := ih (ws := ws.set o 0) (o + 1) (by rw [List.length_set]; omega)
    rw [List.replicate_succ]
    show wordsOf (setMany (ws.set o 0) (o + 1) (List.replicate k 0)) (o, k + 1) = _
    have hz : (setMany (ws.set o 0) (o + 1) (List.replicate k 0))[o]? = some 0 := by
      rw [setMany_below _ _ _ (by omega), List.getElem?_set_self (by omega)]
    unfold wordsOf at h2 ⊢
    dsimp only at h2 ⊢
    have hlt : o < (setMany (ws.set o 0) (o + 1) (List.replicate k 0)).length := (List.getElem?_eq_some_iff.1 hz).1
    rw [List.drop_eq_getElem_cons hlt, List.take_succ_cons, h2]
    congr 1
    rw [List.getElem?_eq_getElem hlt] at hz
    exact Option.some.inj hz
end Go.Proofs.YtppkgfcobnknfaaGreatDoor
/- The reference's arena: Cut. -/
namespace Go.Proofs.YtppkgfcobnknfaaGreatDoor
open Go.RowKit Go.Maps Arena
set_option maxHeartbeats 4000000
set_option maxRecDepth 100000
attribute [local go_sem ↓] Go.wp_at_zero Go.wp_at_succ
theorem ins_split {x : Nat × Nat} : ∀ (A L : List (Nat × Nat)), (∀ r ∈ A, r.1 < x.1) → (∀ r, L.head? = some r → x.1 < r.1) → ins x (A ++ L) = A ++ x :: L := by
  intro A
  induction A with
  | nil =>
    intro L _ hL
    cases L with
    | nil => rfl
    | cons y L =>
      have := hL y rfl
      simp [ins, this]
  | cons y A ih =>
    intro L hA hL
    have := hA y (.head _)
    rw [List.cons_append, List.cons_append]
    unfold ins
    rw [if_neg (by omega), ih L (fun r hr => hA r (.tail _ hr)) hL]
theorem setMany_snoc (v : Int) : ∀ (vs ws : List Int) (o : Nat), setMany ws o (vs ++ [v]) = (setMany ws o vs).set (o + vs.length) v := by
  intro vs
  induction vs with
  | nil => intro ws o; rfl
  | cons u vs ih =>
    intro ws o
    show setMany (ws.set o u) (o + 1) (vs ++ [v]) = _
    rw [ih]
    show _ = (setMany (ws.set o u) (o + 1) vs).set _ v
    rw [List.length_cons, show o + 1 + vs.length = o + (vs.length + 1) by omega]
/-- where the loop stands: every region ahead ends at or ahead of a; the scan goes on from there -/
def CutAt (k : Nat) (R : List (Nat × Nat)) (j a : Nat) : Prop := (∀ r ∈ R.take j, r.1 + r.2 ≤ a) ∧ scan k 0 R = scan k a (R.drop j)
theorem cutAt_next {n k : Nat} {R : List (Nat × Nat)} {j a : Nat} (hg : Arena.Good n R) (h : CutAt k R j a) (hj : j < R.length) (hno : ¬ a + k ≤ R[j].1) : CutAt k R (j + 1) (R[j].1 + R[j].2) := by
  refine ⟨fun r hr => ?_, ?_⟩
  · rw [List.take_succ_eq_append_getElem hj, List.mem_append, List.mem_singleton] at hr
    rcases hr with hr | rfl
    · obtain ⟨i, hi, rfl⟩ := List.getElem_of_mem hr
      rw [List.length_take] at hi
      rw [List.getElem_take]
      have := good_ne hg (i := i) (j := j) (by omega) hj
      omega
    · exact Nat.le_refl _
  · rw [h.2, List.drop_eq_getElem_cons hj]
    exact (scan_round (r := R[j]) (R := R.drop (j + 1))).2 hno
theorem cutAt_here {n k : Nat} {R : List (Nat × Nat)} {j a : Nat} (hk : 1 ≤ k) (hg : Arena.Good n R) (h : CutAt k R j a) (hj : j < R.length) (hyes : a + k ≤ R[j].1) : scan k 0 R = a ∧ ins (a, k) R = R.take j ++ (a, k) :: R.drop j := by
  refine ⟨by rw [h.2, List.drop_eq_getElem_cons hj]; exact (scan_round (r := R[j]) (R := R.drop (j + 1))).1 hyes, ?_⟩
  have := ins_split (x := (a, k)) (R.take j) (R.drop j) (fun r hr => ?_) (fun r hr => ?_)
  · rw [List.take_append_drop] at this; exact this
  · have h1 := h.1 r hr
    have h2 := (hg.2 r (List.mem_of_mem_take hr)).1
    simp; omega
  · rw [List.drop_eq_getElem_cons hj] at hr
    obtain rfl := Option.some.inj (show some R[j] = some r from hr)
    simp; omega
theorem cutAt_end {n k : Nat} {R : List (Nat × Nat)} {a : Nat} (hg : Arena.Good n R) (h : CutAt k R R.length a) : scan k 0 R = a ∧ ins (a, k) R = R.take R.length ++ (a, k) :: R.drop R.length := by
  refine ⟨by rw [h.2, List.drop_length]; rfl, ?_⟩
  have := ins_split (x := (a, k)) (R.take R.length) (R.drop R.length) (fun r hr => ?_) (fun r hr => ?_)
  · rw [List.take_append_drop] at this; exact this
  · have h1 := h.1 r hr
    have h2 := (hg.2 r (List.mem_of_mem_take hr)).1
    simp; omega
  · rw [List.drop_length] at hr; cases hr
theorem refcut_small {w : World} {q gq B n : Nat} {ws : List Int} {vR : Value} {R : List (Nat × Nat)} (h : RefAt w q gq B n ws vR R) {k : Int} (hk : k < 1) :
    Calls Tryz.prog 27 #[.pointer (some ⟨q, 0, none⟩), .int .i64 k] w fun e w' => e = .returned (.int .i64 (-1)) ∧ Ext w w' := by
  obtain ⟨qa, ca, rfl, la1, la2, hca⟩ := h.regs.sl
  obtain ⟨c0, c1, _⟩ := h.cells
  have HA := Lib.hid hca
  have HG := Lib.hid h.good
  have hrl := good_len h.good
  have hn := h.least
  have b0 : decide (k < 1) = true := decide_eq_true hk
  unfold maxLen at la2
  clear hca h
  go_enter Tryz.func27, Tryz.ntmps27
  go_wp2
  go_loopw [5, 6] (fun a j wx => ∃ (jj aa : Nat), jj ≤ R.length ∧ j = .int .i64 jj ∧ a = .int .i64 aa ∧ aa ≤ n ∧ Ext w wx) (fun _ j _ => R.length - (Go.RowKit.intOf j).toNat)
  case atStart => exact ⟨0, 0, by omega, rfl, rfl, by omega, Ext.refl _⟩
  case round =>
    obtain ⟨jj, aa, hjj, rfl, rfl, haa, hx⟩ := hrel
    have C0 := hx.cell c0; have C1 := hx.cell c1
    by_cases hlt : jj < R.length
    · have i1 : (jj : Int) < (R.length : Int) := by omega
      obtain ⟨b, off, rfl, p0, p1⟩ := HA.out jj _ (List.getElem?_eq_getElem hlt)
      have P0 := hx.cell p0; have P1 := hx.cell p1
      have hb := HG.out.2 R[jj] (List.getElem_mem hlt)
      clear p0 p1
      generalize R[jj] = y at *
      go_wp2_with fail
      go_big_quiet (fail)
      go_wp2
      exact ⟨⟨jj + 1, y.1 + y.2, by omega, by go_num, by go_num, by omega, hx.trans (Ext.drewN _ _)⟩, by simp [Go.RowKit.intOf]; omega⟩
    · obtain rfl : jj = R.length := by omega
      go_wp2
      go_ret
      exact ⟨rfl, hx⟩
theorem refcut_is {w : World} {q gq B n : Nat} {ws : List Int} {vR : Value} {R : List (Nat × Nat)} (h : RefAt w q gq B n ws vR R) (hB : B ≤ w.heap.size) {k : Nat} (hk : 1 ≤ k) (hk2 : k ≤ 9223372036854775807) :
    Calls Tryz.prog 27 #[.pointer (some ⟨q, 0, none⟩), .int .i64 k] w fun e w' =>
      (scan k 0 R + k ≤ n ∧ e = .returned (.int .i64 (scan k 0 R)) ∧ (∃ v, RefAt w' q gq B n (setMany ws (scan k 0 R) (List.replicate k 0)) v (ins (scan k 0 R, k) R)) ∧ Turn [q, gq] w w') ∨
      (¬ scan k 0 R + k ≤ n ∧ e = .returned (.int .i64 (-1)) ∧ Ext w w') := by
  have H := Lib.hid h
  obtain ⟨qa, ca, hvR, la1, la2, hca⟩ := h.regs.sl
  obtain ⟨c0, c1, f1⟩ := h.cells
  have HA := Lib.hid hca
  have HG := Lib.hid h.good
  have hrl := good_len h.good
  have hn := h.least
  have hlt := h.lt
  have hqg := h.ne
  have b0 : decide ((k : Int) < 1) = false := decide_eq_false (by omega)
  unfold maxLen at la2
  clear hca h
  subst hvR
  go_enter Tryz.func27, Tryz.ntmps27
  go_upto_block 0 with fail
  go_cut [5, 6] from 8 to 51 (fun a j wx => ∃ (jj aa : Nat), jj ≤ R.length ∧ j = .int .i64 jj ∧ a = .int .i64 aa ∧ aa ≤ n ∧ scan k 0 R = aa ∧ ins (aa, k) R = R.take jj ++ (aa, k) :: R.drop jj ∧ Ext w wx)
  case first =>
    go_wp2_with fail
    go_loopw [5, 6] (fun a j wx => ∃ (jj aa : Nat), jj ≤ R.length ∧ j = .int .i64 jj ∧ a = .int .i64 aa ∧ aa ≤ n ∧ CutAt k R jj aa ∧ Ext w wx) (fun _ j _ => R.length - (Go.RowKit.intOf j).toNat)
    case atStart => exact ⟨0, 0, by omega, rfl, rfl, by omega, ⟨fun r hr => by simp at hr, rfl⟩, Ext.refl _⟩
    case round =>
      obtain ⟨jj, aa, hjj, rfl, rfl, haa, hcut, hx⟩ := hrel
      have C0 := hx.cell c0; have C1 := hx.cell c1
      have HC := Lib.hid hcut
      clear hcut
      by_cases hlt : jj < R.length
      · have i1 : (jj : Int) < (R.length : Int) := by omega
        obtain ⟨b, off, rfl, p0, p1⟩ := HA.out jj _ (List.getElem?_eq_getElem hlt)
        have P0 := hx.cell p0; have P1 := hx.cell p1
        have hb := HG.out.2 R[jj] (List.getElem_mem hlt)
        clear p0 p1
        by_cases hroom : aa + k ≤ R[jj].1
        · have HN := Lib.hid (cutAt_here hk HG.out HC.out hlt hroom)
          generalize R[jj] = y at *
          have t1 : decide ((y.1 : Int) - (aa : Int) < (k : Int)) = false := decide_eq_false (by omega)
          clear hroom
          go_wp2_with fail
          go_meet
          exact ⟨jj, aa, hjj, rfl, rfl, haa, HN.out.1, HN.out.2, hx⟩
        · have HN := Lib.hid (cutAt_next HG.out HC.out hlt hroom)
          generalize R[jj] = y at *
          have t1 : decide ((y.1 : Int) - (aa : Int) < (k : Int)) = true := decide_eq_true (by omega)
          clear hroom
          go_wp2_with fail
          go_big_quiet (fail)
          go_wp2
          exact ⟨⟨jj + 1, y.1 + y.2, by omega, by go_num, by go_num, by omega, HN.out, hx.trans (Ext.drewN _ _)⟩, by simp [Go.RowKit.intOf]; omega⟩
      · obtain rfl : jj = R.length := by omega
        have HN := Lib.hid (cutAt_end HG.out HC.out)
        go_wp2_with fail
        go_meet
        exact ⟨R.length, aa, hjj, rfl, rfl, haa, HN.out.1, HN.out.2, hx⟩
  case rest =>
    obtain ⟨jj, aa, hjj, rfl, rfl, haa, hsc, hins, hx⟩ := hcut
    have HSC := Lib.hid hsc; have HIN := Lib.hid hins
    have C0 := hx.cell c0; have C1 := hx.cell c1
    have HX := Lib.hid hx
    clear hsc hins hx
    by_cases hfit : aa + k ≤ n
    · have t1 : decide ((n : Int) - (aa : Int) < (k : Int)) = false := decide_eq_false (by omega)
      have HRC := Lib.hid (H.out.ext HX.out)
      have hBc : B ≤ wc.heap.size := by have := HX.out.size; omega
      have F1 := (HX.out.frozen c1).trans f1
      obtain ⟨u1, hs1, hp1⟩ := head_src (k := jj) HRC.out.regs hjj
      obtain ⟨u2, hs2, hp2⟩ := tail_src (k := jj) HRC.out.regs hjj
      have HP1 := Lib.hid hp1; have HP2 := Lib.hid hp2
      clear hp1 hp2
      go_upto_region 7 with fail
      go_cut [] from 65 to 87 (fun wx => ∃ v, RefAt wx q gq B n ws v (ins (aa, k) R) ∧ Turn [q] wc wx)
      case first =>
        refine wp_region_noPanic ?_
        refine wp_region_last 23 (S := (fun w' => w'.cell? ⟨q, 1, none⟩ = some (.slice qa R.length ca) ∧ w'.frozen? ⟨q, 1, none⟩ = false ∧ Ext wc w')) (by kernel_rfl) (by kernel_rfl) _ rfl ?_ (fun hHeld => ?_)
        · (refine keep3 C1 F1 ?_; first | exact Ext.drew _ | exact e1 | exact e1b | exact e2 | exact e3 | exact e4 | exact e5)
        simp only [List.take_succ_cons, List.take_zero]
        refine wpAnyH_take (i := 0) (v := ?v1) rfl (by kernel_rfl) (by kernel_rfl) (by kernel_rfl) (fun _ _ _ h => h) (Or.inl ⟨by rfl, ?y1⟩) (by assumption) ?r1
        case y1 => intro w hSw; (try dsimp only at hSw); go_simp; (try with_reducible rfl)
        (try simp only [Act.put, List.setIfInBounds_toArray, List.set_cons_zero, List.set_cons_succ, List.getElem_toArray, List.getElem_cons_zero, List.getElem_cons_succ])
        refine wpAnyH_take (i := 2) (v := ?v2) rfl (by kernel_rfl) (by kernel_rfl) (by kernel_rfl) (fun _ _ _ h => h) (Or.inl ⟨by rfl, ?y2⟩) (by assumption) ?r2
        case y2 => intro w hSw; (try dsimp only at hSw); go_simp; (try with_reducible rfl)
        (try simp only [Act.put, List.setIfInBounds_toArray, List.set_cons_zero, List.set_cons_succ, List.getElem_toArray, List.getElem_cons_zero, List.getElem_cons_succ])
        refine wpAnyH_take (i := 3) (v := ?v3) rfl (by kernel_rfl) (by kernel_rfl) (by kernel_rfl) (fun _ _ _ h => h) (Or.inl ⟨by rfl, ?y3⟩) (by assumption) ?r3
        case y3 => intro w hSw; (try dsimp only at hSw); go_simp; (try with_reducible rfl)
        (try simp only [Act.put, List.setIfInBounds_toArray, List.set_cons_zero, List.set_cons_succ, List.getElem_toArray, List.getElem_cons_zero, List.getElem_cons_succ])
        refine wpAnyH_take (i := 4) (v := ?v4) rfl (by kernel_rfl) (by kernel_rfl) (by kernel_rfl) (fun _ _ _ h => h) (Or.inl ⟨by rfl, ?y4⟩) (by assumption) ?r4
        case y4 => intro w hSw; (try dsimp only at hSw); go_simp; (try with_reducible rfl)
        (try simp only [Act.put, List.setIfInBounds_toArray, List.set_cons_zero, List.set_cons_succ, List.getElem_toArray, List.getElem_cons_zero, List.getElem_cons_succ])
        refine wpAnyH_take (i := 5) (v := ?v5) rfl (by kernel_rfl) (by kernel_rfl) (by kernel_rfl) (fun _ _ _ h => h) (Or.inl ⟨by rfl, ?y5⟩) (by assumption) ?r5
        case y5 => intro w hSw; (try dsimp only at hSw); go_simp; (try with_reducible rfl)
        (try simp only [Act.put, List.setIfInBounds_toArray, List.set_cons_zero, List.set_cons_succ, List.getElem_toArray, List.getElem_cons_zero, List.getElem_cons_succ])
        refine wpAnyH_take (i := 6) (v := ?v6) rfl (by kernel_rfl) (by kernel_rfl) (by kernel_rfl) (fun _ _ _ h => h) (Or.inl ⟨by rfl, ?y6⟩) (by assumption) ?r6
        case y6 => intro w hSw; (try dsimp only at hSw); go_simp; (try with_reducible rfl)
        (try simp only [Act.put, List.setIfInBounds_toArray, List.set_cons_zero, List.set_cons_succ, List.getElem_toArray, List.getElem_cons_zero, List.getElem_cons_succ])
        refine wpAnyH_take (i := 7) (v := ?v7) rfl (by kernel_rfl) (by kernel_rfl) (by kernel_rfl) (fun _ _ _ h => h) (Or.inl ⟨by rfl, ?y7⟩) (by assumption) ?r7
        case y7 => intro w hSw; (try dsimp only at hSw); go_simp; (try with_reducible rfl)
        (try simp only [Act.put, List.setIfInBounds_toArray, List.set_cons_zero, List.set_cons_succ, List.getElem_toArray, List.getElem_cons_zero, List.getElem_cons_succ])
        refine wpAnyH_take (i := 9) (v := ?v8) rfl (by kernel_rfl) (by kernel_rfl) (by kernel_rfl) (fun _ _ _ h => h) (Or.inl ⟨by rfl, ?y8⟩) (by assumption) ?r8
        case y8 => intro w hSw; (try dsimp only at hSw); go_simp; (try with_reducible rfl)
        (try simp only [Act.put, List.setIfInBounds_toArray, List.set_cons_zero, List.set_cons_succ, List.getElem_toArray, List.getElem_cons_zero, List.getElem_cons_succ])
        refine wpAnyH_take (i := 10) (v := ?v9) rfl (by kernel_rfl) (by kernel_rfl) (by kernel_rfl) (fun _ _ _ h => h) (Or.inl ⟨by rfl, ?y9⟩) (by assumption) ?r9
        case y9 => intro w hSw; (try dsimp only at hSw); go_simp; (try with_reducible rfl)
        (try simp only [Act.put, List.setIfInBounds_toArray, List.set_cons_zero, List.set_cons_succ, List.getElem_toArray, List.getElem_cons_zero, List.getElem_cons_succ])
        refine wpAnyH_take (i := 11) (v := ?v10) rfl (by kernel_rfl) (by kernel_rfl) (by kernel_rfl) (fun _ _ _ h => h) (Or.inl ⟨by rfl, ?y10⟩) (by assumption) ?r10
        case y10 => intro w hSw; (try dsimp only at hSw); go_simp; (try with_reducible rfl)
        (try simp only [Act.put, List.setIfInBounds_toArray, List.set_cons_zero, List.set_cons_succ, List.getElem_toArray, List.getElem_cons_zero, List.getElem_cons_succ])
        refine wpAnyH_take (i := 14) (v := ?v11) rfl (by kernel_rfl) (by kernel_rfl) (by kernel_rfl) (fun _ _ _ h => h) (Or.inl ⟨by rfl, ?y11⟩) (by assumption) ?r11
        case y11 => intro w hSw; (try dsimp only at hSw); go_simp; (try with_reducible rfl)
        (try simp only [Act.put, List.setIfInBounds_toArray, List.set_cons_zero, List.set_cons_succ, List.getElem_toArray, List.getElem_cons_zero, List.getElem_cons_succ])
        refine wpAnyH_take (i := 15) (v := ?v12) rfl (by kernel_rfl) (by kernel_rfl) (by kernel_rfl) (fun _ _ _ h => h) (Or.inl ⟨by rfl, ?y12⟩) (by assumption) ?r12
        case y12 => intro w hSw; (try dsimp only at hSw); go_simp; (try with_reducible rfl)
        (try simp only [Act.put, List.setIfInBounds_toArray, List.set_cons_zero, List.set_cons_succ, List.getElem_toArray, List.getElem_cons_zero, List.getElem_cons_succ])
        refine wpAnyH_take (i := 16) (v := ?v13) rfl (by kernel_rfl) (by kernel_rfl) (by kernel_rfl) (fun _ _ _ h => h) (Or.inl ⟨by rfl, ?y13⟩) (by assumption) ?r13
        case y13 => intro w hSw; (try dsimp only at hSw); go_simp; (try with_reducible rfl)
        (try simp only [Act.put, List.setIfInBounds_toArray, List.set_cons_zero, List.set_cons_succ, List.getElem_toArray, List.getElem_cons_zero, List.getElem_cons_succ])
        refine wpAnyH_take (i := 17) (v := ?v14) rfl (by kernel_rfl) (by kernel_rfl) (by kernel_rfl) (fun _ _ _ h => h) (Or.inl ⟨by rfl, ?y14⟩) (by assumption) ?r14
        case y14 => intro w hSw; (try dsimp only at hSw); go_simp; (try with_reducible rfl)
        (try simp only [Act.put, List.setIfInBounds_toArray, List.set_cons_zero, List.set_cons_succ, List.getElem_toArray, List.getElem_cons_zero, List.getElem_cons_succ])
        refine wpAnyH_take (i := 18) (v := ?v15) rfl (by kernel_rfl) (by kernel_rfl) (by kernel_rfl) (fun _ _ _ h => h) (Or.inl ⟨by rfl, ?y15⟩) (by assumption) ?r15
        case y15 => intro w hSw; (try dsimp only at hSw); go_simp; (try with_reducible rfl)
        (try simp only [Act.put, List.setIfInBounds_toArray, List.set_cons_zero, List.set_cons_succ, List.getElem_toArray, List.getElem_cons_zero, List.getElem_cons_succ])
        refine wpAnyH_take (i := 19) (v := ?v16) rfl (by kernel_rfl) (by kernel_rfl) (by kernel_rfl) (fun _ _ _ h => h) (Or.inl ⟨by rfl, ?y16⟩) (by assumption) ?r16
        case y16 => intro w hSw; (try dsimp only at hSw); go_simp; (try with_reducible rfl)
        (try simp only [Act.put, List.setIfInBounds_toArray, List.set_cons_zero, List.set_cons_succ, List.getElem_toArray, List.getElem_cons_zero, List.getElem_cons_succ])
        refine wpAnyH_ready (rs := [1, 12]) (by kernel_rfl) (by simp) ?_
        refine AllReadyH.cons rfl (fun K hK => ?_) (AllReadyH.cons rfl (fun K hK => ?_) (AllReadyH.nil))
        · skip
          have e1 : Ext wc (wc.alloc (.cells #[] 121)).drew := Ext.trans (Ext.alloc _ _) (Ext.drew _)
          go_simp
          refine hK.out _ _ ?s17 (fun hHeld => ?k17)
          case s17 => ((try dsimp only); (refine keep3 C1 F1 ?_; first | exact Ext.drew _ | exact e1 | exact e1b | exact e2 | exact e3 | exact e4 | exact e5))
          clear hK K
          (try simp only [Act.put, List.setIfInBounds_toArray, List.set_cons_zero, List.set_cons_succ, List.getElem_toArray, List.getElem_cons_zero, List.getElem_cons_succ])
          refine wpAnyH_ready (rs := [8, 12]) (by kernel_rfl) (by simp) ?_
          refine AllReadyH.cons rfl (fun K hK => ?_) (AllReadyH.cons rfl (fun K hK => ?_) (AllReadyH.nil))
          · skip
            refine step_append_pairs (by rfl) _ _ (by rfl) wc.heap.size _ u1 [] (R.take jj) (by rfl) (empty_at (heap_alloc_new wc _) (Nat.le_refl _)) (by rfl) (HP1.out _ (HRC.out.ext e1).regs) (by rw [List.length_take, List.length_nil]; omega) e1.size ?_
            intro v1 w1 hown1 hgrow1
            have e2 : Ext wc w1 := ext_grown e1 hgrow1 (by intro b hb; simp [Value.ownBlock] at hb; omega)
            refine hK.out _ _ ?s18 (fun hHeld => ?k18)
            case s18 => ((try dsimp only); (refine keep3 C1 F1 ?_; first | exact Ext.drew _ | exact e1 | exact e1b | exact e2 | exact e3 | exact e4 | exact e5))
            clear hK K
            (try simp only [Act.put, List.setIfInBounds_toArray, List.set_cons_zero, List.set_cons_succ, List.getElem_toArray, List.getElem_cons_zero, List.getElem_cons_succ])
            refine wpAnyH_ready (rs := [12]) (by kernel_rfl) (by simp) ?_
            refine AllReadyH.cons rfl (fun K hK => ?_) AllReadyH.nil
            have e3 : Ext wc (w1.alloc (.cells #[.int .i64 aa, .int .i64 k] 121)) := Ext.trans e2 (Ext.alloc _ _)
            go_simp
            refine hK.out _ _ ?s19 (fun hHeld => ?k19)
            case s19 => ((try dsimp only); (refine keep3 C1 F1 ?_; first | exact Ext.drew _ | exact e1 | exact e1b | exact e2 | exact e3 | exact e4 | exact e5))
            clear hK K
            (try simp only [Act.put, List.setIfInBounds_toArray, List.set_cons_zero, List.set_cons_succ, List.getElem_toArray, List.getElem_cons_zero, List.getElem_cons_succ])
            refine wpAnyH_ready (rs := [13]) (by kernel_rfl) (by simp) ?_
            refine AllReadyH.cons rfl (fun K hK => ?_) AllReadyH.nil
            refine step_append_pairs (by rfl) _ _ (by rfl) wc.heap.size _ _ _ [(aa, k)] (by rfl) (PairRow.alloc hown1 _) (by rfl) (pair_at (heap_alloc_new w1 _)) (by simp; omega) e3.size ?_
            intro v2 w2 hown2 hgrow2
            have e4 : Ext wc w2 := ext_grown e3 hgrow2 hown1.own
            refine hK.out _ _ ?s20 (fun hHeld => ?k20)
            case s20 => ((try dsimp only); (refine keep3 C1 F1 ?_; first | exact Ext.drew _ | exact e1 | exact e1b | exact e2 | exact e3 | exact e4 | exact e5))
            clear hK K
            (try simp only [Act.put, List.setIfInBounds_toArray, List.set_cons_zero, List.set_cons_succ, List.getElem_toArray, List.getElem_cons_zero, List.getElem_cons_succ])
            refine wpAnyH_ready (rs := [20]) (by kernel_rfl) (by simp) ?_
            refine AllReadyH.cons rfl (fun K hK => ?_) AllReadyH.nil
            refine step_append_pairs (by rfl) _ _ (by rfl) wc.heap.size _ u2 _ (R.drop jj) (by rfl) hown2 (by rfl) (HP2.out _ (HRC.out.ext e4).regs) (by simp; omega) e4.size ?_
            intro v3 w3 hown3 hgrow3
            have e5 : Ext wc w3 := ext_grown e4 hgrow3 hown2.own
            refine hK.out _ _ ?s21 (fun hHeld => ?k21)
            case s21 => ((try dsimp only); (refine keep3 C1 F1 ?_; first | exact Ext.drew _ | exact e1 | exact e1b | exact e2 | exact e3 | exact e4 | exact e5))
            clear hK K
            (try simp only [Act.put, List.setIfInBounds_toArray, List.set_cons_zero, List.set_cons_succ, List.getElem_toArray, List.getElem_cons_zero, List.getElem_cons_succ])
            refine wpAnyH_take (i := 21) (v := ?v22) rfl (by kernel_rfl) (by kernel_rfl) (by kernel_rfl) (fun _ _ _ h => h) (Or.inl ⟨by rfl, ?y22⟩) (by assumption) ?r22
            case y22 => intro w hSw; (try dsimp only at hSw); go_simp; (try with_reducible rfl)
            (try simp only [Act.put, List.setIfInBounds_toArray, List.set_cons_zero, List.set_cons_succ, List.getElem_toArray, List.getElem_cons_zero, List.getElem_cons_succ])
            refine wpAnyH_take (i := 22) (v := ?v23) rfl (by kernel_rfl) (by kernel_rfl) (by kernel_rfl) (fun _ _ _ h => h) (Or.inl ⟨by rfl, ?y23⟩) (by assumption) ?r23
            case y23 => intro w hSw; (try dsimp only at hSw); go_simp; (try with_reducible rfl)
            (try simp only [Act.put, List.setIfInBounds_toArray, List.set_cons_zero, List.set_cons_succ, List.getElem_toArray, List.getElem_cons_zero, List.getElem_cons_succ])
            refine wpAnyH_done (by kernel_rfl) ?_ _
            show wpList _ _ _ _ _ _
            have hc3 := e5.cell C1
            have hf3 := (e5.frozen C1).trans F1
            have HR3 := Lib.hid (show PairRow w3 wc.heap.size v3 (ins (aa, k) R) by rw [HIN.out]; simpa using hown3)
            have HE5 := Lib.hid e5
            obtain ⟨q3, n3, c3, hv3⟩ : ∃ q n c, v3 = .slice q n c := by obtain ⟨q3, c3, h, _⟩ := hown3.nilOr; exact ⟨q3, _, c3, h⟩
            subst hv3
            clear hown3
            go_wp2
            refine NoPanic.normal ?_
            go_wp2
            go_meet
            exact ⟨_, HRC.out.newRegs HE5.out hBc HR3.out (good_ins (by simpa using hk) (by simpa using hfit) HG.out (by rw [← HSC.out]; exact scan_free HG.out)), (Turn.of_ext HE5.out).setCell (.inl (by simp)) _⟩
          · skip
            have e1b : Ext wc ((wc.alloc (.cells #[] 121)).alloc (.cells #[.int .i64 aa, .int .i64 k] 121)).drew := Ext.trans (Ext.trans (Ext.alloc _ _) (Ext.alloc _ _)) (Ext.drew _)
            go_simp
            refine hK.out _ _ ?s24 (fun hHeld => ?k24)
            case s24 => ((try dsimp only); (refine keep3 C1 F1 ?_; first | exact Ext.drew _ | exact e1 | exact e1b | exact e2 | exact e3 | exact e4 | exact e5))
            clear hK K
            (try simp only [Act.put, List.setIfInBounds_toArray, List.set_cons_zero, List.set_cons_succ, List.getElem_toArray, List.getElem_cons_zero, List.getElem_cons_succ])
            refine wpAnyH_ready (rs := [8]) (by kernel_rfl) (by simp) ?_
            refine AllReadyH.cons rfl (fun K hK => ?_) AllReadyH.nil
            refine step_append_pairs (by rfl) _ _ (by rfl) wc.heap.size _ u1 [] (R.take jj) (by rfl) (PairRow.alloc (w := wc.alloc (.cells #[] 121)) (empty_at (heap_alloc_new wc _) (Nat.le_refl _)) _) (by rfl) (HP1.out _ (HRC.out.ext e1b).regs) (by rw [List.length_take, List.length_nil]; omega) e1b.size ?_
            intro v1 w1 hown1 hgrow1
            have e2 : Ext wc w1 := ext_grown e1b hgrow1 (by intro b hb; simp [Value.ownBlock] at hb; omega)
            have hpb : w1.heap[wc.heap.size + 1]? = some (.cells #[.int .i64 aa, .int .i64 k] 121) := by
              rw [hgrow1.block (wc.heap.size + 1) (by simp) (by simp [Value.ownBlock])]
              have h3 := heap_alloc_new (wc.alloc (.cells #[] 121)) (.cells #[.int .i64 aa, .int .i64 k] 121)
              rw [show (wc.alloc (.cells #[] 121)).heap.size = wc.heap.size + 1 by simp] at h3
              exact h3
            refine hK.out _ _ ?s25 (fun hHeld => ?k25)
            case s25 => ((try dsimp only); (refine keep3 C1 F1 ?_; first | exact Ext.drew _ | exact e1 | exact e1b | exact e2 | exact e3 | exact e4 | exact e5))
            clear hK K
            (try simp only [Act.put, List.setIfInBounds_toArray, List.set_cons_zero, List.set_cons_succ, List.getElem_toArray, List.getElem_cons_zero, List.getElem_cons_succ])
            refine wpAnyH_ready (rs := [13]) (by kernel_rfl) (by simp) ?_
            refine AllReadyH.cons rfl (fun K hK => ?_) AllReadyH.nil
            refine step_append_pairs (by rfl) _ _ (by rfl) wc.heap.size _ _ _ [(aa, k)] (by rfl) hown1 (by rfl) (pair_at hpb) (by simp; omega) e2.size ?_
            intro v2 w2 hown2 hgrow2
            have e4 : Ext wc w2 := ext_grown e2 hgrow2 hown1.own
            refine hK.out _ _ ?s26 (fun hHeld => ?k26)
            case s26 => ((try dsimp only); (refine keep3 C1 F1 ?_; first | exact Ext.drew _ | exact e1 | exact e1b | exact e2 | exact e3 | exact e4 | exact e5))
            clear hK K
            (try simp only [Act.put, List.setIfInBounds_toArray, List.set_cons_zero, List.set_cons_succ, List.getElem_toArray, List.getElem_cons_zero, List.getElem_cons_succ])
            refine wpAnyH_ready (rs := [20]) (by kernel_rfl) (by simp) ?_
            refine AllReadyH.cons rfl (fun K hK => ?_) AllReadyH.nil
            refine step_append_pairs (by rfl) _ _ (by rfl) wc.heap.size _ u2 _ (R.drop jj) (by rfl) hown2 (by rfl) (HP2.out _ (HRC.out.ext e4).regs) (by simp; omega) e4.size ?_
            intro v3 w3 hown3 hgrow3
            have e5 : Ext wc w3 := ext_grown e4 hgrow3 hown2.own
            refine hK.out _ _ ?s27 (fun hHeld => ?k27)
            case s27 => ((try dsimp only); (refine keep3 C1 F1 ?_; first | exact Ext.drew _ | exact e1 | exact e1b | exact e2 | exact e3 | exact e4 | exact e5))
            clear hK K
            (try simp only [Act.put, List.setIfInBounds_toArray, List.set_cons_zero, List.set_cons_succ, List.getElem_toArray, List.getElem_cons_zero, List.getElem_cons_succ])
            refine wpAnyH_take (i := 21) (v := ?v28) rfl (by kernel_rfl) (by kernel_rfl) (by kernel_rfl) (fun _ _ _ h => h) (Or.inl ⟨by rfl, ?y28⟩) (by assumption) ?r28
            case y28 => intro w hSw; (try dsimp only at hSw); go_simp; (try with_reducible rfl)
            (try simp only [Act.put, List.setIfInBounds_toArray, List.set_cons_zero, List.set_cons_succ, List.getElem_toArray, List.getElem_cons_zero, List.getElem_cons_succ])
            refine wpAnyH_take (i := 22) (v := ?v29) rfl (by kernel_rfl) (by kernel_rfl) (by kernel_rfl) (fun _ _ _ h => h) (Or.inl ⟨by rfl, ?y29⟩) (by assumption) ?r29
            case y29 => intro w hSw; (try dsimp only at hSw); go_simp; (try with_reducible rfl)
            (try simp only [Act.put, List.setIfInBounds_toArray, List.set_cons_zero, List.set_cons_succ, List.getElem_toArray, List.getElem_cons_zero, List.getElem_cons_succ])
            refine wpAnyH_done (by kernel_rfl) ?_ _
            show wpList _ _ _ _ _ _
            have hc3 := e5.cell C1
            have hf3 := (e5.frozen C1).trans F1
            have HR3 := Lib.hid (show PairRow w3 wc.heap.size v3 (ins (aa, k) R) by rw [HIN.out]; simpa using hown3)
            have HE5 := Lib.hid e5
            obtain ⟨q3, n3, c3, hv3⟩ : ∃ q n c, v3 = .slice q n c := by obtain ⟨q3, c3, h, _⟩ := hown3.nilOr; exact ⟨q3, _, c3, h⟩
            subst hv3
            clear hown3
            go_wp2
            refine NoPanic.normal ?_
            go_wp2
            go_meet
            exact ⟨_, HRC.out.newRegs HE5.out hBc HR3.out (good_ins (by simpa using hk) (by simpa using hfit) HG.out (by rw [← HSC.out]; exact scan_free HG.out)), (Turn.of_ext HE5.out).setCell (.inl (by simp)) _⟩
        · skip
          have e1 : Ext wc (wc.alloc (.cells #[.int .i64 aa, .int .i64 k] 121)).drew := Ext.trans (Ext.alloc _ _) (Ext.drew _)
          go_simp
          refine hK.out _ _ ?s30 (fun hHeld => ?k30)
          case s30 => ((try dsimp only); (refine keep3 C1 F1 ?_; first | exact Ext.drew _ | exact e1 | exact e1b | exact e2 | exact e3 | exact e4 | exact e5))
          clear hK K
          (try simp only [Act.put, List.setIfInBounds_toArray, List.set_cons_zero, List.set_cons_succ, List.getElem_toArray, List.getElem_cons_zero, List.getElem_cons_succ])
          refine wpAnyH_ready (rs := [1]) (by kernel_rfl) (by simp) ?_
          refine AllReadyH.cons rfl (fun K hK => ?_) AllReadyH.nil
          have e1b : Ext wc ((wc.alloc (.cells #[.int .i64 aa, .int .i64 k] 121)).alloc (.cells #[] 121)).drew := Ext.trans (Ext.trans (Ext.alloc _ _) (Ext.alloc _ _)) (Ext.drew _)
          go_simp
          refine hK.out _ _ ?s31 (fun hHeld => ?k31)
          case s31 => ((try dsimp only); (refine keep3 C1 F1 ?_; first | exact Ext.drew _ | exact e1 | exact e1b | exact e2 | exact e3 | exact e4 | exact e5))
          clear hK K
          (try simp only [Act.put, List.setIfInBounds_toArray, List.set_cons_zero, List.set_cons_succ, List.getElem_toArray, List.getElem_cons_zero, List.getElem_cons_succ])
          refine wpAnyH_ready (rs := [8]) (by kernel_rfl) (by simp) ?_
          refine AllReadyH.cons rfl (fun K hK => ?_) AllReadyH.nil
          have hnew : (wc.alloc (.cells #[.int .i64 aa, .int .i64 k] 121)).heap.size = wc.heap.size + 1 := by simp
          refine step_append_pairs (by rfl) _ _ (by rfl) wc.heap.size _ u1 [] (R.take jj) (by rfl) (empty_at (b := wc.heap.size + 1) (by have := heap_alloc_new (wc.alloc (.cells #[.int .i64 aa, .int .i64 k] 121)) (.cells #[] 121); rw [hnew] at this; exact this) (by omega)) (by rfl) (HP1.out _ (HRC.out.ext e1b).regs) (by rw [List.length_take, List.length_nil]; omega) e1b.size ?_
          intro v1 w1 hown1 hgrow1
          have e2 : Ext wc w1 := ext_grown e1b hgrow1 (by intro b hb; simp [Value.ownBlock] at hb; omega)
          have hpb : w1.heap[wc.heap.size]? = some (.cells #[.int .i64 aa, .int .i64 k] 121) := by
            rw [hgrow1.block wc.heap.size (by simp; omega) (by simp [Value.ownBlock])]
            have h2 := Below.block (Below.alloc (B := wc.heap.size + 1) (Below.refl _ (wc.alloc (.cells #[.int .i64 aa, .int .i64 k] 121))) (by simp) (.cells #[] 121)) wc.heap.size (by omega)
            exact h2.trans (heap_alloc_new wc _)
          refine hK.out _ _ ?s32 (fun hHeld => ?k32)
          case s32 => ((try dsimp only); (refine keep3 C1 F1 ?_; first | exact Ext.drew _ | exact e1 | exact e1b | exact e2 | exact e3 | exact e4 | exact e5))
          clear hK K
          (try simp only [Act.put, List.setIfInBounds_toArray, List.set_cons_zero, List.set_cons_succ, List.getElem_toArray, List.getElem_cons_zero, List.getElem_cons_succ])
          refine wpAnyH_ready (rs := [13]) (by kernel_rfl) (by simp) ?_
          refine AllReadyH.cons rfl (fun K hK => ?_) AllReadyH.nil
          refine step_append_pairs (by rfl) _ _ (by rfl) wc.heap.size _ _ _ [(aa, k)] (by rfl) hown1 (by rfl) (pair_at hpb) (by simp; omega) e2.size ?_
          intro v2 w2 hown2 hgrow2
          have e4 : Ext wc w2 := ext_grown e2 hgrow2 hown1.own
          refine hK.out _ _ ?s33 (fun hHeld => ?k33)
          case s33 => ((try dsimp only); (refine keep3 C1 F1 ?_; first | exact Ext.drew _ | exact e1 | exact e1b | exact e2 | exact e3 | exact e4 | exact e5))
          clear hK K
          (try simp only [Act.put, List.setIfInBounds_toArray, List.set_cons_zero, List.set_cons_succ, List.getElem_toArray, List.getElem_cons_zero, List.getElem_cons_succ])
          refine wpAnyH_ready (rs := [20]) (by kernel_rfl) (by simp) ?_
          refine AllReadyH.cons rfl (fun K hK => ?_) AllReadyH.nil
          refine step_append_pairs (by rfl) _ _ (by rfl) wc.heap.size _ u2 _ (R.drop jj) (by rfl) hown2 (by rfl) (HP2.out _ (HRC.out.ext e4).regs) (by simp; omega) e4.size ?_
          intro v3 w3 hown3 hgrow3
          have e5 : Ext wc w3 := ext_grown e4 hgrow3 hown2.own
          refine hK.out _ _ ?s34 (fun hHeld => ?k34)
          case s34 => ((try dsimp only); (refine keep3 C1 F1 ?_; first | exact Ext.drew _ | exact e1 | exact e1b | exact e2 | exact e3 | exact e4 | exact e5))
          clear hK K
          (try simp only [Act.put, List.setIfInBounds_toArray, List.set_cons_zero, List.set_cons_succ, List.getElem_toArray, List.getElem_cons_zero, List.getElem_cons_succ])
          refine wpAnyH_take (i := 21) (v := ?v35) rfl (by kernel_rfl) (by kernel_rfl) (by kernel_rfl) (fun _ _ _ h => h) (Or.inl ⟨by rfl, ?y35⟩) (by assumption) ?r35
          case y35 => intro w hSw; (try dsimp only at hSw); go_simp; (try with_reducible rfl)
          (try simp only [Act.put, List.setIfInBounds_toArray, List.set_cons_zero, List.set_cons_succ, List.getElem_toArray, List.getElem_cons_zero, List.getElem_cons_succ])
          refine wpAnyH_take (i := 22) (v := ?v36) rfl (by kernel_rfl) (by kernel_rfl) (by kernel_rfl) (fun _ _ _ h => h) (Or.inl ⟨by rfl, ?y36⟩) (by assumption) ?r36
          case y36 => intro w hSw; (try dsimp only at hSw); go_simp; (try with_reducible rfl)
          (try simp only [Act.put, List.setIfInBounds_toArray, List.set_cons_zero, List.set_cons_succ, List.getElem_toArray, List.getElem_cons_zero, List.getElem_cons_succ])
          refine wpAnyH_done (by kernel_rfl) ?_ _
          show wpList _ _ _ _ _ _
          have hc3 := e5.cell C1
          have hf3 := (e5.frozen C1).trans F1
          have HR3 := Lib.hid (show PairRow w3 wc.heap.size v3 (ins (aa, k) R) by rw [HIN.out]; simpa using hown3)
          have HE5 := Lib.hid e5
          obtain ⟨q3, n3, c3, hv3⟩ : ∃ q n c, v3 = .slice q n c := by obtain ⟨q3, c3, h, _⟩ := hown3.nilOr; exact ⟨q3, _, c3, h⟩
          subst hv3
          clear hown3
          go_wp2
          refine NoPanic.normal ?_
          go_wp2
          go_meet
          exact ⟨_, HRC.out.newRegs HE5.out hBc HR3.out (good_ins (by simpa using hk) (by simpa using hfit) HG.out (by rw [← HSC.out]; exact scan_free HG.out)), (Turn.of_ext HE5.out).setCell (.inl (by simp)) _⟩
      case rest =>
        obtain ⟨v, hR, hT⟩ := hcut
        have HR := Lib.hid hR; have HT := Lib.hid hT
        have hl0 := hR.len
        clear hR hT
        have HT2 := Lib.hid ((Turn.of_ext (bs := [q]) HX.out).trans HT.out)
        go_wp2_with fail
        go_loopw [7] (fun i wx => ∃ ii : Nat, ii ≤ k ∧ i = .int .i64 ii ∧ RefAt wx q gq B n (setMany ws aa (List.replicate ii 0)) v (ins (aa, k) R) ∧ Turn [gq] wc wx) (fun i _ => k - (Go.RowKit.intOf i).toNat)
        case atStart => exact ⟨0, by omega, rfl, HR.out, Turn.refl _ _⟩
        case round =>
          obtain ⟨ii, hii, rfl, hR2, hT2⟩ := hrel
          have HR2 := Lib.hid hR2; have HT3 := Lib.hid hT2
          clear hR2 hT2
          by_cases hil : ii < k
          · obtain ⟨d0, d1, _⟩ := HR2.out.cells
            obtain ⟨k0, k1⟩ := HR2.out.word (i := aa + ii) (by omega)
            have i1 : (ii : Int) < (k : Int) := by omega
            have HST := Lib.hid (HR2.out.store (aa + ii) 0)
            have hmk : (setMany ws aa (List.replicate ii 0)).set (aa + ii) 0 = setMany ws aa (List.replicate (ii + 1) 0) := by
              rw [List.replicate_succ', setMany_snoc, List.length_replicate]
            rw [hmk] at HST
            generalize (setMany ws aa (List.replicate ii 0)).getD (aa + ii) 0 = u at *
            clear hmk
            go_wp2_with fail
            exact ⟨⟨ii + 1, by omega, by go_num, HST.out, HT3.out.trans ((Turn.refl _ _).setCell (.inl (by simp)) _)⟩, by simp [Go.RowKit.intOf]; omega⟩
          · obtain rfl : ii = k := by omega
            go_wp2_with fail
            go_ret
            refine .inl ⟨by rw [HSC.out]; exact hfit, by rw [HSC.out]; rfl, ⟨v, by rw [HSC.out]; exact HR2.out⟩, (HT2.out.mono (by simp)).trans (HT3.out.mono (by simp))⟩
    · have t1 : decide ((n : Int) - (aa : Int) < (k : Int)) = true := decide_eq_true (by omega)
      go_wp2_with fail
      go_ret
      exact .inr ⟨by rw [HSC.out]; exact hfit, rfl, HX.out⟩
end Go.Proofs.YtppkgfcobnknfaaGreatDoor
/- The arena's and the reference's calls, each answer as one function of the regions and words. -/
namespace Go.Proofs.YtppkgfcobnknfaaGreatDoor
open Go.RowKit Go.Maps Arena
set_option maxHeartbeats 4000000
set_option maxRecDepth 100000
theorem drop_none {R : List (Nat × Nat)} {x : Int} (h : ∀ r ∈ R, (r.1 : Int) ≠ x) : Arena.drop x R = R := by
  unfold Arena.drop
  refine List.filter_eq_self.2 fun r hr => ?_
  have := h r hr
  simp [this]
theorem lenAt_some' {n : Nat} {R : List (Nat × Nat)} {x : Int} (_hg : Arena.Good n R) (h : ¬ lenAt R x = 0) : ∃ (i : Nat) (hi : i < R.length), (R[i].1 : Int) = x ∧ lenAt R x = R[i].2 := by
  obtain ⟨r, hr, h1, h2⟩ := lenAt_some h
  obtain ⟨i, hi, rfl⟩ := List.getElem_of_mem hr
  exact ⟨i, hi, h1, h2⟩
def freeB (R : List (Nat × Nat)) (x : Int) : Bool := !decide (lenAt R x = 0)
/-- whether a place is within the region that begins at x -/
def within (R : List (Nat × Nat)) (x a : Int) : Bool := decide (0 ≤ a ∧ a < lenAt R x)
def setWs (ws : List Int) (R : List (Nat × Nat)) (x a v : Int) : List Int := if within R x a then ws.set (x + a).toNat v else ws
def getW (ws : List Int) (R : List (Nat × Nat)) (x a : Int) : Int := if within R x a then ws.getD (x + a).toNat 0 else 0
def wordsAt (ws : List Int) (R : List (Nat × Nat)) (x : Int) : List Int := (ws.drop x.toNat).take (lenAt R x)
/-- a place, by where it stands -/
theorem place_cases {n : Nat} {R : List (Nat × Nat)} (hg : Arena.Good n R) (x a : Int) :
    (lenAt R x = 0 ∧ within R x a = false) ∨ (∃ (i : Nat) (hi : i < R.length), (R[i].1 : Int) = x ∧ lenAt R x = R[i].2 ∧ ((within R x a = false ∧ (a < 0 ∨ (R[i].2 : Int) ≤ a)) ∨ ∃ m : Nat, a = m ∧ m < R[i].2 ∧ within R x a = true)) := by
  by_cases h0 : lenAt R x = 0
  · exact .inl ⟨h0, by unfold within; rw [h0]; simp⟩
  · obtain ⟨i, hi, hx, hl⟩ := lenAt_some' hg h0
    refine .inr ⟨i, hi, hx, hl, ?_⟩
    by_cases ha : 0 ≤ a ∧ a < lenAt R x
    · obtain ⟨m, rfl⟩ := Int.eq_ofNat_of_zero_le ha.1
      exact .inr ⟨m, rfl, by rw [← hl]; omega, by unfold within; exact decide_eq_true ha⟩
    · refine .inl ⟨by unfold within; exact decide_eq_false ha, ?_⟩
      rw [← hl]; omega
theorem setA_said {w : World} {p g bm n : Nat} {ws : List Int} {R : List (Nat × Nat)} {x a v : Int} (h : ArenaAt w p g bm n ws R) (hw : (Lit.int .i64 x).wf = true) :
    Calls Tryz.prog 28 #[.pointer (some ⟨p, 0, none⟩), .int .i64 x, .int .i64 a, .int .u64 v] w fun e w' => e = .returned (.bool (within R x a)) ∧ ArenaAt w' p g bm n (setWs ws R x a v) R ∧ Turn [g] w w' := by
  rcases place_cases h.good x a with ⟨h0, hf⟩ | ⟨i, hi, rfl, hl, ⟨hf, ho⟩ | ⟨m, rfl, hm, hf⟩⟩
  · refine (set_no h hw h0).mono ?_
    rintro e w' ⟨rfl, rfl⟩
    exact ⟨by rw [hf], by simpa [setWs, hf] using h, Turn.refl _ _⟩
  · refine (set_out h (List.getElem_mem hi) ho).mono ?_
    rintro e w' ⟨rfl, rfl⟩
    exact ⟨by rw [hf], by simpa [setWs, hf] using h, Turn.refl _ _⟩
  · refine (set_yes h (List.getElem_mem hi) hm).mono ?_
    rintro e w' ⟨rfl, h1, h2⟩
    refine ⟨by rw [hf], ?_, h2⟩
    unfold setWs
    rw [if_pos hf, show ((R[i].1 : Int) + (m : Int)).toNat = R[i].1 + m by omega]
    exact h1
theorem setR_said {w : World} {q gq B n : Nat} {ws : List Int} {vR : Value} {R : List (Nat × Nat)} {x a v : Int} (h : RefAt w q gq B n ws vR R) :
    Calls Tryz.prog 29 #[.pointer (some ⟨q, 0, none⟩), .int .i64 x, .int .i64 a, .int .u64 v] w fun e w' => e = .returned (.bool (within R x a)) ∧ RefAt w' q gq B n (setWs ws R x a v) vR R ∧ Turn [gq] w w' := by
  rcases place_cases h.good x a with ⟨h0, hf⟩ | ⟨i, hi, rfl, hl, ⟨hf, ho⟩ | ⟨m, rfl, hm, hf⟩⟩
  · refine (refset_no h h0).mono ?_
    rintro e w' ⟨rfl, rfl⟩
    exact ⟨by rw [hf], by simpa [setWs, hf] using h, Turn.refl _ _⟩
  · refine (refset_out h (List.getElem_mem hi) ho).mono ?_
    rintro e w' ⟨rfl, rfl⟩
    exact ⟨by rw [hf], by simpa [setWs, hf] using h, Turn.refl _ _⟩
  · refine (refset_yes h (List.getElem_mem hi) hm).mono ?_
    rintro e w' ⟨rfl, h1, h2⟩
    refine ⟨by rw [hf], ?_, h2⟩
    unfold setWs
    rw [if_pos hf, show ((R[i].1 : Int) + (m : Int)).toNat = R[i].1 + m by omega]
    exact h1
theorem getA_said {w : World} {p g bm n : Nat} {ws : List Int} {R : List (Nat × Nat)} {x a : Int} (h : ArenaAt w p g bm n ws R) (hw : (Lit.int .i64 x).wf = true) :
    Calls Tryz.prog 80 #[.pointer (some ⟨p, 0, none⟩), .int .i64 x, .int .i64 a] w fun e w' => e = .returned (.tuple #[.int .u64 (getW ws R x a), .bool (within R x a)]) ∧ w = w' := by
  rcases place_cases h.good x a with ⟨h0, hf⟩ | ⟨i, hi, rfl, hl, ⟨hf, ho⟩ | ⟨m, rfl, hm, hf⟩⟩
  · refine (get_no h hw h0).mono ?_
    rintro e w' ⟨rfl, rfl⟩
    exact ⟨by simp [getW, hf], rfl⟩
  · refine (get_out h (List.getElem_mem hi) ho).mono ?_
    rintro e w' ⟨rfl, rfl⟩
    exact ⟨by simp [getW, hf], rfl⟩
  · refine (get_yes h (List.getElem_mem hi) hm).mono ?_
    rintro e w' ⟨rfl, rfl⟩
    refine ⟨?_, rfl⟩
    unfold getW
    rw [if_pos hf, hf, show ((R[i].1 : Int) + (m : Int)).toNat = R[i].1 + m by omega]
theorem wordSl_nil (w : World) : WordSl w (.slice none 0 0) [] := ⟨none, 0, rfl, Nat.le_refl _, Nat.zero_le _, fun i x h => by simp at h⟩
theorem wordsAt_zero {ws : List Int} {R : List (Nat × Nat)} {x : Int} (h0 : lenAt R x = 0) : wordsAt ws R x = [] := by unfold wordsAt; rw [h0]; simp
theorem wordsA_said {w : World} {p g bm n : Nat} {ws : List Int} {R : List (Nat × Nat)} {x : Int} (h : ArenaAt w p g bm n ws R) (hw : (Lit.int .i64 x).wf = true) :
    Calls Tryz.prog 9 #[.pointer (some ⟨p, 0, none⟩), .int .i64 x] w fun e w' => ∃ v, e = .returned (.tuple #[v, .bool (freeB R x)]) ∧ WordSl w' v (wordsAt ws R x) ∧ Ext w w' := by
  by_cases h0 : lenAt R x = 0
  · refine (words_no h hw h0).mono ?_
    rintro e w' ⟨rfl, rfl⟩
    exact ⟨.slice none 0 0, by simp [freeB, h0], by rw [wordsAt_zero h0]; exact wordSl_nil _, Ext.refl _⟩
  · obtain ⟨i, hi, rfl, hl⟩ := lenAt_some' h.good h0
    refine (words_yes h (List.getElem_mem hi)).mono ?_
    rintro e w' ⟨v, rfl, h1, h2⟩
    refine ⟨v, by simp [freeB, h0], ?_, h2⟩
    have hlen := wordsOf_length (ws := ws) h.good h.len (List.getElem_mem hi)
    have e1 : wordsAt ws R (R[i].1 : Int) = wordsOf ws R[i] := by
      unfold wordsAt wordsOf
      rw [hl]
      simp
    rw [e1]
    refine WordSl.of_row (l := wordsOf ws R[i]) (base := w.heap.size) ?_
    rw [hlen]
    exact h1
theorem sizeR_said {w : World} {q gq B n : Nat} {ws : List Int} {vR : Value} {R : List (Nat × Nat)} {x : Int} (h : RefAt w q gq B n ws vR R) :
    Calls Tryz.prog 55 #[.pointer (some ⟨q, 0, none⟩), .int .i64 x] w fun e w' => (∃ s : Int, e = .returned (.int .i64 s) ∧ decide (0 ≤ s) = freeB R x) ∧ w = w' := by
  by_cases h0 : lenAt R x = 0
  · refine (size_no h h0).mono ?_
    rintro e w' ⟨rfl, rfl⟩
    exact ⟨⟨-1, rfl, by simp [freeB, h0]⟩, rfl⟩
  · obtain ⟨i, hi, rfl, hl⟩ := lenAt_some' h.good h0
    refine (size_yes h (List.getElem_mem hi)).mono ?_
    rintro e w' ⟨rfl, rfl⟩
    exact ⟨⟨_, rfl, by simp [freeB, h0]⟩, rfl⟩
end Go.Proofs.YtppkgfcobnknfaaGreatDoor
/- A heap that is looked through: its words, where it begins, whether it may be. -/
namespace Go.Proofs.YtppkgfcobnknfaaGreatDoor
open Go.RowKit Go.Maps Arena
set_option maxHeartbeats 4000000
set_option maxRecDepth 100000
structure Hp where
  base : Int
  half : Int
  space : Int
  top : Int
def hpV (h : Hp) : Value := .agg #[.int .i64 h.base, .int .i64 h.half, .int .i64 h.space, .int .i64 h.top]
/-- do a heap's numbers fit (the region aside) -/
def hpOK (h : Hp) : Prop := 8 ≤ h.half ∧ h.half ≤ 2000 ∧ 0 ≤ h.space ∧ h.space ≤ 1 ∧ 0 ≤ h.top ∧ h.top ≤ h.half
instance (h : Hp) : Decidable (hpOK h) := by unfold hpOK; infer_instance
def thereB (R : List (Nat × Nat)) (h : Hp) : Bool := decide (hpOK h) && decide ((lenAt R h.base : Int) = 2 * h.half)
theorem word_is {w : World} {p g bm n : Nat} {ws : List Int} {R : List (Nat × Nat)} (H : ArenaAt w p g bm n ws R) (ba ha sp tp a : Int) (hw : (Lit.int .i64 ba).wf = true) :
    Calls Tryz.prog 75 #[.agg #[.pointer (some ⟨p, 0, none⟩), .int .i64 ba, .int .i64 ha, .int .i64 sp, .int .i64 tp], .int .i64 a] w fun e w' => e = .returned (.int .u64 (getW ws R ba a)) ∧ Ext w w' := by
  have HG := Lib.hid (fun W (e : Ext w W) => getA_said (x := ba) (a := a) (H.ext e) hw)
  generalize getW ws R ba a = gv at HG ⊢
  clear H hw
  go_enter Tryz.func75, Tryz.ntmps75
  go_wp2_with fail
  refine (HG.out _ (Ext.alloc _ _)).mono ?_
  rintro e w1 ⟨rfl, rfl⟩
  go_wp2
  go_ret
  exact ⟨rfl, Ext.alloc _ _⟩
theorem first_is (pv : Value) (ba : Int) (ha sp : Nat) (tp : Int) (h1 : ha ≤ 2000) (h2 : sp ≤ 1) (w : World) (_hp : pv.oneCell' = true) :
    Calls Tryz.prog 57 #[.agg #[pv, .int .i64 ba, .int .i64 ha, .int .i64 sp, .int .i64 tp]] w fun e w' => e = .returned (.int .i64 ((sp * ha : Nat) : Int)) ∧ Ext w w' := by
  rcases (show sp = 0 ∨ sp = 1 by omega) with rfl | rfl
  · go_enter Tryz.func57, Tryz.ntmps57
    go_wp2
    go_ret
    exact ⟨by simp, Ext.alloc _ _⟩
  · go_enter Tryz.func57, Tryz.ntmps57
    go_wp2
    go_ret
    exact ⟨by simp, Ext.alloc _ _⟩
end Go.Proofs.YtppkgfcobnknfaaGreatDoor
/- A heap: where it ends, whether it may be. -/
namespace Go.Proofs.YtppkgfcobnknfaaGreatDoor
open Go.RowKit Go.Maps Arena
set_option maxHeartbeats 4000000
set_option maxRecDepth 100000
theorem top_is (pv : Value) (ba : Int) (ha sp tp : Nat) (h1 : ha ≤ 2000) (h2 : sp ≤ 1) (h3 : tp ≤ 2000) (w : World) (hp : pv.oneCell' = true) :
    Calls Tryz.prog 46 #[.agg #[pv, .int .i64 ba, .int .i64 ha, .int .i64 sp, .int .i64 tp]] w fun e w' => e = .returned (.int .i64 ((sp * ha + tp : Nat) : Int)) ∧ Ext w w' := by
  have HF := Lib.hid (fun W => first_is pv ba ha sp tp h1 h2 W hp)
  have hm : sp * ha ≤ 2000 := by
    rcases (show sp = 0 ∨ sp = 1 by omega) with rfl | rfl <;> omega
  generalize sp * ha = f at HF hm ⊢
  go_enter Tryz.func46, Tryz.ntmps46
  go_upto_region 1 with fail
  refine wp_alloc1 fun W hE _ b0 => ?_
  have x0 := cell_at b0 (i := 0) rfl
  have x1 := cell_at b0 (i := 1) rfl
  have x2 := cell_at b0 (i := 2) rfl
  have x3 := cell_at b0 (i := 3) rfl
  have x4 := cell_at b0 (i := 4) rfl
  have r0 := fun d os => cell_regrown x0 d os
  have r1 := fun d os => cell_regrown x1 d os
  have r2 := fun d os => cell_regrown x2 d os
  have r3 := fun d os => cell_regrown x3 d os
  have r4 := fun d os => cell_regrown x4 d os
  have cF := fun d os => quiet_ext (HF.out (Go.Sort.grow (redrawn W d) os))
  have CF := Lib.hid cF
  have HE := Lib.hid hE
  clear cF x0 x1 x2 x3 x4 b0 hE
  refine wp_region_quiet_below (by kernel_rfl) (by kernel_rfl) ?_
  repeat (first | go_big_quiet_step (exact CF.out _ _) | quiet_step (exact CF.out _ _))
  refine wpQuiet_nil ?_
  intro _ hw'
  obtain ⟨⟨dq, osq⟩, hw''⟩ := hw'
  subst hw''
  have HXQ := Lib.hid (HE.out.trans (Ext.regrown W dq osq))
  clear r0 r1 r2 r3 r4
  go_wp2
  go_ret
  exact ⟨by show Ending.returned (.int .i64 ((f : Int) + (tp : Int))) = _; congr 2, HXQ.out⟩
theorem there_is {w : World} {p g bm n : Nat} {ws : List Int} {R : List (Nat × Nat)} (H : ArenaAt w p g bm n ws R) (h : Hp) (hw : (Lit.int .i64 h.base).wf = true) (hl : (wordsAt ws R h.base).length = lenAt R h.base) (hl2 : lenAt R h.base ≤ 20000) :
    Calls Tryz.prog 56 #[.agg #[.pointer (some ⟨p, 0, none⟩), .int .i64 h.base, .int .i64 h.half, .int .i64 h.space, .int .i64 h.top]] w fun e w' => e = .returned (.bool (thereB R h)) ∧ Ext w w' := by
  obtain ⟨ba, ha, sp, tp⟩ := h
  dsimp only at hw hl hl2 ⊢
  have HW := Lib.hid (fun W (e : Ext w W) => wordsA_said (x := ba) (H.ext e) hw)
  clear H hw
  by_cases h0 : 8 ≤ ha
  · by_cases h1 : ha ≤ 2000
    · by_cases h2 : 0 ≤ sp
      · by_cases h3 : sp ≤ 1
        · by_cases h4 : 0 ≤ tp
          · by_cases h5 : tp ≤ ha
            · have b0 : decide (ha < 8) = false := decide_eq_false (by omega)
              have b1 : decide (2000 < ha) = false := decide_eq_false (by omega)
              have b2 : decide (sp < 0) = false := decide_eq_false (by omega)
              have b3 : decide (1 < sp) = false := decide_eq_false (by omega)
              have b4 : decide (tp < 0) = false := decide_eq_false (by omega)
              have b5 : decide (ha < tp) = false := decide_eq_false (by omega)
              have hb : thereB R ⟨ba, ha, sp, tp⟩ = (freeB R ba && decide ((lenAt R ba : Int) = 2 * ha)) := by
                unfold thereB freeB
                rw [decide_eq_true (show hpOK ⟨ba, ha, sp, tp⟩ from ⟨h0, h1, h2, h3, h4, h5⟩)]
                by_cases hz : lenAt R ba = 0
                · have : ¬ (lenAt R ba : Int) = 2 * ha := by omega
                  simp [hz]; omega
                · simp [hz]
              rw [hb]
              generalize freeB R ba = fb at HW ⊢
              generalize wordsAt ws R ba = wl at HW hl
              generalize lenAt R ba = ln at hl hl2 ⊢
              subst hl
              clear hb
              obtain ⟨dz, hdz⟩ : ∃ dz, dz = decide ((wl.length : Int) = 2 * ha) := ⟨_, rfl⟩
              rw [← hdz]
              have hez : ((wl.length : Int) == 2 * ha) = dz := by rw [hdz, Bool.eq_iff_iff]; simp
              clear hdz
              go_enter Tryz.func56, Tryz.ntmps56
              go_wp2_with fail
              refine (HW.out _ (Ext.alloc _ _)).mono ?_
              rintro e w1 ⟨v, rfl, ⟨q, c, rfl, hv1, hv2, _⟩, hx⟩
              have x2 := hx.cell (a := ⟨w.heap.size, 2, none⟩) (cell_at (heap_alloc_new w _) rfl)
              have HX := Lib.hid ((Ext.alloc _ _).trans hx)
              clear hx
              cases fb
              · go_wp2
                go_ret
                exact ⟨rfl, HX.out⟩
              · go_wp2
                go_ret
                exact ⟨rfl, HX.out⟩
            · have hb : thereB R ⟨ba, ha, sp, tp⟩ = false := by unfold thereB; rw [decide_eq_false (show ¬ hpOK ⟨ba, ha, sp, tp⟩ from fun h => h5 h.2.2.2.2.2)]; rfl
              rw [hb]
              clear hb
              have b0 : decide (ha < 8) = false := decide_eq_false (by omega)
              have b1 : decide (2000 < ha) = false := decide_eq_false (by omega)
              have b2 : decide (sp < 0) = false := decide_eq_false (by omega)
              have b3 : decide (1 < sp) = false := decide_eq_false (by omega)
              have b4 : decide (tp < 0) = false := decide_eq_false (by omega)
              have b5 : decide (ha < tp) = true := decide_eq_true (by omega)
              clear HW
              go_enter Tryz.func56, Tryz.ntmps56
              go_wp2
              go_ret
              exact ⟨rfl, Ext.alloc _ _⟩
          · have hb : thereB R ⟨ba, ha, sp, tp⟩ = false := by unfold thereB; rw [decide_eq_false (show ¬ hpOK ⟨ba, ha, sp, tp⟩ from fun h => h4 h.2.2.2.2.1)]; rfl
            rw [hb]
            clear hb
            have b0 : decide (ha < 8) = false := decide_eq_false (by omega)
            have b1 : decide (2000 < ha) = false := decide_eq_false (by omega)
            have b2 : decide (sp < 0) = false := decide_eq_false (by omega)
            have b3 : decide (1 < sp) = false := decide_eq_false (by omega)
            have b4 : decide (tp < 0) = true := decide_eq_true (by omega)
            clear HW
            go_enter Tryz.func56, Tryz.ntmps56
            go_wp2
            go_ret
            exact ⟨rfl, Ext.alloc _ _⟩
        · have hb : thereB R ⟨ba, ha, sp, tp⟩ = false := by unfold thereB; rw [decide_eq_false (show ¬ hpOK ⟨ba, ha, sp, tp⟩ from fun h => h3 h.2.2.2.1)]; rfl
          rw [hb]
          clear hb
          have b0 : decide (ha < 8) = false := decide_eq_false (by omega)
          have b1 : decide (2000 < ha) = false := decide_eq_false (by omega)
          have b2 : decide (sp < 0) = false := decide_eq_false (by omega)
          have b3 : decide (1 < sp) = true := decide_eq_true (by omega)
          clear HW
          go_enter Tryz.func56, Tryz.ntmps56
          go_wp2
          go_ret
          exact ⟨rfl, Ext.alloc _ _⟩
      · have hb : thereB R ⟨ba, ha, sp, tp⟩ = false := by unfold thereB; rw [decide_eq_false (show ¬ hpOK ⟨ba, ha, sp, tp⟩ from fun h => h2 h.2.2.1)]; rfl
        rw [hb]
        clear hb
        have b0 : decide (ha < 8) = false := decide_eq_false (by omega)
        have b1 : decide (2000 < ha) = false := decide_eq_false (by omega)
        have b2 : decide (sp < 0) = true := decide_eq_true (by omega)
        clear HW
        go_enter Tryz.func56, Tryz.ntmps56
        go_wp2
        go_ret
        exact ⟨rfl, Ext.alloc _ _⟩
    · have hb : thereB R ⟨ba, ha, sp, tp⟩ = false := by unfold thereB; rw [decide_eq_false (show ¬ hpOK ⟨ba, ha, sp, tp⟩ from fun h => h1 h.2.1)]; rfl
      rw [hb]
      clear hb
      have b0 : decide (ha < 8) = false := decide_eq_false (by omega)
      have b1 : decide (2000 < ha) = true := decide_eq_true (by omega)
      clear HW
      go_enter Tryz.func56, Tryz.ntmps56
      go_wp2
      go_ret
      exact ⟨rfl, Ext.alloc _ _⟩
  · have hb : thereB R ⟨ba, ha, sp, tp⟩ = false := by unfold thereB; rw [decide_eq_false (show ¬ hpOK ⟨ba, ha, sp, tp⟩ from fun h => h0 h.1)]; rfl
    rw [hb]
    clear hb
    have b0 : decide (ha < 8) = true := decide_eq_true (by omega)
    clear HW
    go_enter Tryz.func56, Tryz.ntmps56
    go_wp2
    go_ret
    exact ⟨rfl, Ext.alloc _ _⟩
end Go.Proofs.YtppkgfcobnknfaaGreatDoor
/- An object is read out of a heap's words (the program's): no kind of that number, too long, no room. -/
namespace Go.Proofs.YtppkgfcobnknfaaGreatDoor
open Go.RowKit Go.Maps Arena
set_option maxHeartbeats 4000000
set_option maxRecDepth 100000
theorem Ext.set {w W : World} (h : Ext w W) {p : Addr} (hp : w.heap.size ≤ p.block) (u : Value) : Ext w (W.setCell p u) := Below.setCell h hp u
theorem Turn.after {w W W' : World} {bs : List Nat} (h : Ext w W) (t : Turn bs W W') (hb : ∀ b ∈ bs, w.heap.size ≤ b) : Ext w W' := Below.trans h (Turn.below t (Ext.size h) hb)
theorem post_fill4 {P : Program} {f : Func} {Q : Ending → World → Prop} {x : Exit} {a : Act} {w : World} {b : Nat} {x0 x1 x2 x3 y0 y1 y2 y3 : Value} {T : TypeId} (h0 : w.heap[b]? = some (.cells #[x0, x1, x2, x3] T (0, 0)))
    (h : ∀ W : World, W.heap[b]? = some (.cells #[y0, y1, y2, y3] T (0, 0)) → Turn [b] w W → W.heap.size = w.heap.size → bodyPost P f Q x a W) : bodyPost P f Q x a ((((w.setCell ⟨b, 0, none⟩ y0).setCell ⟨b, 1, none⟩ y1).setCell ⟨b, 2, none⟩ y2).setCell ⟨b, 3, none⟩ y3) :=
  h _ (fill4 h0 _ _ _ _).1 (fill4 h0 _ _ _ _).2.1 (fill4 h0 _ _ _ _).2.2
def zeroOV : Value := .agg #[.int .i64 0, .int .i64 0, .slice none 0 0, .string ByteArray.empty]
/-- what 'read' tells -/
def ReadSaid (r : Option Ob) (w : World) (e : Ending) (w' : World) : Prop := match r with
  | none => e = .returned (.tuple #[zeroOV, .int .i64 0]) ∧ Ext w w'
  | some o => ∃ q c, e = .returned (.tuple #[.agg #[.int .i64 o.kind, .int .i64 o.tag, .slice q o.fields.length c, .string o.text], .int .i64 (wordsO o : Nat)]) ∧ OwnP w' w.heap.size 42 (.slice q o.fields.length c) 1 (o.fields.map wordC) ∧ Ext w w'
theorem and_255 {x : Int} (h : W64 x) : bits .and .u64 x 255 = x % 256 := by
  obtain ⟨n, rfl⟩ := Int.eq_ofNat_of_zero_le h.1
  rw [show (255 : Int) = ((255 : Nat) : Int) from rfl, u64_and_nat n 255 (by have := h.2; omega) (by decide)]
  have := Nat.and_two_pow_sub_one_eq_mod n 8
  simp at this
  rw [this]
  omega
theorem and_tag {x : Int} (h : W64 x) : bits .and .u64 x 16777215 = x % 16777216 := by
  obtain ⟨n, rfl⟩ := Int.eq_ofNat_of_zero_le h.1
  rw [show (16777215 : Int) = ((16777215 : Nat) : Int) from rfl, u64_and_nat n 16777215 (by have := h.2; omega) (by decide)]
  have := Nat.and_two_pow_sub_one_eq_mod n 24
  simp at this
  rw [this]
  omega
theorem read_no (pv : Value) (ba ha sp tp at_ en : Int) (hd kd tg : Int) (sz : Nat) (hw : W64 hd) (w : World)
    (HR : ∀ W, Ext w W → Calls Tryz.prog 75 #[.agg #[pv, .int .i64 ba, .int .i64 ha, .int .i64 sp, .int .i64 tp], .int .i64 at_] W fun e w' => e = .returned (.int .u64 hd) ∧ Ext W w') (_hp : pv.oneCell' = true)
    (d1 : hd % 256 = kd) (d2 : hd / 256 % 16777216 = tg) (d3 : hd / 4294967296 = sz) (h1 : kd < 1 ∨ 4 < kd) :
    Calls Tryz.prog 58 #[.agg #[pv, .int .i64 ba, .int .i64 ha, .int .i64 sp, .int .i64 tp], .int .i64 at_, .int .i64 en] w fun e w' => e = .returned (.tuple #[zeroOV, .int .i64 0]) ∧ Ext w w' := by
  have HR' := Lib.hid HR
  have hn : ofV kd = .nilIface := by unfold ofV; rw [if_neg (by omega), if_neg (by omega), if_neg (by omega), if_neg (by omega)]
  have HN := Lib.hid hn
  clear HR hn h1
  have e1 := and_255 hw
  have e2 : bits .and .u64 (hd / 256) 16777215 = tg := by rw [and_tag ⟨by have := hw.1; omega, by have := hw.2; omega⟩]; exact d2
  have t1 : 0 ≤ kd ∧ kd ≤ 255 := by omega
  have t2 : 0 ≤ tg ∧ tg ≤ 16777215 := by omega
  have t3 : sz ≤ 4294967295 := by have := hw.2; omega
  obtain ⟨t1, t1'⟩ := t1
  obtain ⟨t2, t2'⟩ := t2
  clear d2 hw
  go_enter Tryz.func58, Tryz.ntmps58
  go_upto_region 1 with fail
  refine wp_alloc2 fun W hE hS b0 b1 => ?_
  obtain ⟨x0, x1, x2, x3, x4⟩ := cells5 b0
  go_wp2_with fail
  refine (HR'.out W hE).mono ?_
  rintro e w1 ⟨rfl, hx⟩
  have c0 := (Below.block hx w.heap.size (by omega)).trans b0
  have c1 := (Below.block hx (w.heap.size + 1) (by omega)).trans b1
  have HX := Lib.hid (hE.trans hx)
  have hlt : w.heap.size + 1 < w1.heap.size := by have := Ext.size hx; omega
  have HS := Lib.hid hS
  clear hS hx hE b0 b1 x0 x1 x2 x3 x4
  go_wp2_with fail
  refine at_alloc1 fun W2 hE2 hS2 b2 => ?_
  refine (of_is _ _).mono ?_
  rintro e w3 ⟨rfl, rfl⟩
  rw [HN.out]
  have c0 := (Below.block hE2 w.heap.size (by omega)).trans c0
  have c1 := (Below.block hE2 (w.heap.size + 1) (by omega)).trans c1
  have HX2 := Lib.hid (HX.out.trans hE2)
  have hlt : w.heap.size + 1 < W2.heap.size := by omega
  clear hE2 hS2 b2
  obtain ⟨y0, y1, y2, y3⟩ := cells4 c1
  have f0 := free_at c1 (i := 0)
  have f1 := free_at c1 (i := 1)
  have f2 := free_at c1 (i := 2)
  have f3 := free_at c1 (i := 3)
  go_wp2
  refine post_fill4 c1 fun W3 c1 hT hS3 => ?_
  obtain ⟨y0, y1, y2, y3⟩ := cells4 c1
  refine bodyPost_ret (v := .tuple #[zeroOV, .int .i64 0]) (by simp [results, Tryz.results58, go_sem, y0, y1, y2, y3, zeroOV]; rfl) rfl ⟨rfl, ?_⟩
  exact Turn.after HX2.out hT (by simp)
end Go.Proofs.YtppkgfcobnknfaaGreatDoor
/- An object is read out of a heap's words (the program's): kinds with fields. -/
namespace Go.Proofs.YtppkgfcobnknfaaGreatDoor
open Go.RowKit Go.Maps Arena
set_option maxHeartbeats 4000000
set_option maxRecDepth 100000
theorem read_row (pv : Value) (ba ha sp tp : Int) (at_ : Nat) (kd tg : Int) (sz l mo : Nat) (top hd : Int) (S : List Int) (hw : W64 hd) (w : World)
    (HR : ∀ (i : Nat) (x : Int), (hd :: S)[i]? = some x → ∀ W, Ext w W → Calls Tryz.prog 75 #[.agg #[pv, .int .i64 ba, .int .i64 ha, .int .i64 sp, .int .i64 tp], .int .i64 ((at_ + i : Nat) : Int)] W fun e w' => e = .returned (.int .u64 x) ∧ Ext W w') (_hp : pv.oneCell' = true)
    (d1 : hd % 256 = kd) (d2 : hd / 256 % 16777216 = tg) (d3 : hd / 4294967296 = sz) (hat : at_ ≤ 100000) (hSl : S.length ≤ 100000) (hk2 : kd ≠ 2) (ho : ofV kd = .iface 145 (.agg #[.int .i64 l, .int .i64 mo, .int .i64 top])) :
    Calls Tryz.prog 58 #[.agg #[pv, .int .i64 ba, .int .i64 ha, .int .i64 sp, .int .i64 tp], .int .i64 at_, .int .i64 ((at_ + (S.length + 1) : Nat) : Int)] w (ReadSaid (if sz ≤ 400 ∧ sz ≤ S.length ∧ mayK kd tg sz 0 = true then some ⟨kd, tg, S.take sz, ByteArray.empty⟩ else none) w) := by
  have HR' := Lib.hid HR
  have HR0 := Lib.hid (HR 0 hd rfl)
  have HN := Lib.hid ho
  clear HR ho
  have e1 := and_255 hw
  have e2 : bits .and .u64 (hd / 256) 16777215 = tg := by rw [and_tag ⟨by have := hw.1; omega, by have := hw.2; omega⟩]; exact d2
  have t1 : 0 ≤ kd ∧ kd ≤ 255 := by omega
  have t2 : 0 ≤ tg ∧ tg ≤ 16777215 := by omega
  have t3 : sz ≤ 4294967295 := by have := hw.2; omega
  obtain ⟨t1, t1'⟩ := t1
  obtain ⟨t2, t2'⟩ := t2
  clear d2 hw
  have k2 : (kd == 2) = false := beq_false_of_ne hk2
  have k2' : (kd != 2) = true := by rw [bne, k2]; rfl
  by_cases hs4 : sz ≤ 400
  · by_cases hsl : sz ≤ S.length
    · generalize hRR : (if sz ≤ 400 ∧ sz ≤ S.length ∧ mayK kd tg sz 0 = true then some (⟨kd, tg, S.take sz, ByteArray.empty⟩ : Ob) else none) = RR
      have HRR := Lib.hid hRR
      clear hRR
      have HR0 := Lib.hid (by simpa only [Nat.add_zero] using HR0.out)
      clear hk2
      have i1 : ¬ (400 : Int) < (sz : Int) := by omega
      have b1 : decide ((400 : Int) < (sz : Int)) = false := decide_eq_false i1
      have HM := Lib.hid (fun W => row_words (l : Int) mo top (sz : Int) W)
      have hm2 := mr_words
      go_enter Tryz.func58, Tryz.ntmps58
      go_upto_region 1 with fail
      refine wp_alloc2 fun W hE hS b0 b1 => ?_
      obtain ⟨x0, x1, x2, x3, x4⟩ := cells5 b0
      go_wp2_with fail
      refine (HR0.out W hE).mono ?_
      rintro e w1 ⟨rfl, hx⟩
      have c0 := (Below.block hx w.heap.size (by omega)).trans b0
      have c1 := (Below.block hx (w.heap.size + 1) (by omega)).trans b1
      have HX := Lib.hid (hE.trans hx)
      have hlt : w.heap.size + 1 < w1.heap.size := by have := Ext.size hx; omega
      have HS := Lib.hid hS
      clear hS hx hE b0 b1 x0 x1 x2 x3 x4
      go_wp2_with fail
      refine at_alloc1 fun W2 hE2 hS2 b2 => ?_
      refine (of_is _ _).mono ?_
      rintro e w3 ⟨rfl, rfl⟩
      rw [HN.out]
      have c0 := (Below.block hE2 w.heap.size (by omega)).trans c0
      have c1 := (Below.block hE2 (w.heap.size + 1) (by omega)).trans c1
      have HX2 := Lib.hid (HX.out.trans hE2)
      have hlt : w.heap.size + 1 < W2.heap.size := by omega
      have hltb : w1.heap.size < W2.heap.size := by omega
      clear hE2 hS2
      obtain ⟨y0, y1, y2, y3⟩ := cells4 c1
      obtain ⟨z0, z1, z2, z3⟩ := cells4 b2
      go_wp2_with fail
      refine (HM.out _).mono ?_
      rintro e w3 ⟨rfl, hx3⟩
      have c0 := (Below.block hx3 w.heap.size (by omega)).trans c0
      have c1 := (Below.block hx3 (w.heap.size + 1) (by omega)).trans c1
      have c2 := (Below.block hx3 w1.heap.size (by omega)).trans b2
      have HX3 := Lib.hid (HX2.out.trans hx3)
      have hlt3 : w1.heap.size < w3.heap.size := by have := Ext.size hx3; omega
      have hgt : ¬ ((at_ + (S.length + 1) : Nat) : Int) - (at_ : Int) < 1 + (sz : Int) := by omega
      clear hx3 y0 y1 y2 y3 z0 z1 z2 z3 b2
      obtain ⟨ob, hob⟩ : ∃ ob, ob = w1.heap.size := ⟨_, rfl⟩
      rw [← hob] at c2 hlt3 hltb ⊢
      have hlo : w.heap.size + 1 < ob := by omega
      clear hob
      go_wp2_with fail
      have hE0 := OwnP.nil w3 (ob + 1) 42 1
      go_loopw [64] (fun i wr => ∃ (k : Nat) (v : Value), k ≤ sz ∧ i = .int .i64 k ∧ wr.heap[ob]? = some (.cells #[.int .i64 kd, .int .i64 tg, v, .string ⟨#[]⟩] 56 (0, 0)) ∧ OwnP wr (ob + 1) 42 v 1 ((S.map wordC).take k) ∧ wr.heap[w.heap.size]? = some (.cells #[pv, .int .i64 ba, .int .i64 ha, .int .i64 sp, .int .i64 tp] 74 (0, 0)) ∧ wr.heap[w.heap.size + 1]? = some (.cells #[.int .i64 0, .int .i64 0, .slice none 0 0, .string ⟨#[]⟩] 56 (0, 0)) ∧ Ext w wr ∧ ob < wr.heap.size) (fun i _ => sz - (Go.RowKit.intOf i).toNat)
      case atStart => exact ⟨0, _, Nat.zero_le _, rfl, c2, hE0, c0, c1, HX3.out, hlt3⟩
      case round =>
        obtain ⟨k, v, hk, rfl, hb, hown, hb0, hb1, hx, hlr⟩ := hrel
        have HX := Lib.hid hx
        have HOW := Lib.hid hown
        obtain ⟨x0, x1, x2, x3, x4⟩ := cells5 hb0
        obtain ⟨z0, z1, z2, z3⟩ := cells4 hb
        clear hx hown c0 c1 c2 hE0 hlt3
        by_cases hlt : k < sz
        · have hkS : k < S.length := by omega
          have i1 : (k : Int) < 1 + (sz : Int) - 1 := by omega
          obtain ⟨x, hxk⟩ : ∃ x, S[k]? = some x := ⟨_, List.getElem?_eq_getElem hkS⟩
          have HW := HR'.out (k + 1) x (by simpa using hxk) wr HX.out
          rw [show ((at_ + (k + 1) : Nat) : Int) = (at_ : Int) + 1 + (k : Int) by omega] at HW
          have HW := Lib.hid HW
          have HK := Lib.hid hxk
          clear hxk
          go_wp2_with fail
          refine HW.out.mono ?_
          rintro e w4 ⟨rfl, hx4⟩
          have hb0 := (Below.block hx4 w.heap.size (by have := HX.out.size; omega)).trans hb0
          have hb1 := (Below.block hx4 (w.heap.size + 1) (by omega)).trans hb1
          have hb := (Below.block hx4 ob (by omega)).trans hb
          have HOW4 := Lib.hid (HOW.out.ext hx4)
          have HX4 := Lib.hid (HX.out.trans hx4)
          have hlr4 : ob < w4.heap.size := by have := Ext.size hx4; omega
          clear hx4 x0 x1 x2 x3 x4 z0 z1 z2 z3
          obtain ⟨z0, z1, z2, z3⟩ := cells4 hb
          have f2 := free_at hb (i := 2)
          have hlen : ((S.map wordC).take k).length = k := by rw [List.length_take, List.length_map]; omega
          obtain ⟨qv, cv, hv, _, _⟩ := HOW4.out.len
          rw [hlen] at hv
          subst hv
          have HLN := Lib.hid hlen
          clear hlen
          go_wp2_with (refine wpList_append_rows E64 (by rfl) _ _ (by rfl) (ob + 1) (.slice qv k cv) (.slice (some ⟨w4.heap.size, 0, none⟩) 1 1) ((S.map wordC).take k) [[.int .u64 x]] (by rfl) (HOW4.out.ext (Ext.alloc _ _)) (by rfl) (rows_of_block (cs := #[.int .u64 x]) (heap_alloc_new _ _) rfl (by intro u hu; simp at hu; subst hu; rfl)) (by rw [HLN.out]; simp; unfold maxLen; omega) (by rw [HLN.out]; simp; omega) (by simp; omega) ?_)
          intro v2 w5 ho2 hg2 _ _
          have hB5 : Below (ob + 1) w4 w5 := Below.grown (Below.alloc (Below.refl _ _) (by omega) _) hg2 (by simp; omega) (fun b hb => (HOW4.out.own b hb).1)
          have hb0 := (Below.block hB5 w.heap.size (by omega)).trans hb0
          have hb1 := (Below.block hB5 (w.heap.size + 1) (by omega)).trans hb1
          have hb := (Below.block hB5 ob (by omega)).trans hb
          have HX5 := Lib.hid (HX4.out.go hB5 (by omega))
          have hlr5 : ob < w5.heap.size := by have := Below.size hB5; omega
          obtain ⟨q2, cv2, hv2, _, _⟩ := ho2.len
          rw [List.length_append, HLN.out] at hv2
          change v2 = .slice q2 (k + 1) cv2 at hv2
          subst hv2
          have hq := fill1 (i := 2) hb (.slice q2 (k + 1) cv2)
          have hst : (S.map wordC).take k ++ [[.int .u64 x]] = (S.map wordC).take (k + 1) := by rw [List.take_succ_eq_append_getElem (by simpa using hkS), ← (List.getElem?_eq_some_iff.1 HK.out).2, List.getElem_map]; rfl
          have HQ := Lib.hid hq
          have HST := Lib.hid hst
          have HO2 := Lib.hid ho2
          clear ho2 hg2 hB5 hq hst z0 z1 z2 z3 f2
          obtain ⟨z0, z1, z2, z3⟩ := cells4 hb
          have f2 := free_at hb (i := 2)
          go_wp2
          obtain ⟨g1, g2, g3⟩ := HQ.out
          refine ⟨⟨k + 1, _, by omega, by go_num, g1, ?_, (g2.block _ (by omega) (by simp; omega)).trans hb0, (g2.block _ (by omega) (by simp; omega)).trans hb1, Turn.after HX5.out g2 (by simp; omega), by omega⟩, by simp [Go.RowKit.intOf]; omega⟩
          rw [← HST.out]
          exact HO2.out.turn g2 (fun b hb => by have := (HO2.out.own b hb).1; simp; omega)
        · obtain rfl : k = sz := by omega
          have i1 : ¬ (k : Int) < 1 + (k : Int) - 1 := by omega
          have hlen : ((S.map wordC).take k).length = k := by rw [List.length_take, List.length_map]; omega
          obtain ⟨qv, cv, hv, _, _⟩ := HOW.out.len
          rw [hlen] at hv
          subst hv
          clear hlen
          have HM2 := Lib.hid (fun W => may_is kd tg k cv qv ⟨#[]⟩ W (by omega))
          have hz : (⟨#[]⟩ : ByteArray).size = 0 := rfl
          rw [hz] at HM2
          generalize hmm : mayK kd tg k 0 = mm at HM2
          have HMM := Lib.hid hmm
          clear hmm hz
          go_wp2_with fail
          refine (HM2.out _).mono ?_
          rintro e w4 ⟨rfl, hx4⟩
          have hb1 := (Below.block hx4 (w.heap.size + 1) (by omega)).trans hb1
          have hb := (Below.block hx4 ob (by omega)).trans hb
          have HOW4 := Lib.hid (HOW.out.ext hx4)
          have HX4 := Lib.hid (HX.out.trans hx4)
          clear hx4 x0 x1 x2 x3 x4 z0 z1 z2 z3
          obtain ⟨z0, z1, z2, z3⟩ := cells4 hb
          obtain ⟨y0, y1, y2, y3⟩ := cells4 hb1
          have f0 := free_at hb1 (i := 0)
          have f1 := free_at hb1 (i := 1)
          have f2 := free_at hb1 (i := 2)
          have f3 := free_at hb1 (i := 3)
          cases mm
          · go_wp2
            refine post_fill4 hb1 fun W3 hb1 hT hS3 => ?_
            obtain ⟨y0, y1, y2, y3⟩ := cells4 hb1
            refine bodyPost_ret (v := .tuple #[zeroOV, .int .i64 0]) (by simp [results, Tryz.results58, go_sem, y0, y1, y2, y3, zeroOV]; rfl) rfl ?_
            rw [← HRR.out, if_neg (fun h => by rw [HMM.out] at h; cases h.2.2)]
            exact ⟨rfl, Turn.after HX4.out hT (by simp)⟩
          · go_wp2
            refine post_fill4 hb1 fun W3 hb1 hT hS3 => ?_
            obtain ⟨y0, y1, y2, y3⟩ := cells4 hb1
            refine bodyPost_ret (v := .tuple #[.agg #[.int .i64 kd, .int .i64 tg, .slice qv k cv, .string ⟨#[]⟩], .int .i64 (1 + (k : Int))]) (by simp [results, Tryz.results58, go_sem, y0, y1, y2, y3]) rfl ?_
            rw [← HRR.out, if_pos ⟨hs4, hsl, HMM.out⟩]
            have hlen : (S.take k).length = k := by rw [List.length_take]; omega
            refine ⟨qv, cv, ?_, ?_, Turn.after HX4.out hT (by simp)⟩
            · dsimp only
              rw [hlen]
              have hn2 : (kd = 2) = False := eq_false (by intro h; rw [h] at k2; simp at k2)
              have : ((wordsO ⟨kd, tg, S.take k, ByteArray.empty⟩ : Nat) : Int) = 1 + (k : Int) := by
                unfold wordsO bodyK
                dsimp only
                rw [if_neg (by rw [hn2]; exact id), hlen]
                omega
              rw [this]
              rfl
            · dsimp only
              rw [hlen, List.map_take]
              exact (HOW4.out.turn hT (fun b hb => by have := (HOW4.out.own b hb).1; simp; omega)).mono (by omega)
    · rw [if_neg (fun h => hsl h.2.1)]
      have HR0 := Lib.hid (by simpa only [Nat.add_zero] using HR0.out)
      clear HR' hk2 k2'
      have i1 : ¬ (400 : Int) < (sz : Int) := by omega
      have b1 : decide ((400 : Int) < (sz : Int)) = false := decide_eq_false i1
      have HM := Lib.hid (fun W => row_words (l : Int) mo top (sz : Int) W)
      have hm2 := mr_words
      go_enter Tryz.func58, Tryz.ntmps58
      go_upto_region 1 with fail
      refine wp_alloc2 fun W hE hS b0 b1 => ?_
      obtain ⟨x0, x1, x2, x3, x4⟩ := cells5 b0
      go_wp2_with fail
      refine (HR0.out W hE).mono ?_
      rintro e w1 ⟨rfl, hx⟩
      have c0 := (Below.block hx w.heap.size (by omega)).trans b0
      have c1 := (Below.block hx (w.heap.size + 1) (by omega)).trans b1
      have HX := Lib.hid (hE.trans hx)
      have hlt : w.heap.size + 1 < w1.heap.size := by have := Ext.size hx; omega
      have HS := Lib.hid hS
      clear hS hx hE b0 b1 x0 x1 x2 x3 x4
      go_wp2_with fail
      refine at_alloc1 fun W2 hE2 hS2 b2 => ?_
      refine (of_is _ _).mono ?_
      rintro e w3 ⟨rfl, rfl⟩
      rw [HN.out]
      have c0 := (Below.block hE2 w.heap.size (by omega)).trans c0
      have c1 := (Below.block hE2 (w.heap.size + 1) (by omega)).trans c1
      have HX2 := Lib.hid (HX.out.trans hE2)
      have hlt : w.heap.size + 1 < W2.heap.size := by omega
      clear hE2 hS2
      obtain ⟨y0, y1, y2, y3⟩ := cells4 c1
      obtain ⟨z0, z1, z2, z3⟩ := cells4 b2
      go_wp2_with fail
      refine (HM.out _).mono ?_
      rintro e w3 ⟨rfl, hx3⟩
      have c1 := (Below.block hx3 (w.heap.size + 1) (by omega)).trans c1
      have HX3 := Lib.hid (HX2.out.trans hx3)
      clear hx3 y0 y1 y2 y3 z0 z1 z2 z3 c0 b2
      obtain ⟨y0, y1, y2, y3⟩ := cells4 c1
      have f0 := free_at c1 (i := 0)
      have f1 := free_at c1 (i := 1)
      have f2 := free_at c1 (i := 2)
      have f3 := free_at c1 (i := 3)
      have hgt : ((at_ + (S.length + 1) : Nat) : Int) - (at_ : Int) < 1 + (sz : Int) := by omega
      go_wp2
      refine post_fill4 c1 fun W3 c1 hT hS3 => ?_
      obtain ⟨y0, y1, y2, y3⟩ := cells4 c1
      refine bodyPost_ret (v := .tuple #[zeroOV, .int .i64 0]) (by simp [results, Tryz.results58, go_sem, y0, y1, y2, y3, zeroOV]; rfl) rfl ⟨rfl, ?_⟩
      exact Turn.after HX3.out hT (by simp)
  · rw [if_neg (fun h => hs4 h.1)]
    have HR0 := Lib.hid (by simpa only [Nat.add_zero] using HR0.out)
    clear HR' hk2 k2'
    have i1 : (400 : Int) < (sz : Int) := by omega
    have b1 : decide ((400 : Int) < (sz : Int)) = true := decide_eq_true i1
    go_enter Tryz.func58, Tryz.ntmps58
    go_upto_region 1 with fail
    refine wp_alloc2 fun W hE hS b0 b1 => ?_
    obtain ⟨x0, x1, x2, x3, x4⟩ := cells5 b0
    go_wp2_with fail
    refine (HR0.out W hE).mono ?_
    rintro e w1 ⟨rfl, hx⟩
    have c0 := (Below.block hx w.heap.size (by omega)).trans b0
    have c1 := (Below.block hx (w.heap.size + 1) (by omega)).trans b1
    have HX := Lib.hid (hE.trans hx)
    have hlt : w.heap.size + 1 < w1.heap.size := by have := Ext.size hx; omega
    have HS := Lib.hid hS
    clear hS hx hE b0 b1 x0 x1 x2 x3 x4
    go_wp2_with fail
    refine at_alloc1 fun W2 hE2 hS2 b2 => ?_
    refine (of_is _ _).mono ?_
    rintro e w3 ⟨rfl, rfl⟩
    rw [HN.out]
    have c1 := (Below.block hE2 (w.heap.size + 1) (by omega)).trans c1
    have HX2 := Lib.hid (HX.out.trans hE2)
    have hlt : w.heap.size + 1 < W2.heap.size := by omega
    clear hE2 hS2 c0 b2
    obtain ⟨y0, y1, y2, y3⟩ := cells4 c1
    have f0 := free_at c1 (i := 0)
    have f1 := free_at c1 (i := 1)
    have f2 := free_at c1 (i := 2)
    have f3 := free_at c1 (i := 3)
    go_wp2
    refine post_fill4 c1 fun W3 c1 hT hS3 => ?_
    obtain ⟨y0, y1, y2, y3⟩ := cells4 c1
    refine bodyPost_ret (v := .tuple #[zeroOV, .int .i64 0]) (by simp [results, Tryz.results58, go_sem, y0, y1, y2, y3, zeroOV]; rfl) rfl ⟨rfl, ?_⟩
    exact Turn.after HX2.out hT (by simp)
end Go.Proofs.YtppkgfcobnknfaaGreatDoor
