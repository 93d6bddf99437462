/- The walk of an arena's Cut. -/
import Derived.Test.YtibpnhaamdelmaaArenaW
import Derived.Lib.SliceRun
namespace Go.Proofs.Ytibpnhaamdelmaa
open Go.RowKit Go.Maps Arena
set_option maxHeartbeats 2000000
set_option maxRecDepth 100000
/-- what a row of places is good for -/
theorem row_any {w : World} {base : Nat} {v : Value} {R : List (Nat × Nat)} (h : w.ownsRow base 3 1 v R.length (R.map fun r => Value.int .i64 r.1)) : ∃ q c, v = .slice q R.length c ∧ R.length ≤ c ∧ c ≤ maxLen ∧
    ∀ (i : Nat) (x : Nat × Nat), R[i]? = some x → ∃ s, q = some ⟨s, 0, none⟩ ∧ w.cell? ⟨s, i, none⟩ = some (.int .i64 x.1) := by
  rcases h.2 with ⟨h1, h2⟩ | ⟨g, cap, cur, h1, hb, hg, h2, h3, h4, h5⟩
  · refine ⟨none, 0, by rw [h1, h2], by omega, Nat.zero_le _, fun i x hx => ?_⟩
    have := (List.getElem?_eq_some_iff.1 hx).1
    omega
  · refine ⟨_, cap, h1, h2, h3, fun i x hx => ⟨g, rfl, ?_⟩⟩
    subst h1
    have hi : i < R.length := (List.getElem?_eq_some_iff.1 hx).1
    rw [World.ownsRow.cellAt h i (by omega), List.getElem?_map, hx]
    rfl
/-- words from a place on set to others -/
def setMany (ws : List Int) (o : Nat) : List Int → List Int
  | [] => ws
  | v :: vs => setMany (ws.set o v) (o + 1) vs
theorem setMany_length (vs : List Int) : ∀ (ws : List Int) (o : Nat), (setMany ws o vs).length = ws.length := by
  induction vs with
  | nil => intro ws o; rfl
  | cons v vs ih => intro ws o; rw [setMany, ih, List.length_set]
theorem ArenaAt.stores {p g bm n : Nat} {R : List (Nat × Nat)} (vs : List Int) : ∀ {w : World} {ws : List Int} (o : Nat), ArenaAt w p g bm n ws R → ArenaAt (w.setCells g o (vs.map fun x => Value.int .u64 x)) p g bm n (setMany ws o vs) R ∧ Turn [g] w (w.setCells g o (vs.map fun x => Value.int .u64 x)) := by
  induction vs with
  | nil => intro w ws o h; exact ⟨h, Turn.refl _ _⟩
  | cons v vs ih =>
    intro w ws o h
    obtain ⟨h1, h2⟩ := ih (o + 1) (h.store o v)
    exact ⟨h1, ((Turn.refl [g] w).setCell (.inl (by simp)) _).trans h2⟩
theorem ArenaAt.cutRow {w w1 : World} {p g bm n : Nat} {ws : List Int} {R : List (Nat × Nat)} {k : Nat} (h : ArenaAt w p g bm n ws R) (hk : 1 ≤ k) (hn : scan k 0 R + k ≤ n)
    (ho : w1.ownsMap Try.prog 3 (plainElem Try.prog 3) bm (R.length + 1) ((regD R).put (.int .i64 (scan k 0 R)) (.lit (.int .i64 k)))) (hg : w.grownBy w1 (some bm)) :
    ArenaAt w1 p g bm n ws (ins (scan k 0 R, k) R) ∧ Turn [bm] w w1 := by
  have ht : Turn [bm] w w1 := Turn.of_grown hg (fun b hb => .inl (by cases hb; exact .head _))
  obtain ⟨lp, lg, lm⟩ := h.lt
  rw [regD_put (x := (scan k 0 R, k)) (scan_ne h.good hk)] at ho
  refine ⟨⟨?_, ?_, h.len, owns_size ho, good_cut h.good hk hn, h.pg, h.pm, h.gm, h.least⟩, ht⟩
  · rw [ht.block p lp (by simp; exact h.pm)]; exact h.row
  · rw [ht.block g lg (by simp; exact h.gm)]; exact h.words
theorem scan_round {k a : Nat} {r : Nat × Nat} {R : List (Nat × Nat)} : (a + k ≤ r.1 → scan k a (r :: R) = a) ∧ (¬ a + k ≤ r.1 → scan k a (r :: R) = scan k (r.1 + r.2) R) := by
  constructor <;> intro h <;> simp [scan, h]
theorem clear_run {w : World} {p g bm n a k : Nat} {ws : List Int} {R : List (Nat × Nat)} (h : ArenaAt w p g bm n ws R) (hk : 1 ≤ k) (hfit : a + k ≤ n) (ty : TypeId) :
    (Builtin.clear_ #[42] ty #[.slice (some ⟨g, a, none⟩) k (n - a)]).run Try.prog w = .ok (.tuple #[]) (w.setCells g a ((List.replicate k 0).map fun x => Value.int .u64 x)) := by
  rw [List.map_replicate]
  exact Lib.run_clear_slice w 42 29 ty (.int .u64 0) Try.underlying42 (fun _ => by kernel_rfl) rfl rfl g a k (n - a) hk
    (fun j hj => by rw [(h.word (i := a + j) (by omega)).1]; rfl) (fun j hj => (h.word (i := a + j) (by omega)).2)
theorem cut_small {w : World} {p : Nat} {k : Int} (hk : k < 1) : Calls Try.prog 10 #[.pointer (some ⟨p, 0, none⟩), .int .i64 k] w fun e w' => e = .returned (.tuple #[.int .i64 0, .bool false]) ∧ w = w' := by
  go_enter Try.func10, Try.ntmps10
  go_wp2
  go_ret2
  exact ⟨rfl, rfl⟩
theorem cut_is {w : World} {p g bm n : Nat} {ws : List Int} {R : List (Nat × Nat)} {k : Nat} (h : ArenaAt w p g bm n ws R) (hk : 1 ≤ k) (hk2 : k ≤ 9223372036854775807) :
    Calls Try.prog 10 #[.pointer (some ⟨p, 0, none⟩), .int .i64 k] w fun e w' =>
      (scan k 0 R + k ≤ n ∧ e = .returned (.tuple #[.int .i64 (scan k 0 R), .bool true]) ∧ ArenaAt w' p g bm n (setMany ws (scan k 0 R) (List.replicate k 0)) (ins (scan k 0 R, k) R) ∧ Turn [g, bm] w w') ∨
      (¬ scan k 0 R + k ≤ n ∧ e = .returned (.tuple #[.int .i64 0, .bool false]) ∧ Ext w w') := by
  have hn := h.least
  have HA := Lib.hid h
  clear h
  go_enter Try.func10, Try.ntmps10
  go_wp2_with fail
  refine (bases_is HA.out).mono ?_; rintro e w1 ⟨v, rfl, hrow, hx⟩
  obtain ⟨q, c, rfl, hc1, hc2, hcell⟩ := row_any hrow
  have h1 := HA.out.ext hx
  obtain ⟨c0, c1⟩ := h1.cells
  have HX := Lib.hid hx; have H1 := Lib.hid h1; have HC := Lib.hid hcell
  have hle := scan_le (k := k) R 0 h1.good (Nat.zero_le _)
  clear hx h1 hcell hrow
  unfold maxLen at hc2
  go_wp2_with fail
  go_loop [6, 18] (fun at_ i => ∃ j a : Nat, j ≤ R.length ∧ i = .int .i64 j ∧ at_ = .int .i64 a ∧ a ≤ n ∧ scan k 0 R = scan k a (R.drop j)) (fun _ i => R.length - (intOf i).toNat)
  case atStart => exact ⟨0, 0, by omega, rfl, rfl, Nat.zero_le _, rfl⟩
  case round =>
    obtain ⟨j, a, hj, rfl, rfl, ha, hsc⟩ := hrel
    by_cases hlt : j < R.length
    · have hxj : R[j]? = some R[j] := List.getElem?_eq_getElem hlt
      have hd : R.drop j = R[j] :: R.drop (j + 1) := List.drop_eq_getElem_cons hlt
      have hmem : R[j] ∈ R := List.getElem_mem hlt
      obtain ⟨s, rfl, hcj⟩ := HC.out j _ hxj
      have hb := H1.out.good.2 R[j] hmem
      have hlk := look_len (k := (R[j].1 : Int)) H1.out (WalkArith.wf_i64 (by omega))
      rw [lenAt_mem H1.out.good hmem] at hlk
      rw [hd] at hsc
      generalize R[j] = x at *
      obtain ⟨xb, xl⟩ := x
      dsimp only at hcj hb hlk
      obtain ⟨hb1, hb2⟩ := hb
      have i1 : (j : Int) < (R.length : Int) := by omega
      clear hxj hd hmem
      by_cases hroom : a + k ≤ xb
      · have g1 : (k : Int) ≤ (xb : Int) - (a : Int) := by omega
        have hs2 : scan k 0 R = a := hsc.trans ((scan_round (r := (xb, xl)) (R := R.drop (j + 1))).1 hroom)
        have HS := Lib.hid hs2
        clear hsc hs2 hlk
        by_cases hfit : a + k ≤ n
        · have f1 : ¬ ((n : Int) - (a : Int) < (k : Int)) := by omega
          have hwa : (Lit.int .i64 (a : Int)).wf = true := WalkArith.wf_i64 (by omega)
          have hwk : (Lit.int .i64 (k : Int)).wf = true := WalkArith.wf_i64 (by omega)
          have hfit2 : scan k 0 R + k ≤ n := by rw [HS.out]; exact hfit
          have HF := Lib.hid hfit2
          have hrl := good_len H1.out.good
          have HM := Lib.hid H1.out.regs
          clear hfit2
          go_wp2_with (at_mapUpdate; refine wpList_mapUpdate_own _ rfl _ _ _ 61 rfl 3 3 int_law Try.underlying61 _ bm R.length _ rfl HM.out (by unfold maxLen; omega) _ _ _ rfl rfl (key_int hwa) _ [] (plainElem_int Try.underlying3 hwk) ?_; intro w2 hown2 hgrow2; have hcr := ArenaAt.cutRow (k := k) H1.out hk HF.out (by rw [HS.out]; exact hown2) hgrow2; obtain ⟨d0, d1⟩ := hcr.1.cells; have HCR := Lib.hid hcr; clear hcr; have hcl := fun ty => clear_run (k := k) (a := a) HCR.out.1 hk hfit ty)
          go_ret2
          obtain ⟨s1, s2⟩ := HCR.out.1.stores (List.replicate k 0) a
          rw [List.map_replicate] at s1 s2
          refine .inl ⟨HF.out, by rw [HS.out]; rfl, by rw [HS.out] at s1 ⊢; exact s1, ?_⟩
          exact ((Turn.of_ext (bs := [g, bm]) HX.out).trans (Turn.mono (cs := [g, bm]) HCR.out.2 (by simp))).trans (Turn.mono (cs := [g, bm]) s2 (by simp))
        · have f1 : decide ((n : Int) - (a : Int) < (k : Int)) = true := decide_eq_true (by omega)
          have hfit2 : ¬ scan k 0 R + k ≤ n := by rw [HS.out]; exact hfit
          have HF := Lib.hid hfit2
          clear hfit2 hfit
          go_wp2_with fail
          go_ret2
          exact .inr ⟨by have := HF.out; omega, rfl, HX.out⟩
      · have g1 : ¬ ((k : Int) ≤ (xb : Int) - (a : Int)) := by omega
        have hs2 : scan k 0 R = scan k (xb + xl) (R.drop (j + 1)) := hsc.trans ((scan_round (r := (xb, xl)) (R := R.drop (j + 1))).2 hroom)
        have HS := Lib.hid hs2
        clear hsc hs2
        go_wp2_with fail
        exact ⟨⟨j + 1, xb + xl, by omega, by go_num, by go_num, by omega, HS.out⟩, by simp [intOf]; omega⟩
    · obtain rfl : j = R.length := by omega
      have hs2 : scan k 0 R = a := by rw [hsc, List.drop_eq_nil_of_le (Nat.le_refl _)]; rfl
      have HS := Lib.hid hs2
      clear hsc hs2
      by_cases hfit : a + k ≤ n
      · have f1 : ¬ ((n : Int) - (a : Int) < (k : Int)) := by omega
        have hwa : (Lit.int .i64 (a : Int)).wf = true := WalkArith.wf_i64 (by omega)
        have hwk : (Lit.int .i64 (k : Int)).wf = true := WalkArith.wf_i64 (by omega)
        have hfit2 : scan k 0 R + k ≤ n := by rw [HS.out]; exact hfit
        have HF := Lib.hid hfit2
        have hrl := good_len H1.out.good
        have HM := Lib.hid H1.out.regs
        clear hfit2
        go_wp2_with (at_mapUpdate; refine wpList_mapUpdate_own _ rfl _ _ _ 61 rfl 3 3 int_law Try.underlying61 _ bm R.length _ rfl HM.out (by unfold maxLen; omega) _ _ _ rfl rfl (key_int hwa) _ [] (plainElem_int Try.underlying3 hwk) ?_; intro w2 hown2 hgrow2; have hcr := ArenaAt.cutRow (k := k) H1.out hk HF.out (by rw [HS.out]; exact hown2) hgrow2; obtain ⟨d0, d1⟩ := hcr.1.cells; have HCR := Lib.hid hcr; clear hcr; have hcl := fun ty => clear_run (k := k) (a := a) HCR.out.1 hk hfit ty)
        go_ret2
        obtain ⟨s1, s2⟩ := HCR.out.1.stores (List.replicate k 0) a
        rw [List.map_replicate] at s1 s2
        refine .inl ⟨HF.out, by rw [HS.out]; rfl, by rw [HS.out] at s1 ⊢; exact s1, ?_⟩
        exact ((Turn.of_ext (bs := [g, bm]) HX.out).trans (Turn.mono (cs := [g, bm]) HCR.out.2 (by simp))).trans (Turn.mono (cs := [g, bm]) s2 (by simp))
      · have f1 : decide ((n : Int) - (a : Int) < (k : Int)) = true := decide_eq_true (by omega)
        have hfit2 : ¬ scan k 0 R + k ≤ n := by rw [HS.out]; exact hfit
        have HF := Lib.hid hfit2
        clear hfit2 hfit
        go_wp2_with fail
        go_ret2
        exact .inr ⟨by have := HF.out; omega, rfl, HX.out⟩
end Go.Proofs.Ytibpnhaamdelmaa
