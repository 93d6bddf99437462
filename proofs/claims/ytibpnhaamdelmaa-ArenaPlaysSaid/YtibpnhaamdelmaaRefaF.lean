/- ArenaPlays: the walk. -/
import Derived.Test.YtibpnhaamdelmaaRefaE
import Derived.Deep.RegionHeld3
namespace Go.Proofs.Ytibpnhaamdelmaa
open Go.RowKit Go.Maps Arena
set_option maxHeartbeats 8000000
set_option maxRecDepth 100000
attribute [local go_sem ↓] Go.wp_at_zero Go.wp_at_succ
/-- the two arenas side by side, and how their blocks lie -/
structure Both (w0 w : World) (p g bm q gq B n : Nat) (ws : List Int) (R : List (Nat × Nat)) : Prop where
  a : ArenaAt w p g bm n ws R
  r : ∃ v, RefAt w q gq B n ws v R
  lt : p < q ∧ g < q ∧ bm < q ∧ p < gq ∧ g < gq ∧ bm < gq
  ge : w0.heap.size ≤ p ∧ w0.heap.size ≤ g ∧ w0.heap.size ≤ bm
  size : B ≤ w.heap.size
  ext : Ext w0 w
theorem Both.turnA {w0 w w' : World} {p g bm q gq B n : Nat} {ws : List Int} {R : List (Nat × Nat)} (h : Both w0 w p g bm q gq B n ws R) {bs : List Nat} (t : Turn bs w w') (hb : ∀ b ∈ bs, b = g ∨ b = bm) : (∃ v, RefAt w' q gq B n ws v R) ∧ B ≤ w'.heap.size ∧ Ext w0 w' := by
  obtain ⟨l1, l2, l3, l4, l5, l6⟩ := h.lt
  obtain ⟨g1, g2, g3⟩ := h.ge
  obtain ⟨v, hr⟩ := h.r
  refine ⟨⟨v, hr.turn t (fun hm => ?_) (fun hm => ?_) (fun b hm => ?_)⟩, Nat.le_trans h.size t.size, Below.trans h.ext (t.below h.ext.size fun b hm => ?_)⟩
  · rcases hb _ hm with h | h <;> omega
  · rcases hb _ hm with h | h <;> omega
  · have := hr.qB
    rcases hb b hm with h | h <;> omega
  · rcases hb b hm with h | h <;> omega
theorem Both.turnR {w0 w w' : World} {p g bm q gq B n : Nat} {ws : List Int} {R : List (Nat × Nat)} (h : Both w0 w p g bm q gq B n ws R) {bs : List Nat} (t : Turn bs w w') (hb : ∀ b ∈ bs, b = q ∨ b = gq) : ArenaAt w' p g bm n ws R ∧ B ≤ w'.heap.size ∧ Ext w0 w' := by
  obtain ⟨l1, l2, l3, l4, l5, l6⟩ := h.lt
  obtain ⟨g1, g2, g3⟩ := h.ge
  refine ⟨h.a.turn t (fun hm => ?_) (fun hm => ?_) (fun hm => ?_), Nat.le_trans h.size t.size, Below.trans h.ext (t.below h.ext.size fun b hm => ?_)⟩
  · rcases hb _ hm with h | h <;> omega
  · rcases hb _ hm with h | h <;> omega
  · rcases hb _ hm with h | h <;> omega
  · rcases hb b hm with h | h <;> omega
theorem Both.step {w0 w w' : World} {p g bm q gq B n : Nat} {ws : List Int} {R : List (Nat × Nat)} (h : Both w0 w p g bm q gq B n ws R) (e : Ext w w') : Both w0 w' p g bm q gq B n ws R := by
  obtain ⟨h1, h2, h3⟩ := h.turnA (Turn.of_ext (bs := []) e) (by simp)
  exact ⟨h.a.ext e, h1, h.lt, h.ge, h2, h3⟩
theorem Both.mk1 {w0 w w5 w6 : World} {p g bm q gq B n : Nat} {ws ws1 : List Int} {R R1 : List (Nat × Nat)} (h : Both w0 w p g bm q gq B n ws R) {bs cs : List Nat} (hA : ArenaAt w5 p g bm n ws1 R1) (t : Turn bs w w5) (hb : ∀ b ∈ bs, b = g ∨ b = bm)
    (hr : ∃ v, RefAt w6 q gq B n ws1 v R1) (u : Turn cs w5 w6) (hc : ∀ b ∈ cs, b = q ∨ b = gq) : Both w0 w6 p g bm q gq B n ws1 R1 := by
  obtain ⟨⟨v, hr5⟩, h2, h3⟩ := h.turnA t hb
  obtain ⟨l1, l2, l3, l4, l5, l6⟩ := h.lt
  obtain ⟨g1, g2, g3⟩ := h.ge
  refine ⟨hA.turn u (fun hm => ?_) (fun hm => ?_) (fun hm => ?_), hr, h.lt, h.ge, Nat.le_trans h2 u.size, Below.trans h3 (u.below h3.size fun b hm => ?_)⟩
  · rcases hc _ hm with h | h <;> omega
  · rcases hc _ hm with h | h <;> omega
  · rcases hc _ hm with h | h <;> omega
  · rcases hc b hm with h | h <;> omega
theorem Both.mk2 {w0 w w5 w6 : World} {p g bm q gq B n : Nat} {ws ws1 : List Int} {R R1 : List (Nat × Nat)} (h : Both w0 w p g bm q gq B n ws R) {bs cs : List Nat} (hr : ∃ v, RefAt w5 q gq B n ws1 v R1) (u : Turn cs w w5) (hc : ∀ b ∈ cs, b = q ∨ b = gq)
    (hA : ArenaAt w6 p g bm n ws1 R1) (t : Turn bs w5 w6) (hb : ∀ b ∈ bs, b = g ∨ b = bm) : Both w0 w6 p g bm q gq B n ws1 R1 := by
  obtain ⟨h1, h2, h3⟩ := h.turnR u hc
  obtain ⟨l1, l2, l3, l4, l5, l6⟩ := h.lt
  obtain ⟨g1, g2, g3⟩ := h.ge
  obtain ⟨v, hr⟩ := hr
  refine ⟨hA, ⟨v, hr.turn t (fun hm => ?_) (fun hm => ?_) (fun b hm => ?_)⟩, h.lt, h.ge, Nat.le_trans h2 t.size, Below.trans h3 (t.below h3.size fun b hm => ?_)⟩
  · rcases hb _ hm with h | h <;> omega
  · rcases hb _ hm with h | h <;> omega
  · have := hr.qB
    rcases hb b hm with h | h <;> omega
  · rcases hb b hm with h | h <;> omega
theorem plays_walk {v : Value} {l : List StepD} {n : Int} {w : World} (hn : (Lit.int .i64 n).wf = true) (hv : StepSl w v l) : Calls Try.prog 3 #[.int .i64 n, v] w (TrueExt w) := by
  obtain ⟨q2, c2, rfl, hd1, hd2, hcell2⟩ := hv
  have HL := Lib.hid hcell2
  unfold maxLen at hd2
  clear hcell2
  by_cases hr : n < 1 ∨ 20000 < n
  · have HN := Lib.hid hr
    clear hr
    by_cases hbig : 80 < l.length
    all_goals
      first
        | have b1 : decide ((80 : Int) < (l.length : Int)) = true := decide_eq_true (by omega)
        | have b1 : decide ((80 : Int) < (l.length : Int)) = false := decide_eq_false (by omega)
      clear hbig
      go_enter Try.func3, Try.ntmps3
      go_wp2_with fail
      refine (new_no HN.out).mono ?_; rintro e w' ⟨rfl, rfl⟩
      go_wp2_with fail
      refine (refnew_no HN.out).mono ?_; rintro e w' ⟨rfl, rfl⟩
      go_wp2_with fail
      refine (arena_wakes _).mono ?_; rintro e w2 ⟨rfl, hx2⟩
      go_wp2
      go_ret
      exact ⟨rfl, hx2⟩
  · obtain ⟨m, rfl⟩ := Int.eq_ofNat_of_zero_le (by omega : 0 ≤ n)
    have hm1 : 1 ≤ m := by omega
    have hm2 : m ≤ 20000 := by omega
    clear hr
    by_cases hbig : 80 < l.length
    · have b1 : decide ((80 : Int) < (l.length : Int)) = true := decide_eq_true (by omega)
      clear hbig
      go_enter Try.func3, Try.ntmps3
      go_wp2_with fail
      refine (new_is hm1 hm2).mono ?_; rintro e w1 ⟨p, g, bm, rfl, h1, hx1, hp, hg, hm⟩
      have HX1 := Lib.hid hx1
      clear h1 hx1
      go_wp2_with fail
      refine (refnew_is hm1 hm2).mono ?_; rintro e w2 ⟨q, gq, rfl, h2, hx2, hq, hgq⟩
      have HX2 := Lib.hid (HX1.out.trans hx2)
      clear h2 hx2
      go_wp2_with fail
      refine (arena_wakes _).mono ?_; rintro e w2 ⟨rfl, hx2⟩
      go_wp2
      go_ret
      exact ⟨rfl, HX2.out.trans hx2⟩
    · have b1 : decide ((80 : Int) < (l.length : Int)) = false := decide_eq_false (by omega)
      go_enter Try.func3, Try.ntmps3
      go_wp2_with fail
      refine (new_is hm1 hm2).mono ?_; rintro e w1 ⟨p, g, bm, rfl, h1, hx1, hp, hg, hm⟩
      have HX1 := Lib.hid hx1; have H1 := Lib.hid h1
      have hlt1 := h1.lt
      clear h1 hx1
      go_wp2_with fail
      refine (refnew_is hm1 hm2).mono ?_; rintro e w2 ⟨q, gq, rfl, h2, hx2, hq, hgq⟩
      have hsz2 := h2.qB
      have HB := Lib.hid (show Both w w2 p g bm q gq w2.heap.size m (List.replicate m 0) [] from ⟨H1.out.ext hx2, ⟨_, h2⟩, by omega, ⟨hp, hg, hm⟩, Nat.le_refl _, HX1.out.trans hx2⟩)
      clear h2 hx2 hsz2 hlt1 HX1 H1
      generalize w2.heap.size = BB at *
      go_wp2_with fail
      go_loopw [8] (fun i wr => ∃ (j : Nat) (ws : List Int) (R : List (Nat × Nat)), j ≤ l.length ∧ i = .int .i64 j ∧ Both w wr p g bm q gq BB m ws R) (fun i _ => l.length - (intOf i).toNat)
      case atStart => exact ⟨0, _, [], by omega, rfl, HB.out⟩
      case round =>
        obtain ⟨j, ws, R, hj, rfl, hB⟩ := hrel
        have HB := Lib.hid hB
        clear hB
        by_cases hlt : j < l.length
        · obtain ⟨wn, wa, b6, off6, rfl, s0, s1, s2, s3⟩ := HL.out j _ (List.getElem?_eq_getElem hlt)
          have S0 := HB.out.ext.cell s0; have S1 := HB.out.ext.cell s1; have S2 := HB.out.ext.cell s2; have S3 := HB.out.ext.cell s3
          have i1 : (j : Int) < (l.length : Int) := by omega
          clear s0 s1 s2 s3
          generalize l[j] = x at *
          go_upto_block 2 with fail
          have HB1 := Lib.hid (HB.out.step (Ext.alloc wr (.cells #[.int .i64 x.kind, .int .i64 x.n, .int .i64 x.at_, .int .u64 x.wd] 31)))
          have hbx := heap_alloc_new wr (.cells #[.int .i64 x.kind, .int .i64 x.n, .int .i64 x.at_, .int .u64 x.wd] 31)
          have hszb : (wr.alloc (.cells #[.int .i64 x.kind, .int .i64 x.n, .int .i64 x.at_, .int .u64 x.wd] 31)).heap.size = wr.heap.size + 1 := by simp
          have hbs := HB.out.size
          generalize hbb : wr.heap.size = bx at *
          generalize wr.alloc (.cells #[.int .i64 x.kind, .int .i64 x.n, .int .i64 x.at_, .int .u64 x.wd] 31) = wb at *
          have T1 : wb.cell? ⟨bx, 1, none⟩ = some (.int .i64 x.n) := by simp [World.cell?, hbx]
          have T2 : wb.cell? ⟨bx, 2, none⟩ = some (.int .i64 x.at_) := by simp [World.cell?, hbx]
          have T3 : wb.cell? ⟨bx, 3, none⟩ = some (.int .u64 x.wd) := by simp [World.cell?, hbx]
          have hbl : bm < bx ∧ g < bx ∧ q < bx ∧ gq < bx := by
            obtain ⟨vR, hr0⟩ := HB.out.r
            have := hr0.qB; have := hr0.gB; have := HB.out.lt
            omega
          obtain ⟨hbl1, hbl2, hbl3, hbl4⟩ := hbl
          clear hbx hbb S0 S1 S2 S3
          go_cut [] from 49 to 179 (fun wx => ∃ (ws' : List Int) (R' : List (Nat × Nat)), Both w wx p g bm q gq BB m ws' R')
          case first =>
            have HB2 := HB1
            by_cases k0 : x.kind = 0
            · have t0 : (x.kind == 0) = true := by simp [k0]
              clear k0
              by_cases hx1 : 1 ≤ x.n
              · as_aux_lemma =>
                  have hwn : x.n ≤ 9223372036854775807 := by
                    have h3 : IntKind.i64.min ≤ x.n ∧ x.n ≤ IntKind.i64.max := by simpa [Lit.wf] using wn
                    exact h3.2
                  obtain ⟨k, hk⟩ := Int.eq_ofNat_of_zero_le (by omega : 0 ≤ x.n)
                  rw [hk] at T1 hx1 hwn
                  go_wp2_with fail
                  refine (cut_is (k := k) HB1.out.a (by omega) (by omega)).mono ?_; rintro e w3 (⟨hfit, rfl, hA3, hT3⟩ | ⟨hfit, rfl, hx3⟩)
                  · obtain ⟨⟨vR, hr3⟩, hB3, hE3⟩ := HB1.out.turnA hT3 (by simp)
                    have HA3 := Lib.hid hA3; have HR3 := Lib.hid hr3; have HT3 := Lib.hid hT3
                    have T1' := hT3.cell (a := ⟨bx, 1, none⟩) (by have := HB1.out.lt; have := hr3.qB; simp; omega) T1
                    clear hA3 hr3 hE3 hT3
                    go_wp2_with fail
                    refine (refcut_is (k := k) HR3.out hB3 (by omega) (by omega)).mono ?_
                    rintro e w4 (⟨hf4, rfl, ⟨v4, hr4⟩, hT4⟩ | ⟨hf4, _⟩)
                    · have HN := Lib.hid (HB1.out.mk1 HA3.out HT3.out (by simp) ⟨v4, hr4⟩ hT4 (by simp))
                      clear hr4 hT4 hfit hf4
                      generalize scan k 0 R = s0 at *
                      have t1 : decide ((0 : Int) ≤ (s0 : Int)) = true := decide_eq_true (by omega)
                      have t2 : max (0 : Int) (s0 : Int) = (s0 : Int) := by omega
                      go_wp2_with fail
                      go_meet
                      exact ⟨_, _, HN.out⟩
                    · exact absurd hfit hf4
                  · have HB3 := Lib.hid (HB1.out.step hx3)
                    obtain ⟨vR, hr3⟩ := HB3.out.r
                    have HR3 := Lib.hid hr3
                    have T1' := hx3.cell T1
                    clear hr3 hx3
                    go_wp2_with fail
                    refine (refcut_is (k := k) HR3.out HB3.out.size (by omega) (by omega)).mono ?_
                    rintro e w4 (⟨hf4, _⟩ | ⟨hf4, rfl, hx4⟩)
                    · exact absurd hf4 hfit
                    · have HN := Lib.hid (HB3.out.step hx4)
                      clear hx4 hfit hf4
                      go_wp2_with fail
                      go_meet
                      exact ⟨_, _, HN.out⟩
              · as_aux_lemma =>
                  go_wp2_with fail
                  refine (cut_small (by omega)).mono ?_; rintro e w3 ⟨rfl, rfl⟩
                  obtain ⟨vR, hr3⟩ := HB1.out.r
                  have HR3 := Lib.hid hr3
                  clear hr3
                  go_wp2_with fail
                  refine (refcut_small HR3.out (by omega)).mono ?_; rintro e w4 ⟨rfl, hx4⟩
                  have HN := Lib.hid (HB1.out.step hx4)
                  clear hx4
                  go_wp2_with fail
                  go_meet
                  exact ⟨_, _, HN.out⟩
            have t0 : (x.kind == 0) = false := beq_false_of_ne k0
            clear k0
            by_cases k1 : x.kind = 1
            · as_aux_lemma =>
                have t1 : (x.kind == 1) = true := by simp [k1]
                clear k1
                have HBD := Lib.hid (HB1.out.step (Ext.drew wb))
                obtain ⟨vR, hrD⟩ := HBD.out.r
                have HRD := Lib.hid hrD
                clear hrD
                go_wp2_with fail
                go_region_held3 (fun w' => w'.cell? ⟨bx, 1, none⟩ = some (.int .i64 x.n))
                  (first | go_keep | exact hT5.cell (by simp; omega) (by simpa using T1) | exact hT6.cell (by simp; omega) (hT5.cell (by simp; omega) (by simpa using T1)))
                  (first
                    | (go_at_call 12; refine (free_said HBD.out.a wn).mono ?_; rintro e w5 ⟨rfl, hA5, hT5⟩; obtain ⟨⟨v5, hr5⟩, hB5, hE5⟩ := HBD.out.turnA hT5 (by simp))
                    | (go_at_call 13; refine (reffree_said hr5 hB5).mono ?_; rintro e w6 ⟨rfl, hr6, hT6⟩; have hnext := HBD.out.mk1 hA5 hT5 (by simp) hr6 hT6 (by simp))
                    | (go_at_call 13; refine (reffree_said HRD.out HBD.out.size).mono ?_; rintro e w5 ⟨rfl, hr5, hT5⟩; obtain ⟨hA5, hB5, hE5⟩ := HBD.out.turnR hT5 (by simp))
                    | (go_at_call 12; refine (free_said hA5 wn).mono ?_; rintro e w6 ⟨rfl, hA6, hT6⟩; have hnext := HBD.out.mk2 hr5 hT5 (by simp) hA6 hT6 (by simp)))
                all_goals
                  have HN := Lib.hid hnext
                  clear hnext
                  go_wp2_with fail
                  go_meet
                  exact ⟨_, _, HN.out⟩
            have t1 : (x.kind == 1) = false := beq_false_of_ne k1
            clear k1
            by_cases k2 : x.kind = 2
            · as_aux_lemma =>
                have t2 : (x.kind == 2) = true := by simp [k2]
                clear k2
                go_wp2_with fail
                refine (getA_said HB1.out.a wn).mono ?_; rintro e w3 ⟨rfl, rfl⟩
                obtain ⟨vR, hr3⟩ := HB1.out.r
                have HR3 := Lib.hid hr3
                clear hr3
                go_wp2_with fail
                refine (getR_said HR3.out).mono ?_; rintro e w4 ⟨rfl, hx4⟩
                have HN := Lib.hid (HB1.out.step hx4)
                clear hx4
                generalize getW ws R x.n x.at_ = gw at *
                generalize within R x.n x.at_ = gb at *
                go_wp2_with fail
                go_meet
                exact ⟨_, _, HN.out.step (Ext.alloc _ _)⟩
            have t2 : (x.kind == 2) = false := beq_false_of_ne k2
            clear k2
            by_cases k3 : x.kind = 3
            · as_aux_lemma =>
                have t3 : (x.kind == 3) = true := by simp [k3]
                clear k3
                have HBD := Lib.hid (HB1.out.step (Ext.drew wb))
                obtain ⟨vR, hrD⟩ := HBD.out.r
                have HRD := Lib.hid hrD
                clear hrD
                go_wp2_with fail
                go_region_held3 (fun w' => w'.cell? ⟨bx, 1, none⟩ = some (.int .i64 x.n) ∧ w'.cell? ⟨bx, 2, none⟩ = some (.int .i64 x.at_) ∧ w'.cell? ⟨bx, 3, none⟩ = some (.int .u64 x.wd))
                  (first | go_keep | exact ⟨hT5.cell (by simp; omega) (by simpa using T1), hT5.cell (by simp; omega) (by simpa using T2), hT5.cell (by simp; omega) (by simpa using T3)⟩ | exact ⟨hT6.cell (by simp; omega) (hT5.cell (by simp; omega) (by simpa using T1)), hT6.cell (by simp; omega) (hT5.cell (by simp; omega) (by simpa using T2)), hT6.cell (by simp; omega) (hT5.cell (by simp; omega) (by simpa using T3))⟩)
                  (first
                    | (go_at_call 16; refine (setA_said HBD.out.a wn).mono ?_; rintro e w5 ⟨rfl, hA5, hT5⟩; obtain ⟨⟨v5, hr5⟩, hB5, hE5⟩ := HBD.out.turnA hT5 (by simp))
                    | (go_at_call 17; refine (setR_said hr5).mono ?_; rintro e w6 ⟨rfl, hr6, hT6⟩; have hnext := HBD.out.mk1 hA5 hT5 (by simp) ⟨_, hr6⟩ hT6 (by simp))
                    | (go_at_call 17; refine (setR_said HRD.out).mono ?_; rintro e w5 ⟨rfl, hr5, hT5⟩; obtain ⟨hA5, hB5, hE5⟩ := HBD.out.turnR hT5 (by simp))
                    | (go_at_call 16; refine (setA_said hA5 wn).mono ?_; rintro e w6 ⟨rfl, hA6, hT6⟩; have hnext := HBD.out.mk2 ⟨_, hr5⟩ hT5 (by simp) hA6 hT6 (by simp)))
                all_goals
                  have HN := Lib.hid hnext
                  clear hnext
                  go_wp2_with fail
                  go_meet
                  exact ⟨_, _, HN.out⟩
            have t3 : (x.kind == 3) = false := beq_false_of_ne k3
            clear k3
            by_cases k4 : x.kind = 4
            · as_aux_lemma =>
                have t4 : (x.kind == 4) = true := by simp [k4]
                clear k4
                go_wp2_with fail
                refine (wordsA_said HB1.out.a wn).mono ?_; rintro e w3 ⟨va, rfl, hsl, hx3⟩
                have HB3 := Lib.hid (HB1.out.step hx3); have HSL := Lib.hid hsl
                have T1' := hx3.cell T1
                obtain ⟨vR, hr3⟩ := HB3.out.r
                have HR3 := Lib.hid hr3
                clear hr3 hsl hx3
                go_wp2_with fail
                refine (sizeR_said HR3.out).mono ?_; rintro e w' ⟨⟨sz, rfl, hsz⟩, rfl⟩
                generalize freeB R x.n = fb at *
                go_wp2_with fail
                refine (wordsR_said HR3.out).mono ?_; rintro e w' ⟨vb, rfl, hsl2, rfl⟩
                have HKW := Lib.hid (keep_words HSL.out hsl2)
                clear hsl2
                rw [decide_eq_true (rfl : wordsAt ws R x.n = wordsAt ws R x.n)] at HKW
                go_wp2_with fail
                refine HKW.out.mono ?_; rintro e w4 ⟨rfl, hx4⟩
                have HN := Lib.hid (HB3.out.step hx4)
                clear hx4
                go_wp2_with fail
                go_meet
                exact ⟨_, _, HN.out⟩
            · have t4 : (x.kind == 4) = false := beq_false_of_ne k4
              clear k4
              go_wp2_with fail
              go_meet
              exact ⟨_, _, HB1.out⟩
          case rest =>
            obtain ⟨ws', R', hB⟩ := hcut
            have HBD := Lib.hid (hB.step (Ext.drew wc))
            obtain ⟨vR, hrC⟩ := hB.r
            obtain ⟨_, C1, _⟩ := hrC.cells
            have HRC := Lib.hid hrC
            have hrl := good_len hrC.good
            clear hB hrC
            go_wp2_with fail
            go_region_held3 (fun w' => w'.cell? ⟨q, 1, none⟩ = some vR)
              (first | go_keep | exact hx5.cell (by simpa using C1) | exact hx6.cell (hx5.cell (by simpa using C1)))
              (first
                | (go_at_call 23; refine (regions_is HBD.out.a).mono ?_; rintro e w5 ⟨v5, rfl, hr5, hx5⟩)
                | (go_at_call 22; refine (keep_pairs hr5.sl (HRC.out.ext ((Ext.drew _).trans hx5)).regs.sl (by omega)).mono ?_; rintro e w6 ⟨rfl, hx6⟩; rw [decide_eq_true (rfl : R' = R')])
                | (go_at_call 24; refine (len_is (HBD.out.a.ext (hx5.trans hx6))).mono ?_; rintro e w' ⟨rfl, rfl⟩))
            have HN := Lib.hid (HBD.out.step (hx5.trans hx6))
            clear hx5 hx6 hr5
            go_wp2_with fail
            exact ⟨⟨j + 1, ws', R', by omega, by go_num, HN.out⟩, by simp [intOf]; omega⟩
        · obtain rfl : j = l.length := by omega
          go_wp2_with fail
          refine (arena_wakes _).mono ?_; rintro e w4 ⟨rfl, hx4⟩
          go_wp2
          go_ret
          exact ⟨rfl, HB.out.ext.trans hx4⟩
end Go.Proofs.Ytibpnhaamdelmaa
