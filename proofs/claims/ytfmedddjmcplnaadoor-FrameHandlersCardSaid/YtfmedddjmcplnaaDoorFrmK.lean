/- wakes of layer 11. -/
import Derived.Test.YtfmedddjmcplnaaDoorFrmJ
namespace Go.Proofs.YtfmedddjmcplnaaDoor
open Go.RowKit
set_option maxHeartbeats 4000000
set_option maxRecDepth 100000
theorem small_is {w : World} {b : Nat} : Calls Tryd.prog 16 #[.slice (some ⟨b, 0, none⟩) 2 2] w fun e w' => ∃ p, e = .returned (.agg #[.slice (some ⟨p, 0, none⟩) 1 1, .slice none 0 0, .slice none 0 0]) ∧ w'.heap[p]? = some (.cells #[.int .i64 0, .int .i64 0, .slice (some ⟨b, 0, none⟩) 2 2] 66 (0, 0)) ∧ Ext w w' := by
  go_enter Tryd.func16, Tryd.ntmps16
  go_wp2_with fail
  refine bodyPost_ret (v := .agg #[.slice (some ⟨w.heap.size + 1, 0, none⟩) 1 1, .slice none 0 0, .slice none 0 0]) (by simp [results, Tryd.results16, go_sem]) rfl ⟨_, rfl, ?_, (Ext.alloc _ _).trans (Ext.alloc _ _)⟩
  exact new_block (by simp)
theorem rows_one {w : World} {g : Nat} {x : Fr} (h : w.heap[g]? = some (.cells #[.int .i64 x.fn, .int .i64 x.pc, .int .i64 x.base, .int .u64 x.self] 27 (0, 0))) : RowsP w (.slice (some ⟨g, 0, none⟩) 1 1) 4 ([x].map frC) :=
  rows_of_block h rfl (by intro u hu; simp at hu; rcases hu with rfl | rfl | rfl | rfl <;> rfl)
theorem words_of_block {w : World} {g : Nat} {cs : Array Value} {T : TypeId} {fr : Nat × Nat} {L : List Int} (h : w.heap[g]? = some (.cells cs T fr)) (hc : cs.toList = L.map fun x => Value.int .u64 x) (hl : L.length ≤ 1000000) : RowsP w (.slice (some ⟨g, 0, none⟩) L.length L.length) 1 (L.map wordC) := by
  refine ⟨wordC_rows L, .inr ⟨g, 0, L.length, by rw [List.length_map], by rw [List.length_map]; exact Nat.le_refl _, by unfold maxLen; omega, fun j u hu => ?_⟩⟩
  rw [wordC_flat, ← hc] at hu
  simpa [World.cell?, h] using hu
theorem WordSl.turn {w w' : World} {v : Value} {l : List Int} {bs : List Nat} (h : WordSl w v l) (t : Turn bs w w') (hn : ∀ b, v.ownBlock = some b → b ∉ bs) : WordSl w' v l := by
  obtain ⟨q, c, rfl, h1, h2, hc⟩ := h
  refine ⟨q, c, rfl, h1, h2, fun i x hx => ?_⟩
  obtain ⟨b, off, rfl, hcc⟩ := hc i x hx
  exact ⟨b, off, rfl, t.cell (hn b rfl) hcc⟩
theorem intW4 : intW 4 = 9 := by decide
theorem wrapWm3 : wrapW (-3) = -3 := by decide +kernel
theorem wakes_is (w : World) (hk : FrmLie w) : Calls Tryd.prog 8 #[] w (TrueExt w) := by
  have HK := Lib.hid hk
  clear hk
  go_enter Tryd.func8, Tryd.ntmps8
  go_wp2_with fail
  refine at_alloc1 fun W hE hS b0 => ?_
  refine small_is.mono ?_
  rintro e w1 ⟨p, rfl, hp, hx1⟩
  have hti : TwoIns w1 w.heap.size := by
    intro j u hu
    refine cell_at ((Below.block hx1 w.heap.size (by omega)).trans b0) ?_
    simpa using hu
  have hof : OneFunc w1 p := ⟨w.heap.size, hti, cell_at hp rfl, cell_at hp rfl, cell_at hp rfl⟩
  have HX1 := Lib.hid (hE.trans hx1)
  have HOF := Lib.hid hof
  clear hE hS b0 hp hx1 hti hof
  go_wp2_with fail
  refine at_alloc1 fun W2 hE hS b0 => ?_
  have HX2 := Lib.hid (HX1.out.trans hE)
  refine (start_is (HK.out.ext HX2.out) (HOF.out.ext hE) 0 9 0 0).mono ?_
  rintro e w3 ⟨fb, rfl, hx3, hfb, hfr⟩
  have HX3 := Lib.hid (HX2.out.trans hx3)
  have hfbm : fb < w3.heap.size := (Array.getElem?_eq_some_iff.1 hfr).1
  have HFR := Lib.hid hfr
  have hwm : w.heap.size ≤ w3.heap.size := HX3.out.size
  clear hE hS b0 hx3 hfb hfr HX1 HX2 HOF
  go_wp2_with fail
  refine at_alloc1 fun W3 hE hS b0 => ?_
  have hr := roots_is (h := .slice none 0 0) (S := []) (F := [⟨0, 0, 0, 1⟩]) (RowsP.nil W3 1) (rows_one (x := ⟨0, 0, 0, 1⟩) ((Below.block hE fb (by omega)).trans HFR.out)) (by simp) (by simp) 0 9 0 0 0 1 0
  unfold machV at hr
  refine hr.mono ?_
  clear hr
  rintro e w4 ⟨vr, rfl, hvr, hx4⟩
  have hvo := hvr.own
  have hvr' : WordSl w4 vr [1, 1] := WordSl.of_rows hvr.p
  have HVR := Lib.hid hvr'
  obtain ⟨qv, cv, hv, _⟩ := hvr'
  replace hv : vr = .slice qv 2 cv := hv
  subst hv
  have HQB := Lib.hid (show ∀ b, (Value.slice qv 2 cv).ownBlock = some b → w3.heap.size < b ∧ b < w4.heap.size from fun b hb => ⟨by have := (hvo b hb).1; omega, (hvo b hb).2⟩)
  clear hvo
  have HX4 := Lib.hid (HX3.out.trans (hE.trans hx4))
  have HFR4 := Lib.hid ((Below.block (hE.trans hx4) fb (by omega)).trans HFR.out)
  have hb4 := (Below.block hx4 w3.heap.size (by omega)).trans b0
  have hmb : w3.heap.size < w4.heap.size := by have := hx4.size; omega
  clear hE hS b0 hx4 hvr HX3 HFR
  generalize w3.heap.size = mb at *
  have HM4 := Lib.hid hb4
  obtain ⟨m0, m1, m2, m3, m4, m5, m6, m7, m8, m9⟩ := cells10 hb4
  clear hb4
  go_wp2_with fail
  refine at_alloc1 fun W4 hE hS b0 => ?_
  have hr := with_yes (S := []) (F := [⟨0, 0, 0, 1⟩]) (H := []) (R := [5, 7]) (RowsP.nil W4 1) (rows_one (x := ⟨0, 0, 0, 1⟩) ((Below.block hE fb (by omega)).trans HFR4.out)) (RowsP.nil W4 3) (words_of_block (L := [5, 7]) b0 rfl (by simp)) (by simp) (by simp) (by simp) rfl (fun _ => 5) (by intro i hi; simp at hi; subst hi; rfl) 7 rfl 0 9 0 0 0 1 0 0 9 0 0
  unfold machV at hr
  refine hr.mono ?_
  clear hr
  rintro e w5 ⟨s5, f5, h5, rfl, hs5, hf5, hh5, hx5⟩
  unfold machV
  replace hs5 : RowsP w5 s5 1 [] := hs5.p
  have hfo := hf5.own
  replace hh5 := hh5.p
  replace hf5 : RowsP w5 f5 4 [[.int .i64 0, .int .i64 0, .int .i64 0, .int .u64 5]] := hf5.p
  have HF5 := Lib.hid hf5
  obtain ⟨qs5, cs5, rfl, _, _, _⟩ := hs5.at
  obtain ⟨qf5, cf5, rfl, _, _, hcf5⟩ := hf5.at
  obtain ⟨qh5, ch5, rfl, _, _, _⟩ := hh5.at
  simp only [List.length_nil, List.length_singleton] at *
  obtain ⟨bf5, of5, rfl, hy5⟩ := hcf5 0 _ rfl
  have y5 := hy5 3 _ rfl
  have hbf5 : mb < bf5 ∧ bf5 < w5.heap.size := by have := hfo bf5 rfl; omega
  clear hfo
  have HX5 := Lib.hid (HX4.out.trans (hE.trans hx5))
  have HFR5 := Lib.hid ((Below.block (hE.trans hx5) fb (by omega)).trans HFR4.out)
  have hb5 := (Below.block (hE.trans hx5) mb hmb).trans HM4.out
  have HVR5 := Lib.hid (HVR.out.ext (hE.trans hx5))
  have hmb5 : mb < w5.heap.size := by have := (hE.trans hx5).size; omega
  clear hE hS b0 hx5 hs5 hf5 hh5 hcf5 HX4 HFR4 HM4 HVR hmb m0 m1 m2 m3 m4 m5 m6 m7 m8 m9 hy5
  have HM5 := Lib.hid hb5
  obtain ⟨m0, m1, m2, m3, m4, m5, m6, m7, m8, m9⟩ := cells10 hb5
  clear hb5
  go_wp2_with fail
  refine at_alloc1 fun W6 hE hS b0 => ?_
  have hr := with_no (S := []) (F := [⟨0, 0, 0, 1⟩]) (R := []) (RowsP.nil W6 1) (rows_one (x := ⟨0, 0, 0, 1⟩) ((Below.block hE fb (by omega)).trans HFR5.out)) (RowsP.nil W6 1) (by simp) (by simp) (by simp) (by simp) 0 9 0 0 0 1 0 0 9 0 0 ⟨none, 0, 0, rfl⟩
  unfold machV at hr
  refine hr.mono ?_
  clear hr
  rintro e w7 ⟨rfl, hx7⟩
  have HX7 := Lib.hid (HX5.out.trans (hE.trans hx7))
  have HFR7 := Lib.hid ((Below.block (hE.trans hx7) fb (by omega)).trans HFR5.out)
  have hb7 := (Below.block (hE.trans hx7) mb hmb5).trans HM5.out
  have ht7 := (Below.block hx7 w5.heap.size (by omega)).trans b0
  have HVR7 := Lib.hid (HVR5.out.ext (hE.trans hx7))
  have Y7 := Lib.hid ((hE.trans hx7).cell y5)
  have hmb7 : mb < w7.heap.size := by have := (hE.trans hx7).size; omega
  have hmt7 : mb < w5.heap.size ∧ w5.heap.size < w7.heap.size := by have := hx7.size; omega
  clear hE hS b0 hx7 HX5 HFR5 HM5 HVR5 hmb5 HF5 y5 m0 m1 m2 m3 m4 m5 m6 m7 m8 m9
  generalize w5.heap.size = tb at *
  have HM7 := Lib.hid hb7; have HT7 := Lib.hid ht7
  obtain ⟨m0, m1, m2, m3, m4, m5, m6, m7, m8, m9⟩ := cells10 hb7
  clear hb7 ht7
  go_wp2_with fail
  refine at_alloc1 fun W8 hE hS b0 => ?_
  have hr := throw_none (S := []) (F := [.int .i64 0, .int .i64 0, .int .i64 0, .int .u64 1] :: []) (RowsP.nil W8 1) (rows_one (x := ⟨0, 0, 0, 1⟩) ((Below.block hE fb (by omega)).trans HFR7.out)) (RowsP.nil W8 3) (by simp) (by simp) 0 9 0 0 0 1 0 (-3)
  unfold machV at hr
  refine hr.mono ?_
  clear hr
  rintro e w9 ⟨h9, rfl, hh9, hx9⟩
  unfold machV
  obtain ⟨qh9, ch9, rfl, _, _, _⟩ := hh9.p.at
  rw [List.length_nil]
  have HX9 := Lib.hid (HX7.out.trans (hE.trans hx9))
  have HFR9 := Lib.hid ((Below.block (hE.trans hx9) fb (by omega)).trans HFR7.out)
  have hb9 := (Below.block (hE.trans hx9) mb hmb7).trans HM7.out
  have ht9 := (Below.block (hE.trans hx9) tb hmt7.2).trans HT7.out
  have HVR9 := Lib.hid (HVR7.out.ext (hE.trans hx9))
  have Y9 := Lib.hid ((hE.trans hx9).cell Y7.out)
  have hmb9 : mb < w9.heap.size := by have := (hE.trans hx9).size; omega
  have hmt9 : tb < w9.heap.size := by have := (hE.trans hx9).size; omega
  clear hE hS b0 hx9 HX7 HFR7 HM7 HVR7 hmb7 HT7 Y7 m0 m1 m2 m3 m4 m5 m6 m7 m8 m9
  have HM9 := Lib.hid hb9; have HT9 := Lib.hid ht9
  clear hb9 ht9
  go_upto_region 7 with fail
  refine wp_alloc1 fun W10 hE hS b0 => ?_
  have hb10 := (Below.block hE mb hmb9).trans HM9.out
  obtain ⟨m0, m1, m2, m3, m4, m5, m6, m7, m8, m9⟩ := cells10 hb10
  have mf : ∀ i, W10.frozen? ⟨mb, i, none⟩ = false := fun i => free_at hb10
  have HX10 := Lib.hid (HX9.out.trans hE)
  have HFR10 := Lib.hid ((Below.block hE fb (by omega)).trans HFR9.out)
  have HT10 := Lib.hid ((Below.block hE tb hmt9).trans HT9.out)
  have HVR10 := Lib.hid (HVR9.out.ext hE)
  have Y10 := Lib.hid (hE.cell Y9.out)
  have HU10 := Lib.hid b0
  have HM10 := Lib.hid hb10
  have hmb10 : mb < W10.heap.size := by omega
  have htb10 : tb < W10.heap.size := by omega
  have hub10 : w9.heap.size < W10.heap.size := by omega
  clear hE hS b0 hb10 HX9 HFR9 HM9 HT9 HVR9 Y9
  generalize w9.heap.size = ub at *
  go_upto_region 8 with fail
  refine wp_gen (fun W => W.heap[mb]? = some (.cells #[.int .i64 0, .int .i64 9, .int .i64 0, .int .i64 0, .slice none 0 0, .slice (some ⟨fb, 0, none⟩) 1 1, .slice (some ⟨W10.heap.size, 0, none⟩) 1 1, .int .i64 0, .int .u64 1, .int .i64 0] 34 (0, 0)) ∧
    W.heap[W10.heap.size]? = some (.cells #[.int .i64 1, .int .i64 0, .int .i64 1] 36 (0, 0)) ∧ Turn [mb] W10 W) ?_ ?_
  · refine ⟨?_, new_block (by simp), (((Turn.refl _ _).setCell (.inl (by simp)) _).trans (Turn.of_ext (Ext.alloc _ _)))⟩
    rw [Below.block (Ext.alloc _ _) mb (by simpa using hmb10)]
    exact (Go.Lib.heap_setCell_same HM10.out _).trans rfl
  rintro W11 ⟨hb11, hh11, ht11⟩
  have hfr11 : RowsP W11 (.slice (some ⟨fb, 0, none⟩) 1 1) 4 ([⟨0, 0, 0, 1⟩].map frC) := rows_one (x := ⟨0, 0, 0, 1⟩) (by rw [ht11.block fb (by omega) (by simp; omega)]; exact HFR10.out)
  have hhr : RowsP W11 (.slice (some ⟨W10.heap.size, 0, none⟩) 1 1) 3 ([] ++ [[.int .i64 (((0 : Nat) : Int) + 1), .int .i64 ((0 : Nat) : Int), .int .i64 1]]) := rows_of_block hh11 rfl (by intro u hu; simp at hu; rcases hu with rfl | rfl | rfl <;> rfl)
  have hsz11 := ht11.size
  have hx11 : Ext w W11 := Turn.below (Turn.trans (Turn.of_ext HX10.out) ht11) (Nat.le_refl _) (by intro b hb; simp at hb; subst hb; omega)
  have HX11 := Lib.hid hx11
  have htb11 := (ht11.block tb htb10 (by simp; omega)).trans HT10.out
  have hub11 := (ht11.block ub hub10 (by simp; omega)).trans HU10.out
  have hy11 : W11.cell? ⟨bf5, of5 + 0 * 4 + 3, none⟩ = some (.int .u64 5) := Turn.cell ht11 (by simp; omega) Y10.out
  have HB11 := Lib.hid hb11; have HT11 := Lib.hid htb11; have HU11 := Lib.hid hub11; have HY11 := Lib.hid hy11; have HH11 := Lib.hid hhr; have HF11 := Lib.hid hfr11
  have HV11 := Lib.hid (HVR10.out.turn ht11 (fun b hb => by have := (HQB.out b hb).1; simp; omega))
  clear hb11 htb11 hub11 hy11 hhr hfr11 hh11 hx11 ht11 m0 m1 m2 m3 m4 m5 m6 m7 m8 m9 mf HX10 HFR10 HT10 HVR10 Y10 HU10 HM10
  obtain ⟨m0, m1, m2, m3, m4, m5, m6, m7, m8, m9⟩ := cells10 HB11.out
  go_wp2_with fail
  have hr := throw_yes (S := []) (F := [⟨0, 0, 0, 1⟩].map frC) (H0 := []) (j := 0) (p := 0) (pc := 1) (fc := frC ⟨0, 0, 0, 1⟩) (RowsP.nil W11 1) HF11.out HH11.out rfl (by simp) (by simp) (by simp) (by simp) 0 9 0 0 0 1 0 4
  unfold machV at hr
  refine hr.mono ?_
  clear hr
  rintro e w12 ⟨s12, f12, h12, rfl, hs12, hf12, hh12, hx12⟩
  unfold machV
  have hsw : WordSl w12 s12 [9] := by
    have h := WordSl.of_rows (l := [intW 4]) hs12.p
    rw [intW4] at h; exact h
  obtain ⟨qs, cs, hqs, _⟩ := hs12.len
  replace hqs : s12 = .slice qs 1 cs := hqs
  subst hqs
  obtain ⟨qf, cf, hqf, _⟩ := hf12.len
  replace hqf : f12 = .slice qf 1 cf := hqf
  subst hqf
  obtain ⟨qh, ch, hqh, _⟩ := hh12.len
  replace hqh : h12 = .slice qh 0 ch := hqh
  subst hqh
  obtain ⟨gf, rfl, _, x1, _⟩ := hf12.cell (i := 0) (f := 1) (u := .int .i64 1) rfl rfl
  have xt := (Below.block hx12 tb (by omega)).trans HT11.out
  have xu := (Below.block hx12 ub (by omega)).trans HU11.out
  have xb := (Below.block hx12 mb (by omega)).trans HB11.out
  have xy := hx12.cell HY11.out
  have HX12 := Lib.hid (HX11.out.trans hx12)
  have HV12 := Lib.hid (HV11.out.ext hx12)
  have HS12 := Lib.hid hsw
  have hsz12 := hx12.size
  clear hsw hs12 hf12 hh12 hx12 HX11 HV11 HB11 HT11 HU11 HY11 HH11 HF11 m0 m1 m2 m3 m4 m5 m6 m7 m8 m9
  rw [wrapWm3] at xu
  go_upto_region 9 with fail
  refine wp_alloc1 fun W13 hE hS b0 => ?_
  have zt := (Below.block hE tb (by omega)).trans xt
  have zu := (Below.block hE ub (by omega)).trans xu
  have zb := (Below.block hE mb (by omega)).trans xb
  have zy := hE.cell xy
  have z1 := hE.cell x1
  have HX13 := Lib.hid (HX12.out.trans hE)
  have HV13 := Lib.hid (HV12.out.ext hE)
  have HS13 := Lib.hid (HS12.out.ext hE)
  clear hE hS xt xu xb xy x1 HX12 HV12 HS12
  have ZT := Lib.hid zt; have ZU := Lib.hid zu; have ZB := Lib.hid zb; have Z0 := Lib.hid b0; have ZY := Lib.hid zy; have Z1 := Lib.hid z1
  have hsz13 : mb < W13.heap.size ∧ tb < W13.heap.size ∧ ub < W13.heap.size ∧ w12.heap.size < W13.heap.size := ⟨(Array.getElem?_eq_some_iff.1 zb).1, (Array.getElem?_eq_some_iff.1 zt).1, (Array.getElem?_eq_some_iff.1 zu).1, (Array.getElem?_eq_some_iff.1 b0).1⟩
  obtain ⟨m0, m1, m2, m3, m4, m5, m6, m7, m8, m9⟩ := cells10 zb
  clear zt zu zb b0 zy z1
  go_wp2_with fail
  refine at_alloc1 fun W14 hE hS b0 => ?_
  refine (keep_words (HV13.out.ext hE) (WordSl.of_rows (l := [1, 1]) (words_of_block (L := [1, 1]) b0 rfl (by simp)))).mono ?_
  rintro e w15 ⟨rfl, hx15⟩
  have hx := hE.trans hx15
  have zt := (Below.block hx tb (by omega)).trans ZT.out
  have zu := (Below.block hx ub (by omega)).trans ZU.out
  have z9 := (Below.block hx w12.heap.size (by omega)).trans Z0.out
  have zy := hx.cell ZY.out
  have z1 := hx.cell Z1.out
  have HX15 := Lib.hid (HX13.out.trans hx)
  have HS15 := Lib.hid (HS13.out.ext hx)
  clear hE hS b0 hx15 hx m0 m1 m2 m3 m4 m5 m6 m7 m8 m9 ZT ZU ZB Z0 ZY Z1 HX13 HV13 HS13
  obtain ⟨t0, t1, t2, t3, t4, t5, t6, t7, t8, t9⟩ := cells10 zt
  obtain ⟨u0, u1, u2, u3, u4, u5, u6, u7, u8, u9⟩ := cells10 zu
  obtain ⟨v0, v1, v2, v3, v4, v5, v6, v7, v8, v9⟩ := cells10 z9
  have Z9 := Lib.hid z9
  have Z1 := Lib.hid z1
  simp only [Nat.zero_mul, Nat.add_zero, Nat.zero_add] at zy z1
  have hsz15 : w12.heap.size < w15.heap.size := (Array.getElem?_eq_some_iff.1 z9).1
  clear zt zu z9
  rw [decide_eq_true rfl]
  go_wp2_with fail
  refine at_alloc1 fun W16 hE hS b0 => ?_
  refine (keep_words (HS15.out.ext hE) (WordSl.of_rows (l := [9]) (words_of_block (L := [9]) b0 rfl (by simp)))).mono ?_
  rintro e w17 ⟨rfl, hx17⟩
  have hx := hE.trans hx17
  have z9 := (Below.block hx w12.heap.size (by omega)).trans Z9.out
  have z1' := hx.cell Z1.out
  have HX17 := Lib.hid (HX15.out.trans hx)
  clear hE hS b0 hx17 hx HX15 HS15 Z9 Z1 z1 zy t0 t1 t2 t3 t4 t5 t6 t7 t8 t9 u0 u1 u2 u3 u4 u5 u6 u7 u8 u9 v0 v1 v2 v3 v4 v5 v6 v7 v8 v9
  obtain ⟨v0, v1, v2, v3, v4, v5, v6, v7, v8, v9⟩ := cells10 z9
  clear z9
  simp only [Nat.zero_mul, Nat.zero_add] at z1'
  rw [decide_eq_true rfl]
  go_wp2_with fail
  go_ret
  exact ⟨rfl, HX17.out⟩
end Go.Proofs.YtfmedddjmcplnaaDoor
