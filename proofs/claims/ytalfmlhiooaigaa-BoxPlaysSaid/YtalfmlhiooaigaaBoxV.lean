/- The walk of BoxPlays. -/
import Derived.Test.YtalfmlhiooaigaaBoxU
namespace Go.Proofs.Ytalfmlhiooaigaa
open Go Go.RowKit
set_option maxHeartbeats 8000000
set_option maxRecDepth 100000
theorem plays_not {w : World} {v : Value} {L : List (Int × (Value × List Cl))} {mo wo : Int} (hv : StepsP w v L) (hm : ¬ (1 ≤ mo ∧ mo ≤ 8 ∧ 0 ≤ wo ∧ wo ≤ 2000)) : Calls Try.prog 3 #[.int .i64 mo, .int .i64 wo, v] w (TrueExt w) := by
  obtain ⟨q, c0, rfl, hc1, hc2, _⟩ := hv.at
  have HNO := Lib.hid (new_no mo wo hm)
  clear hv
  unfold maxLen at hc2
  by_cases hl : L.length ≤ 60
  · have b0 : decide (60 < (L.length : Int)) = false := decide_eq_false (by omega)
    by_cases h1 : 1 ≤ mo
    · by_cases h2 : mo ≤ 8
      · by_cases h3 : 0 ≤ wo
        · have e1 : decide (1 ≤ mo) = true := decide_eq_true h1
          have e2 : decide (mo ≤ 8) = true := decide_eq_true h2
          have e3 : decide (0 ≤ wo) = true := decide_eq_true h3
          have e4 : decide (wo ≤ 2000) = false := decide_eq_false (by omega)
          clear h1 h2 h3
          clear hm
          go_enter Try.func3, Try.ntmps3
          go_wp2_with fail
          refine (HNO.out w).mono ?_
          rintro e w' ⟨rfl, rfl⟩
          go_wp2_with fail
          refine (box_wakes _).mono ?_
          rintro e w2 ⟨rfl, hx2⟩
          go_wp2_with fail
          go_ret
          exact ⟨rfl, hx2⟩
        · have e1 : decide (1 ≤ mo) = true := decide_eq_true h1
          have e2 : decide (mo ≤ 8) = true := decide_eq_true h2
          have e3 : decide (0 ≤ wo) = false := decide_eq_false h3
          clear hm h1 h2 h3
          go_enter Try.func3, Try.ntmps3
          go_wp2_with fail
          refine (HNO.out w).mono ?_
          rintro e w' ⟨rfl, rfl⟩
          go_wp2_with fail
          refine (box_wakes _).mono ?_
          rintro e w2 ⟨rfl, hx2⟩
          go_wp2_with fail
          go_ret
          exact ⟨rfl, hx2⟩
      · have e1 : decide (1 ≤ mo) = true := decide_eq_true h1
        have e2 : decide (mo ≤ 8) = false := decide_eq_false h2
        clear hm h1 h2
        go_enter Try.func3, Try.ntmps3
        go_wp2_with fail
        refine (HNO.out w).mono ?_
        rintro e w' ⟨rfl, rfl⟩
        go_wp2_with fail
        refine (box_wakes _).mono ?_
        rintro e w2 ⟨rfl, hx2⟩
        go_wp2_with fail
        go_ret
        exact ⟨rfl, hx2⟩
    · have e1 : decide (1 ≤ mo) = false := decide_eq_false h1
      clear hm h1
      go_enter Try.func3, Try.ntmps3
      go_wp2_with fail
      refine (HNO.out w).mono ?_
      rintro e w' ⟨rfl, rfl⟩
      go_wp2_with fail
      refine (box_wakes _).mono ?_
      rintro e w2 ⟨rfl, hx2⟩
      go_wp2_with fail
      go_ret
      exact ⟨rfl, hx2⟩
  · have b0 : decide (60 < (L.length : Int)) = true := decide_eq_true (by omega)
    by_cases h1 : 1 ≤ mo
    · by_cases h2 : mo ≤ 8
      · by_cases h3 : 0 ≤ wo
        · have e1 : decide (1 ≤ mo) = true := decide_eq_true h1
          have e2 : decide (mo ≤ 8) = true := decide_eq_true h2
          have e3 : decide (0 ≤ wo) = true := decide_eq_true h3
          have e4 : decide (wo ≤ 2000) = false := decide_eq_false (by omega)
          clear h1 h2 h3
          clear hm
          go_enter Try.func3, Try.ntmps3
          go_wp2_with fail
          refine (HNO.out w).mono ?_
          rintro e w' ⟨rfl, rfl⟩
          go_wp2_with fail
          refine (box_wakes _).mono ?_
          rintro e w2 ⟨rfl, hx2⟩
          go_wp2_with fail
          go_ret
          exact ⟨rfl, hx2⟩
        · have e1 : decide (1 ≤ mo) = true := decide_eq_true h1
          have e2 : decide (mo ≤ 8) = true := decide_eq_true h2
          have e3 : decide (0 ≤ wo) = false := decide_eq_false h3
          clear hm h1 h2 h3
          go_enter Try.func3, Try.ntmps3
          go_wp2_with fail
          refine (HNO.out w).mono ?_
          rintro e w' ⟨rfl, rfl⟩
          go_wp2_with fail
          refine (box_wakes _).mono ?_
          rintro e w2 ⟨rfl, hx2⟩
          go_wp2_with fail
          go_ret
          exact ⟨rfl, hx2⟩
      · have e1 : decide (1 ≤ mo) = true := decide_eq_true h1
        have e2 : decide (mo ≤ 8) = false := decide_eq_false h2
        clear hm h1 h2
        go_enter Try.func3, Try.ntmps3
        go_wp2_with fail
        refine (HNO.out w).mono ?_
        rintro e w' ⟨rfl, rfl⟩
        go_wp2_with fail
        refine (box_wakes _).mono ?_
        rintro e w2 ⟨rfl, hx2⟩
        go_wp2_with fail
        go_ret
        exact ⟨rfl, hx2⟩
    · have e1 : decide (1 ≤ mo) = false := decide_eq_false h1
      clear hm h1
      go_enter Try.func3, Try.ntmps3
      go_wp2_with fail
      refine (HNO.out w).mono ?_
      rintro e w' ⟨rfl, rfl⟩
      go_wp2_with fail
      refine (box_wakes _).mono ?_
      rintro e w2 ⟨rfl, hx2⟩
      go_wp2_with fail
      go_ret
      exact ⟨rfl, hx2⟩
theorem plays_yes {w : World} {v : Value} {L : List (Int × (Value × List Cl))} {cap most : Nat} (hv : StepsP w v L) (hm1 : 1 ≤ cap) (hm2 : cap ≤ 8) (hm3 : most ≤ 2000) : Calls Try.prog 3 #[.int .i64 cap, .int .i64 most, v] w (TrueExt w) := by
  obtain ⟨q, c0, rfl, hc1, hc2, hat⟩ := hv.at
  have HAT := Lib.hid hat
  unfold maxLen at hc2
  clear hat hv
  have d1 : decide (1 ≤ (cap : Int)) = true := decide_eq_true (by omega)
  have d2 : decide ((cap : Int) ≤ 8) = true := decide_eq_true (by omega)
  have d3 : decide (0 ≤ (most : Int)) = true := decide_eq_true (by omega)
  have d4 : decide ((most : Int) ≤ 2000) = true := decide_eq_true (by omega)
  by_cases hl : L.length ≤ 60
  · have b0 : decide (60 < (L.length : Int)) = false := decide_eq_false (by omega)
    go_enter Try.func3, Try.ntmps3
    go_wp2_with fail
    refine (new_yes cap most hm1 hm2 hm3 w).mono ?_
    rintro e w1 ⟨rfl, h1, hx1⟩
    generalize hg : w.heap.size + 1 = g at h1 ⊢
    generalize hc : w.heap.size = c at h1
    have HC := Lib.hid (show w.heap.size ≤ c by omega)
    have H1 := Lib.hid h1; have X1 := Lib.hid hx1
    clear h1 hx1 hc hg
    go_wp2_with fail
    go_loopw [10, 11, 12] (fun h n i wr => ∃ (k : Nat) (H B : List (Value × List Cl)), k ≤ L.length ∧ i = .int .i64 k ∧ n = .int .i64 (bsum B : Nat) ∧ PlayInv w wr g c cap most h H B) (fun _ _ i _ => L.length - (intOf i).toNat)
    case atStart => exact ⟨0, [], [], by omega, rfl, rfl, H1.out, rfl, FifoP.nil _ _ _, by simp, X1.out, by simp⟩
    case round =>
      obtain ⟨k, H, B, hk, rfl, rfl, hinv⟩ := hrel
      have HI := Lib.hid hinv
      have HX := Lib.hid hinv.ext
      have hlen := hinv.len
      have hBs := hinv.box.sum
      have hBl := hinv.box.len
      obtain ⟨qh, ch, rfl, hch1, hch2⟩ := hinv.own.len
      rw [List.length_map] at hch1 HI ⊢
      unfold maxLen at hch2
      clear hinv
      by_cases hlt : k < L.length
      · have hxk := List.getElem?_eq_getElem hlt
        generalize L[k] = x at hxk
        obtain ⟨hm0, b, off, rfl, hcell, hcell2⟩ := HAT.out k x hxk
        have y0 := HX.out.cell hcell
        have y1 := HX.out.cell hcell2
        have i1 : (k : Int) < (L.length : Int) := by omega
        clear hxk hcell hcell2
        obtain ⟨kd, xv, M⟩ := x
        dsimp only at y0 y1 hm0
        have HM0 := Lib.hid hm0
        have HM := Lib.hid (hm0.ext HX.out)
        clear hm0
        go_wp2_with fail
        refine (large_msg HM.out).mono ?_
        rintro e wo ⟨lb, rfl, hlb, rfl⟩
        cases lb
        · have hM := hlb rfl
          clear hlb
          by_cases hkd : kd = 0
          · subst hkd
            go_wp2_with fail
            refine (refgood_msg HM.out).mono ?_
            rintro e w2 ⟨rfl, hx2⟩
            have HI2 := Lib.hid (HI.out.go hx2); have HMI2 := Lib.hid (HM.out.ext hx2)
            clear hx2 y0 y1
            have hBS : bsum B = bsum B := rfl
            by_cases hg : goodM M = true
            · have HG := Lib.hid hg
              have hms := goodM_sum hg
              have hml := goodM_len hg
              rw [hg]
              clear hg
              by_cases hcl : H.length < cap
              · have c1 : decide ((H.length : Int) < (cap : Int)) = true := decide_eq_true (by omega)
                go_wp2_with fail
                refine (refwords_msg HMI2.out HG.out).mono ?_
                rintro e w3 ⟨rfl, hx3⟩
                have HI3 := Lib.hid (HI2.out.go hx3); have HMI3 := Lib.hid (HMI2.out.ext hx3)
                clear hx3
                by_cases hsum : bsum B + wsum M ≤ most
                · have c2 : decide (((bsum B : Nat) : Int) + ((wsum M : Nat) : Int) ≤ (most : Int)) = true := decide_eq_true (by omega)
                  have HY := Lib.hid (fun (W : World) (vv : Value) (hb : BoxAt W g c cap most B) (hm : MsgP W vv M) => put_yes hb hm HG.out hsum (by omega))
                  have HBS2 := Lib.hid (fun v4 => show bsum (B ++ [(v4, M)]) = bsum B + wsum M by simp [bsum])
                  generalize hS : bsum B = S at *
                  generalize hT : wsum M = T at *
                  have HS := Lib.hid hS; have HT := Lib.hid hT
                  clear hS hT hBS
                  go_wp2_with fail
                  refine (own_msg HMI3.out (by omega)).mono ?_
                  rintro e w4 ⟨m, rfl, ho4, hx4⟩
                  have HI4 := Lib.hid (HI3.out.go hx4)
                  have HO4 := Lib.hid ho4.p
                  clear ho4 hx4
                  go_wp2_with fail
                  refine (HY.out _ _ HI4.out.box HO4.out).mono ?_
                  rintro e w5 ⟨rfl, t5, v5, h5, o5⟩
                  have HT5 := Lib.hid t5; have H5 := Lib.hid h5; have O5 := Lib.hid o5
                  have HF5 := Lib.hid (HI4.out.own_turn t5)
                  have hsz : g + 1 ≤ w5.heap.size := (Array.getElem?_eq_some_iff.1 h5.blk).1
                  obtain ⟨qx, cx, rfl, _⟩ := RowsP.at HM0.out
                  rw [List.length_map] at HM0 HMI3
                  have hX5 : Ext w w5 := HI4.out.ext.turn t5 (by intro b hb; have := HC.out; have := HI.out.box.ne; simp at hb; omega)
                  have HM5 := Lib.hid (show MsgP w5 (.slice qx M.length cx) M from HM0.out.ext hX5)
                  rw [List.length_map]
                  clear t5 h5 o5 HY hX5
                  go_wp2_with (refine wpList_append_fifo EMsg (by rfl) _ _ (by rfl) (g + 1) (.slice qh H.length ch) (.slice qx M.length cx) w5.heap.size (H.map Prod.fst) (by rfl) (HF5.out.ext (Ext.alloc _ _)) (by simp; omega) (by rfl) (cell_at (heap_alloc_new _ _) rfl) rfl (by simp; unfold maxLen; omega) (by simp; omega) ?_)
                  intro v6 w6 ho6 t6 hb6
                  have hz := PlayInv.put HC.out HI4.out (Ext.refl _) HT5.out H5.out O5.out (Ext.alloc w5 _) t6 ho6 (by rw [World.size_alloc]; exact hb6) HM0.out
                  have HZ6 := Lib.hid hz
                  have HM6 := Lib.hid (show MsgP w6 (.slice qx M.length cx) M from HM0.out.ext hz.ext)
                  obtain ⟨q6, c6, rfl, hc6, hc7⟩ := ho6.len
                  rw [List.length_append, List.length_map, List.length_singleton] at hc6 HZ6 ⊢
                  unfold maxLen at hc7
                  clear ho6 t6 hb6 hz
                  go_wp2_with fail
                  refine (refwords_msg HM6.out HG.out).mono ?_
                  rintro e w7 ⟨rfl, hx7⟩
                  rw [HT.out]
                  have HZ := Lib.hid (HZ6.out.go hx7)
                  have HZL := Lib.hid (show (((B ++ [(v5, M)]).length : Nat) : Int) = ((H.length + 1 : Nat) : Int) by rw [List.length_append, List.length_singleton]; omega)
                  have HZS := Lib.hid (show ((bsum (B ++ [(v5, M)]) : Nat) : Int) = ((S : Nat) : Int) + ((T : Nat) : Int) by rw [HBS2.out]; omega)
                  clear hx7
                  go_wp2_with fail
                  refine (len_box HZ.out.box).mono ?_
                  rintro e w' ⟨rfl, rfl⟩
                  rw [HZL.out]
                  go_wp2_with fail
                  refine (words_box HZ.out.box).mono ?_
                  rintro e w' ⟨rfl, rfl⟩
                  rw [HZS.out]
                  go_wp2_with fail
                  exact ⟨⟨k + 1, _, _, by omega, by go_num, by rw [HZS.out], HZ.out⟩, by simp [intOf]; omega⟩
                · have c2 : decide (((bsum B : Nat) : Int) + ((wsum M : Nat) : Int) ≤ (most : Int)) = false := decide_eq_false (by omega)
                  have hcan : ¬ (goodM M = true ∧ B.length < cap ∧ bsum B + wsum M ≤ most) := fun h => hsum h.2.2
                  go_wp2_with fail
                  refine (own_msg HMI3.out (by omega)).mono ?_
                  rintro e w4 ⟨m, rfl, ho4, hx4⟩
                  have HI4 := Lib.hid (HI3.out.go hx4)
                  have HO4 := Lib.hid ho4.p
                  clear ho4 hx4
                  go_wp2_with fail
                  refine (put_no HI4.out.box HO4.out hcan).mono ?_
                  rintro e w5 ⟨rfl, hx5⟩
                  have HZ := Lib.hid (HI4.out.go hx5)
                  have HZL := Lib.hid (congrArg (fun n : Nat => (n : Int)) hlen.1)
                  clear hx5 hcan
                  go_wp2_with fail
                  refine (len_box HZ.out.box).mono ?_
                  rintro e w' ⟨rfl, rfl⟩
                  rw [HZL.out]
                  go_wp2_with fail
                  refine (words_box HZ.out.box).mono ?_
                  rintro e w' ⟨rfl, rfl⟩
                  go_wp2_with fail
                  exact ⟨⟨k + 1, _, _, by omega, by go_num, rfl, HZ.out⟩, by simp [intOf]; omega⟩
              · have c1 : decide ((H.length : Int) < (cap : Int)) = false := decide_eq_false (by omega)
                have hcan : ¬ (goodM M = true ∧ B.length < cap ∧ bsum B + wsum M ≤ most) := fun h => hcl (by omega)
                go_wp2_with fail
                refine (own_msg HMI2.out (by omega)).mono ?_
                rintro e w4 ⟨m, rfl, ho4, hx4⟩
                have HI4 := Lib.hid (HI2.out.go hx4)
                have HO4 := Lib.hid ho4.p
                clear ho4 hx4
                go_wp2_with fail
                refine (put_no HI4.out.box HO4.out hcan).mono ?_
                rintro e w5 ⟨rfl, hx5⟩
                have HZ := Lib.hid (HI4.out.go hx5)
                have HZL := Lib.hid (congrArg (fun n : Nat => (n : Int)) hlen.1)
                clear hx5 hcan
                go_wp2_with fail
                refine (len_box HZ.out.box).mono ?_
                rintro e w' ⟨rfl, rfl⟩
                rw [HZL.out]
                go_wp2_with fail
                refine (words_box HZ.out.box).mono ?_
                rintro e w' ⟨rfl, rfl⟩
                go_wp2_with fail
                exact ⟨⟨k + 1, _, _, by omega, by go_num, rfl, HZ.out⟩, by simp [intOf]; omega⟩
            · have hgf : goodM M = false := by simpa using hg
              have hcan : ¬ (goodM M = true ∧ B.length < cap ∧ bsum B + wsum M ≤ most) := fun h => hg h.1
              rw [hgf]
              clear hg hgf
              go_wp2_with fail
              refine (own_msg HMI2.out (by omega)).mono ?_
              rintro e w4 ⟨m, rfl, ho4, hx4⟩
              have HI4 := Lib.hid (HI2.out.go hx4)
              have HO4 := Lib.hid ho4.p
              clear ho4 hx4
              go_wp2_with fail
              refine (put_no HI4.out.box HO4.out hcan).mono ?_
              rintro e w5 ⟨rfl, hx5⟩
              have HZ := Lib.hid (HI4.out.go hx5)
              have HZL := Lib.hid (congrArg (fun n : Nat => (n : Int)) hlen.1)
              clear hx5 hcan
              go_wp2_with fail
              refine (len_box HZ.out.box).mono ?_
              rintro e w' ⟨rfl, rfl⟩
              rw [HZL.out]
              go_wp2_with fail
              refine (words_box HZ.out.box).mono ?_
              rintro e w' ⟨rfl, rfl⟩
              go_wp2_with fail
              exact ⟨⟨k + 1, _, _, by omega, by go_num, rfl, HZ.out⟩, by simp [intOf]; omega⟩
          · have kf : (kd == 0) = false := beq_false_of_ne hkd
            clear y1
            cases B with
            | nil =>
              obtain rfl : H = [] := List.eq_nil_of_length_eq_zero (by have := hlen.1; simpa using this.symm)
              rw [List.length_nil] at HI hch1 ⊢
              go_wp2_with fail
              refine (take_none HI.out.box).mono ?_
              rintro e w' ⟨rfl, rfl⟩
              go_wp2_with fail
              refine (len_box HI.out.box).mono ?_
              rintro e w' ⟨rfl, rfl⟩
              go_wp2_with fail
              refine (words_box HI.out.box).mono ?_
              rintro e w' ⟨rfl, rfl⟩
              go_wp2_with fail
              exact ⟨⟨k + 1, [], [], by omega, by go_num, rfl, HI.out⟩, by simp [intOf]; omega⟩
            | cons y B =>
              cases H with
              | nil => simp at hlen
              | cons x H =>
                obtain ⟨yv, M'⟩ := y
                obtain ⟨hvv, M2⟩ := x
                have hyx := HI.out.heads
                dsimp only at hyx
                subst hyx
                rw [List.length_cons] at HI hch1 ⊢
                have hlen2 : B.length = H.length ∧ H.length ≤ 7 := by simp only [List.length_cons] at hlen; omega
                have hg' := (HI.out.box.its _ (.head _)).1
                dsimp only at hg'
                have HG := Lib.hid hg'
                have hms := goodM_sum hg'
                have hbs : bsum ((yv, M') :: B) = wsum M' + bsum B := by simp [bsum]
                rw [hbs] at hBs ⊢
                generalize hS : bsum B = S at *
                generalize hT : wsum M' = T at *
                have HS := Lib.hid hS; have HT := Lib.hid hT
                have hmo := hm3
                clear hg' hbs hlen hBl hS hT
                have c1 : decide (0 < ((H.length + 1 : Nat) : Int)) = true := decide_eq_true (by omega)
                go_wp2_with fail
                refine (take_some HI.out.box).mono ?_
                rintro e w3 ⟨rfl, t3, h3, o3⟩
                have hf3 := HI.out.own_turn t3
                obtain ⟨bh, oh, rfl, _, hc0, ht⟩ := FifoP.head hf3
                rw [List.length_map] at ht
                by_cases hch : ch = 1
                · subst hch
                  rw [if_pos rfl, Nat.sub_self] at ht
                  have HZ3 := Lib.hid (PlayInv.take HC.out HI.out t3 h3 ht rfl)
                  have HR3 := Lib.hid ((HI.out.rd _ (.head _)).ext HZ3.out.ext)
                  have HO3 := Lib.hid o3.p
                  clear t3 h3 o3 hf3 ht y0
                  go_wp2_with fail
                  refine (msg_true HO3.out HR3.out).mono ?_
                  rintro e w4 ⟨rfl, hx4⟩
                  have HZ4 := Lib.hid (HZ3.out.go hx4); have HR4 := Lib.hid (HR3.out.ext hx4)
                  have y4 := hx4.cell hc0
                  clear hx4 hc0
                  go_wp2_with fail
                  refine (refwords_msg HR4.out HG.out).mono ?_
                  rintro e w5 ⟨rfl, hx5⟩
                  rw [HT.out]
                  have HZ := Lib.hid (HZ4.out.go hx5)
                  have HZL := Lib.hid (show ((B.length : Nat) : Int) = ((H.length : Nat) : Int) by omega)
                  have HZS := Lib.hid (show ((bsum B : Nat) : Int) = ((T : Nat) : Int) + ((S : Nat) : Int) - (T : Int) by rw [HS.out]; omega)
                  clear hx5 y4
                  go_wp2_with fail
                  refine (len_box HZ.out.box).mono ?_
                  rintro e w' ⟨rfl, rfl⟩
                  rw [HZL.out]
                  go_wp2_with fail
                  refine (words_box HZ.out.box).mono ?_
                  rintro e w' ⟨rfl, rfl⟩
                  rw [HZS.out]
                  go_wp2_with fail
                  exact ⟨⟨k + 1, _, _, by omega, by go_num, by rw [HZS.out], HZ.out⟩, by simp [intOf]; omega⟩
                · rw [if_neg hch] at ht
                  have HZ3 := Lib.hid (PlayInv.take HC.out HI.out t3 h3 ht rfl)
                  have HR3 := Lib.hid ((HI.out.rd _ (.head _)).ext HZ3.out.ext)
                  have HO3 := Lib.hid o3.p
                  clear t3 h3 o3 hf3 ht y0
                  go_wp2_with fail
                  refine (msg_true HO3.out HR3.out).mono ?_
                  rintro e w4 ⟨rfl, hx4⟩
                  have HZ4 := Lib.hid (HZ3.out.go hx4); have HR4 := Lib.hid (HR3.out.ext hx4)
                  have y4 := hx4.cell hc0
                  clear hx4 hc0
                  go_wp2_with fail
                  refine (refwords_msg HR4.out HG.out).mono ?_
                  rintro e w5 ⟨rfl, hx5⟩
                  rw [HT.out]
                  have HZ := Lib.hid (HZ4.out.go hx5)
                  have HZL := Lib.hid (show ((B.length : Nat) : Int) = ((H.length : Nat) : Int) by omega)
                  have HZS := Lib.hid (show ((bsum B : Nat) : Int) = ((T : Nat) : Int) + ((S : Nat) : Int) - (T : Int) by rw [HS.out]; omega)
                  clear hx5 y4
                  go_wp2_with fail
                  refine (len_box HZ.out.box).mono ?_
                  rintro e w' ⟨rfl, rfl⟩
                  rw [HZL.out]
                  go_wp2_with fail
                  refine (words_box HZ.out.box).mono ?_
                  rintro e w' ⟨rfl, rfl⟩
                  rw [HZS.out]
                  go_wp2_with fail
                  exact ⟨⟨k + 1, _, _, by omega, by go_num, by rw [HZS.out], HZ.out⟩, by simp [intOf]; omega⟩
        · go_wp2_with fail
          refine (box_wakes _).mono ?_
          rintro e w9 ⟨rfl, hx9⟩
          go_wp2_with fail
          go_ret
          exact ⟨rfl, HX.out.trans hx9⟩
      · obtain rfl : k = L.length := by omega
        go_wp2_with fail
        refine (box_wakes _).mono ?_
        rintro e w9 ⟨rfl, hx9⟩
        go_wp2_with fail
        go_ret
        exact ⟨rfl, HX.out.trans hx9⟩
  · have b0 : decide (60 < (L.length : Int)) = true := decide_eq_true (by omega)
    go_enter Try.func3, Try.ntmps3
    go_wp2_with fail
    refine (new_yes cap most hm1 hm2 hm3 w).mono ?_
    rintro e w1 ⟨rfl, h1, hx1⟩
    clear h1
    generalize w.heap.size + 1 = g
    have HX := Lib.hid hx1
    clear hx1
    go_wp2_with fail
    refine (box_wakes _).mono ?_
    rintro e w9 ⟨rfl, hx9⟩
    go_wp2_with fail
    go_ret
    exact ⟨rfl, HX.out.trans hx9⟩
end Go.Proofs.Ytalfmlhiooaigaa
