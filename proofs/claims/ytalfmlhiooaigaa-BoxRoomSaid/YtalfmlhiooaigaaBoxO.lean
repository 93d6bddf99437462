/- The walk of BoxRoom. -/
import Derived.Test.YtalfmlhiooaigaaBoxN
namespace Go.Proofs.Ytalfmlhiooaigaa
open Go.RowKit Go
set_option maxHeartbeats 8000000
set_option maxRecDepth 100000
theorem cell_lt {w : World} {a : Addr} {v : Value} (h : w.cell? a = some v) : a.block < w.heap.size := by
  by_cases hl : a.block < w.heap.size
  · exact hl
  · have : w.heap[a.block]? = none := Array.getElem?_eq_none (by omega)
    simp [World.cell?, this] at h
theorem room_nat {w : World} {v : Value} {L : List (Value × List Cl)} {m n : Nat} (hv : MsgsP w v L) (hn : n ≤ 255) (hm : m ≤ 255) : Calls Try.prog 5 #[.int .u8 m, .int .u8 n, v] w (TrueExt w) := by
  obtain ⟨q, c0, rfl, hc1, hc2, hat⟩ := hv.at
  have HAT := Lib.hid hat
  unfold maxLen at hc2
  clear hat hv
  obtain ⟨k8, hk8, hk1, hk2⟩ : ∃ k8 : Nat, (1 + (m : Int) % 8) = k8 ∧ 1 ≤ k8 ∧ k8 ≤ 8 := ⟨1 + m % 8, by omega, by omega, by omega⟩
  have HK8 := Lib.hid hk8
  clear hk8
  by_cases hl : L.length ≤ 20
  · have b1 : decide (20 < (L.length : Int)) = false := decide_eq_false (by omega)
    go_enter Try.func5, Try.ntmps5
    go_wp2_with fail
    rw [HK8.out]
    refine (new_yes k8 n hk1 hk2 (by omega) w).mono ?_
    rintro e w1 ⟨rfl, h1, hx1⟩
    generalize hg : w.heap.size + 1 = g at h1 ⊢
    generalize hc : w.heap.size = c at h1
    have hgt : ∀ b ∈ [g, c], w.heap.size ≤ b := by intro b hb; have := h1.ne; simp at hb; omega
    have HGT := Lib.hid hgt
    have H1 := Lib.hid h1; have X1 := Lib.hid hx1
    clear h1 hx1 hc hg hgt
    go_wp2_with fail
    go_loopw [11] (fun i wr => ∃ (k : Nat) (B : List (Value × List Cl)), k ≤ L.length ∧ i = .int .i64 k ∧ BoxAt wr g c k8 n B ∧ Ext w wr) (fun i _ => L.length - (intOf i).toNat)
    case atStart => exact ⟨0, [], by omega, rfl, H1.out, X1.out⟩
    case round =>
      obtain ⟨k, B, hk, rfl, hb, hx⟩ := hrel
      have HB := Lib.hid hb
      have HX := Lib.hid hx
      have hBl := hb.len
      have hBs := hb.sum
      clear hb hx
      by_cases hlt : k < L.length
      · have hxk := List.getElem?_eq_getElem hlt
        generalize L[k] = x at hxk
        obtain ⟨hm0, b, off, rfl, hcell⟩ := HAT.out k x hxk
        have y0 := HX.out.cell hcell
        have hbw : b < w.heap.size := cell_lt hcell
        have HM := Lib.hid (hm0.ext HX.out)
        have i1 : (k : Int) < (L.length : Int) := by omega
        clear hcell hxk
        obtain ⟨xv, M⟩ := x
        dsimp only at y0 HM hm0
        have HM0 := Lib.hid hm0
        clear hm0
        go_wp2_with fail
        refine (large_msg HM.out).mono ?_
        rintro e w' ⟨lb, rfl, _, rfl⟩
        cases lb
        · go_wp2_with fail
          refine (len_box HB.out).mono ?_
          rintro e w' ⟨rfl, rfl⟩
          go_wp2_with fail
          refine (words_box HB.out).mono ?_
          rintro e w' ⟨rfl, rfl⟩
          go_wp2_with fail
          refine (refgood_msg HM.out).mono ?_
          rintro e w2 ⟨rfl, hx2⟩
          have HB2 := Lib.hid (HB.out.ext hx2); have HX2 := Lib.hid (HX.out.trans hx2); have HM2 := Lib.hid (HM.out.ext hx2)
          have z0 := hx2.cell y0
          clear hx2 y0
          by_cases hg : goodM M = true
          · have HG := Lib.hid hg
            have hms := goodM_sum hg
            rw [hg]
            clear hg
            by_cases hlen : B.length < k8
            · have c1 : decide ((B.length : Int) < (k8 : Int)) = true := decide_eq_true (by omega)
              go_wp2_with fail
              refine (refwords_msg HM2.out HG.out).mono ?_
              rintro e w3 ⟨rfl, hx3⟩
              have HB3 := Lib.hid (HB2.out.ext hx3); have HX3 := Lib.hid (HX2.out.trans hx3); have HM3 := Lib.hid (HM2.out.ext hx3)
              have z1 := hx3.cell z0
              clear hx3 z0
              by_cases hsum : bsum B + wsum M ≤ n
              · have c2 : decide (((bsum B : Nat) : Int) + ((wsum M : Nat) : Int) ≤ (n : Int)) = true := decide_eq_true (by omega)
                have HY := Lib.hid (put_yes HB3.out HM3.out HG.out hsum hlen)
                have HBS := Lib.hid (fun v4 => show bsum (B ++ [(v4, M)]) = bsum B + wsum M by simp [bsum])
                generalize hS : bsum B = S at *
                generalize hT : wsum M = T at *
                have HS := Lib.hid hS; have HT := Lib.hid hT
                clear hS hT
                go_wp2_with fail
                refine HY.out.mono ?_
                rintro e w4 ⟨rfl, t4, v4, h4, _⟩
                have HB4 := Lib.hid h4; have HX4 := Lib.hid (HX3.out.turn t4 HGT.out)
                have z2 := t4.cell (a := ⟨b, off + k, none⟩) (fun hm => by have := HGT.out b hm; omega) z1
                have HM4 := Lib.hid (show MsgP w4 xv M from HM0.out.ext HX4.out)
                have cL := fun d os => len_q HB4.out d os
                have cW := fun d os => words_q HB4.out d os
                have cR := fun d os => refwords_q HM4.out HG.out d os
                rw [HBS.out v4] at cW
                rw [List.length_append, List.length_singleton, Int.natCast_add] at cL
                rw [Int.natCast_add] at cW
                rw [HT.out] at cR
                have CL := Lib.hid cL; have CW := Lib.hid cW; have CR := Lib.hid cR
                have r0 := fun d os => cell_regrown z2 d os
                clear t4 h4 z1 cL cW cR HY
                go_upto_region 14 with fail
                refine wp_region_quiet_below (by kernel_rfl) (by kernel_rfl) ?_
                repeat (first | go_big_quiet_step (first | exact CL.out _ _ | exact CW.out _ _ | exact CR.out _ _) | quiet_step (first | exact CL.out _ _ | exact CW.out _ _ | exact CR.out _ _))
                refine wpQuiet_nil ?_
                intro _ hw'
                obtain ⟨⟨dq, osq⟩, hw''⟩ := hw'
                subst hw''
                have HXQ := Lib.hid (HX4.out.trans (Ext.regrown w4 dq osq))
                have HBQ := Lib.hid (HB4.out.ext (Ext.regrown w4 dq osq))
                generalize Go.Sort.grow (redrawn w4 dq) osq = wq at *
                clear z2 r0
                go_wp2_with fail
                refine (len_box HBQ.out).mono ?_
                rintro e w' ⟨rfl, rfl⟩
                rw [List.length_append, List.length_singleton, Int.natCast_add]
                have c5 : decide ((k8 : Int) < (B.length : Int) + ((1 : Nat) : Int)) = false := decide_eq_false (by omega)
                go_wp2_with fail
                refine (words_box HBQ.out).mono ?_
                rintro e w' ⟨rfl, rfl⟩
                rw [HBS.out v4]
                have c6 : decide ((n : Int) < ((S + T : Nat) : Int)) = false := decide_eq_false (by omega)
                go_wp2_with fail
                exact ⟨⟨k + 1, _, by omega, by go_num, HBQ.out, HXQ.out⟩, by simp [intOf]; omega⟩
              · have c2 : decide (((bsum B : Nat) : Int) + ((wsum M : Nat) : Int) ≤ (n : Int)) = false := decide_eq_false (by omega)
                have HN := Lib.hid (put_no HB3.out HM3.out (fun h => hsum h.2.2))
                generalize hS : bsum B = S at *
                have HS := Lib.hid hS
                clear hS
                go_wp2_with fail
                refine HN.out.mono ?_
                rintro e w4 ⟨rfl, hx4⟩
                have HB4 := Lib.hid (HB3.out.ext hx4); have HX4 := Lib.hid (HX3.out.trans hx4)
                have z2 := hx4.cell z1
                have cL := fun d os => len_q HB4.out d os
                have cW := fun d os => words_q HB4.out d os
                rw [HS.out] at cW
                have CL := Lib.hid cL; have CW := Lib.hid cW
                clear hx4 z1 cL cW HN
                go_upto_region 14 with fail
                refine wp_region_quiet_below (by kernel_rfl) (by kernel_rfl) ?_
                repeat (first | go_big_quiet_step (first | exact CL.out _ _ | exact CW.out _ _) | quiet_step (first | exact CL.out _ _ | exact CW.out _ _))
                refine wpQuiet_nil ?_
                intro _ hw'
                obtain ⟨⟨dq, osq⟩, hw''⟩ := hw'
                subst hw''
                have HXQ := Lib.hid (HX4.out.trans (Ext.regrown w4 dq osq))
                have HBQ := Lib.hid (HB4.out.ext (Ext.regrown w4 dq osq))
                generalize Go.Sort.grow (redrawn w4 dq) osq = wq at *
                clear z2
                go_wp2_with fail
                refine (len_box HBQ.out).mono ?_
                rintro e w' ⟨rfl, rfl⟩
                have c5 : decide ((k8 : Int) < (B.length : Int)) = false := decide_eq_false (by omega)
                go_wp2_with fail
                refine (words_box HBQ.out).mono ?_
                rintro e w' ⟨rfl, rfl⟩
                rw [HS.out]
                have c6 : decide ((n : Int) < (S : Int)) = false := decide_eq_false (by omega)
                go_wp2_with fail
                exact ⟨⟨k + 1, B, by omega, by go_num, HBQ.out, HXQ.out⟩, by simp [intOf]; omega⟩
            · have c1 : decide ((B.length : Int) < (k8 : Int)) = false := decide_eq_false (by omega)
              have HN := Lib.hid (put_no HB2.out HM2.out (fun h => hlen h.2.1))
              generalize hS : bsum B = S at *
              have HS := Lib.hid hS
              clear hS
              go_wp2_with fail
              refine HN.out.mono ?_
              rintro e w4 ⟨rfl, hx4⟩
              have HB4 := Lib.hid (HB2.out.ext hx4); have HX4 := Lib.hid (HX2.out.trans hx4)
              have z2 := hx4.cell z0
              have cL := fun d os => len_q HB4.out d os
              have cW := fun d os => words_q HB4.out d os
              rw [HS.out] at cW
              have CL := Lib.hid cL; have CW := Lib.hid cW
              clear hx4 z0 cL cW HN
              go_upto_region 14 with fail
              refine wp_region_quiet_below (by kernel_rfl) (by kernel_rfl) ?_
              repeat (first | go_big_quiet_step (first | exact CL.out _ _ | exact CW.out _ _) | quiet_step (first | exact CL.out _ _ | exact CW.out _ _))
              refine wpQuiet_nil ?_
              intro _ hw'
              obtain ⟨⟨dq, osq⟩, hw''⟩ := hw'
              subst hw''
              have HXQ := Lib.hid (HX4.out.trans (Ext.regrown w4 dq osq))
              have HBQ := Lib.hid (HB4.out.ext (Ext.regrown w4 dq osq))
              generalize Go.Sort.grow (redrawn w4 dq) osq = wq at *
              clear z2
              go_wp2_with fail
              refine (len_box HBQ.out).mono ?_
              rintro e w' ⟨rfl, rfl⟩
              have c5 : decide ((k8 : Int) < (B.length : Int)) = false := decide_eq_false (by omega)
              go_wp2_with fail
              refine (words_box HBQ.out).mono ?_
              rintro e w' ⟨rfl, rfl⟩
              rw [HS.out]
              have c6 : decide ((n : Int) < (S : Int)) = false := decide_eq_false (by omega)
              go_wp2_with fail
              exact ⟨⟨k + 1, B, by omega, by go_num, HBQ.out, HXQ.out⟩, by simp [intOf]; omega⟩
          · have hgf : goodM M = false := by simpa using hg
            have HN := Lib.hid (put_no HB2.out HM2.out (fun h => hg h.1))
            rw [hgf]
            clear hg hgf
            generalize hS : bsum B = S at *
            have HS := Lib.hid hS
            clear hS
            go_wp2_with fail
            refine HN.out.mono ?_
            rintro e w4 ⟨rfl, hx4⟩
            have HB4 := Lib.hid (HB2.out.ext hx4); have HX4 := Lib.hid (HX2.out.trans hx4)
            have z2 := hx4.cell z0
            have cL := fun d os => len_q HB4.out d os
            have cW := fun d os => words_q HB4.out d os
            rw [HS.out] at cW
            have CL := Lib.hid cL; have CW := Lib.hid cW
            clear hx4 z0 cL cW HN
            go_upto_region 14 with fail
            refine wp_region_quiet_below (by kernel_rfl) (by kernel_rfl) ?_
            repeat (first | go_big_quiet_step (first | exact CL.out _ _ | exact CW.out _ _) | quiet_step (first | exact CL.out _ _ | exact CW.out _ _))
            refine wpQuiet_nil ?_
            intro _ hw'
            obtain ⟨⟨dq, osq⟩, hw''⟩ := hw'
            subst hw''
            have HXQ := Lib.hid (HX4.out.trans (Ext.regrown w4 dq osq))
            have HBQ := Lib.hid (HB4.out.ext (Ext.regrown w4 dq osq))
            generalize Go.Sort.grow (redrawn w4 dq) osq = wq at *
            clear z2
            go_wp2_with fail
            refine (len_box HBQ.out).mono ?_
            rintro e w' ⟨rfl, rfl⟩
            have c5 : decide ((k8 : Int) < (B.length : Int)) = false := decide_eq_false (by omega)
            go_wp2_with fail
            refine (words_box HBQ.out).mono ?_
            rintro e w' ⟨rfl, rfl⟩
            rw [HS.out]
            have c6 : decide ((n : Int) < (S : Int)) = false := decide_eq_false (by omega)
            go_wp2_with fail
            exact ⟨⟨k + 1, B, by omega, by go_num, HBQ.out, HXQ.out⟩, by simp [intOf]; omega⟩
        · go_wp2_with fail
          refine (box_wakes _).mono ?_
          rintro e w2 ⟨rfl, hx2⟩
          go_wp2_with fail
          go_ret
          exact ⟨rfl, HX.out.trans hx2⟩
      · obtain rfl : k = L.length := by omega
        go_wp2_with fail
        refine (box_wakes _).mono ?_
        rintro e w2 ⟨rfl, hx2⟩
        go_wp2_with fail
        go_ret
        exact ⟨rfl, HX.out.trans hx2⟩
  · have b1 : decide (20 < (L.length : Int)) = true := decide_eq_true (by omega)
    go_enter Try.func5, Try.ntmps5
    go_wp2_with fail
    rw [HK8.out]
    refine (new_yes k8 n hk1 hk2 (by omega) w).mono ?_
    rintro e w1 ⟨rfl, h1, hx1⟩
    clear h1
    generalize w.heap.size + 1 = g
    have X1 := Lib.hid hx1
    clear hx1
    go_wp2_with fail
    refine (box_wakes _).mono ?_
    rintro e w2 ⟨rfl, hx2⟩
    go_wp2_with fail
    go_ret
    exact ⟨rfl, X1.out.trans hx2⟩
end Go.Proofs.Ytalfmlhiooaigaa
