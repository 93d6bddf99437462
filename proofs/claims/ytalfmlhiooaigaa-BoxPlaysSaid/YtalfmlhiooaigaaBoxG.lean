/- A message that may be: the reference's walk. -/
import Derived.Test.YtalfmlhiooaigaaBoxF
namespace Go.Proofs.Ytalfmlhiooaigaa
open Go.RowKit
set_option maxHeartbeats 8000000
set_option maxRecDepth 100000
theorem goodC_zero {x : Cl} (h : goodC x = true) (hk : x.kind = 0) : x.tag = 0 ∧ x.n = wrapW x.n ∧ x.text.size = 0 := by
  unfold goodC at h
  rw [if_pos hk] at h
  exact of_decide_eq_true h
theorem refskip_is {w : World} {v : Value} {M : List Cl} (h : MsgP w v M) (hg : ∀ x ∈ M, goodC x = true) (hl : M.length ≤ 100) : Calls Try.prog 19 #[v, .int .i64 0] w fun e w' => e = .returned (.int .i64 (skp M 1 0)) ∧ Ext w w' := by
  obtain ⟨q, c, rfl, h1, h2, hc⟩ := RowsP.at h
  rw [List.length_map] at h1 ⊢
  have HC := Lib.hid hc
  have HA := Lib.hid hg
  clear h hc hg
  unfold maxLen at h2
  go_enter Try.func19, Try.ntmps19
  go_wp2_with fail
  go_loopw [1, 5] (fun a l wr => ∃ k lv : Nat, k ≤ M.length ∧ a = .int .i64 k ∧ l = .int .i64 lv ∧ skp M 1 0 = skp (M.drop k) lv k ∧ lv ≤ 1 + 8 * k ∧ Ext w wr) (fun a _ _ => M.length - (intOf a).toNat)
  case atStart => exact ⟨0, 1, by omega, rfl, rfl, rfl, by omega, Ext.refl _⟩
  case round =>
    obtain ⟨k, lv, hk, rfl, rfl, hn, ho, hx⟩ := hrel
    have HN := Lib.hid hn
    have HX := Lib.hid hx
    clear hn hx
    by_cases h0 : lv = 0
    · subst h0
      have HF := Lib.hid (show skp M 1 0 = (k : Int) by rw [HN.out]; cases M.drop k <;> rfl)
      go_wp2_with fail
      go_ret
      rw [HF.out]
      exact ⟨rfl, HX.out⟩
    · have n0 : (0 : Int) < (lv : Int) := by omega
      by_cases hlt : k < M.length
      · have hxk := List.getElem?_eq_getElem hlt
        generalize M[k] = x at hxk
        obtain ⟨b, off, rfl, hcell⟩ := HC.out k (celC x) (by rw [List.getElem?_map, hxk]; rfl)
        have y0 := HX.out.cell (hcell 0 _ rfl); have y2 := HX.out.cell (hcell 2 _ rfl)
        rw [Nat.add_zero] at y0
        have HD := Lib.hid (drop_cons hxk)
        have hgx := HA.out x (List.mem_of_getElem? hxk)
        have hw := wt_le hgx
        have i1 : (k : Int) < (M.length : Int) := by omega
        have HS := Lib.hid (show skp (x :: M.drop (k + 1)) lv k = skp (M.drop (k + 1)) (lv - 1 + wt x) (k + 1) by rw [skp, if_neg h0])
        clear hcell hxk
        by_cases hkd : x.kind = 1
        · obtain ⟨q1, q2, q3, q4, q5⟩ := goodC_one hgx hkd
          obtain ⟨xk, xt, xn, xs⟩ := x
          obtain rfl : xk = 1 := hkd
          dsimp only at y0 y2 q1 q2 q3 q4 q5
          have HW := Lib.hid (show wt ⟨1, xt, xn, xs⟩ = xn.toNat from rfl)
          clear hgx hw q1 h0
          go_wp2_with fail
          refine ⟨⟨k + 1, lv - 1 + xn.toNat, by omega, by go_num, by rw [show ((lv - 1 + xn.toNat : Nat) : Int) = (lv : Int) + xn - 1 by omega], ?_, by omega, HX.out⟩, by simp [intOf]; omega⟩
          rw [HN.out, HD.out, HS.out, HW.out]
        · obtain ⟨xk, xt, xn, xs⟩ := x
          dsimp only at y0 y2 hkd
          have nk : (xk == 1) = false := beq_false_of_ne hkd
          have HW := Lib.hid (show wt ⟨xk, xt, xn, xs⟩ = 0 by unfold wt; exact if_neg hkd)
          clear hgx hw hkd h0
          go_wp2_with fail
          refine ⟨⟨k + 1, lv - 1, by omega, by go_num, by rw [show ((lv - 1 : Nat) : Int) = (lv : Int) - 1 by omega], ?_, by omega, HX.out⟩, by simp [intOf]; omega⟩
          rw [HN.out, HD.out, HS.out, HW.out]
          rfl
      · obtain rfl : k = M.length := by omega
        have HF := Lib.hid (show skp M 1 0 = -1 by rw [HN.out, List.drop_length, skp, if_neg h0])
        clear h0
        go_wp2_with fail
        go_ret
        rw [HF.out]
        exact ⟨rfl, HX.out⟩
theorem refgood_msg {w : World} {v : Value} {M : List Cl} (h : MsgP w v M) : Calls Try.prog 9 #[v] w fun e w' => e = .returned (.bool (goodM M)) ∧ Ext w w' := by
  have HM := Lib.hid h
  obtain ⟨q, c, rfl, h1, h2, hc⟩ := RowsP.at h
  rw [List.length_map] at h1 HM ⊢
  have HC := Lib.hid hc
  clear h hc
  unfold maxLen at h2
  by_cases hl : M.length ≤ 100
  · by_cases hl0 : M.length = 0
    · have hg : goodM M = false := by rw [List.length_eq_zero_iff.1 hl0]; exact goodM_nil
      rw [hg]
      clear hg HM HC
      go_enter Try.func9, Try.ntmps9
      go_wp2
      go_ret
      exact ⟨rfl, Ext.refl _⟩
    have b0 : decide ((M.length : Int) < 1) = false := decide_eq_false (by omega)
    have b1 : decide (100 < (M.length : Int)) = false := decide_eq_false (by omega)
    go_enter Try.func9, Try.ntmps9
    go_wp2_with fail
    go_loopw [3] (fun i wr => ∃ k : Nat, k ≤ M.length ∧ i = .int .i64 k ∧ (∀ y ∈ M.take k, goodC y = true) ∧ Ext w wr) (fun i _ => M.length - (intOf i).toNat)
    case atStart => exact ⟨0, by omega, rfl, by simp, Ext.refl _⟩
    case round =>
      obtain ⟨k, hk, rfl, hn, hx⟩ := hrel
      have HN := Lib.hid hn
      have HX := Lib.hid hx
      clear hn hx
      by_cases hlt : k < M.length
      · have hxk := List.getElem?_eq_getElem hlt
        generalize M[k] = x at hxk
        obtain ⟨b, off, rfl, hcell⟩ := HC.out k (celC x) (by rw [List.getElem?_map, hxk]; rfl)
        have y0 := HX.out.cell (hcell 0 _ rfl); have y1 := HX.out.cell (hcell 1 _ rfl); have y2 := HX.out.cell (hcell 2 _ rfl); have y3 := HX.out.cell (hcell 3 _ rfl)
        rw [Nat.add_zero] at y0
        have i1 : (k : Int) < (M.length : Int) := by omega
        by_cases hg : goodC x = true
        · have HG2 := Lib.hid (show ∀ y ∈ M.take (k + 1), goodC y = true by
            intro y hy
            rw [List.take_add_one, hxk] at hy
            rcases List.mem_append.1 hy with hy | hy
            · exact HN.out y hy
            · simp at hy; rw [hy]; exact hg)
          clear hcell hxk
          rcases goodC_kind hg with h0 | h1 | h2
          · obtain ⟨p1, p2, p3⟩ := goodC_zero hg h0
            obtain ⟨xk, xt, xn, xs⟩ := x
            dsimp only at h0 p1 p2 p3 y0 y1 y2 y3
            subst h0 p1
            obtain rfl := empty_of p3
            have e1 : (xn == wrapW xn) = true := beq_iff_eq.2 p2
            clear hg p2 p3
            go_upto_region 10 with fail
            refine wp_alloc1 fun W hE _ b0 => ?_
            obtain ⟨x0, x1, x2, x3⟩ := cells4 b0
            have r0 := fun d os => cell_regrown x0 d os
            have r1 := fun d os => cell_regrown x1 d os
            have r2 := fun d os => cell_regrown x2 d os
            have r3 := fun d os => cell_regrown x3 d os
            have cW := fun d os => quiet_same (refWrap_is xn (Go.Sort.grow (redrawn W d) os))
            have CW := Lib.hid cW
            have HE := Lib.hid (HX.out.trans hE)
            clear cW x0 x1 x2 x3 b0 hE y0 y1 y2 y3
            refine wp_region_quiet_below (by kernel_rfl) (by kernel_rfl) ?_
            repeat (first | go_big_quiet_step (exact CW.out _ _) | quiet_step (exact CW.out _ _))
            refine wpQuiet_nil ?_
            intro _ hw'
            obtain ⟨⟨dq, osq⟩, hw''⟩ := hw'
            subst hw''
            have HXQ := Lib.hid (HE.out.trans (Ext.regrown W dq osq))
            clear r0 r1 r2 r3
            go_wp2_with fail
            exact ⟨⟨k + 1, by omega, by go_num, HG2.out, HXQ.out⟩, by simp [intOf]; omega⟩
          · obtain ⟨q1, q2, q3, q4, q5⟩ := goodC_one hg h1
            obtain ⟨xk, xt, xn, xs⟩ := x
            dsimp only at h1 q1 q2 q3 q4 q5 y0 y1 y2 y3
            subst h1
            obtain rfl := empty_of q1
            clear hg q1
            go_wp2_with fail
            exact ⟨⟨k + 1, by omega, by go_num, HG2.out, HX.out.trans (Ext.alloc _ _)⟩, by simp [intOf]; omega⟩
          · obtain ⟨q1, q2, q3⟩ := goodC_two hg h2
            obtain ⟨xk, xt, xn, xs⟩ := x
            dsimp only at h2 q1 q2 q3 y0 y1 y2 y3
            subst h2 q1 q2
            have b3 : decide ((xs.size : Int) ≤ 400) = true := decide_eq_true (by omega)
            clear hg q3
            go_wp2_with fail
            exact ⟨⟨k + 1, by omega, by go_num, HG2.out, HX.out.trans (Ext.alloc _ _)⟩, by simp [intOf]; omega⟩
        · have hgf : goodC x = false := by simpa using hg
          have HF := Lib.hid (show goodM M = false by
            cases hh : goodM M with
            | false => rfl
            | true => exact absurd (goodM_all hh x (List.mem_of_getElem? hxk)) hg)
          clear hcell hxk hg
          obtain ⟨xk, xt, xn, xs⟩ := x
          dsimp only at y0 y1 y2 y3
          by_cases h0 : xk = 0
          · subst h0
            unfold goodC at hgf
            dsimp only at hgf
            rw [if_pos rfl, decide_eq_false_iff_not] at hgf
            by_cases p1 : xt = 0
            · subst p1
              by_cases p3 : xs.size = 0
              · obtain rfl := empty_of p3
                have e1 : (xn == wrapW xn) = false := beq_false_of_ne (fun p2 => hgf ⟨rfl, p2, rfl⟩)
                clear hgf p3
                go_upto_region 10 with fail
                refine wp_alloc1 fun W hE _ b0 => ?_
                obtain ⟨x0, x1, x2, x3⟩ := cells4 b0
                have r0 := fun d os => cell_regrown x0 d os
                have r1 := fun d os => cell_regrown x1 d os
                have r2 := fun d os => cell_regrown x2 d os
                have r3 := fun d os => cell_regrown x3 d os
                have cW := fun d os => quiet_same (refWrap_is xn (Go.Sort.grow (redrawn W d) os))
                have CW := Lib.hid cW
                have HE := Lib.hid (HX.out.trans hE)
                clear cW x0 x1 x2 x3 b0 hE y0 y1 y2 y3
                refine wp_region_quiet_below (by kernel_rfl) (by kernel_rfl) ?_
                repeat (first | go_big_quiet_step (exact CW.out _ _) | quiet_step (exact CW.out _ _))
                refine wpQuiet_nil ?_
                intro _ hw'
                obtain ⟨⟨dq, osq⟩, hw''⟩ := hw'
                subst hw''
                have HXQ := Lib.hid (HE.out.trans (Ext.regrown W dq osq))
                clear r0 r1 r2 r3
                go_wp2_with fail
                go_ret
                rw [HF.out]
                exact ⟨rfl, HXQ.out⟩
              · have e2 : xs.toList.isEmpty = false := by
                  cases hh : xs.toList.isEmpty with
                  | false => rfl
                  | true => exact absurd (hsb xs |>.1 hh) p3
                clear hgf p3
                go_upto_region 10 with fail
                refine wp_alloc1 fun W hE _ b0 => ?_
                obtain ⟨x0, x1, x2, x3⟩ := cells4 b0
                have r0 := fun d os => cell_regrown x0 d os
                have r1 := fun d os => cell_regrown x1 d os
                have r2 := fun d os => cell_regrown x2 d os
                have r3 := fun d os => cell_regrown x3 d os
                have cW := fun d os => quiet_same (refWrap_is xn (Go.Sort.grow (redrawn W d) os))
                have CW := Lib.hid cW
                have HE := Lib.hid (HX.out.trans hE)
                clear cW x0 x1 x2 x3 b0 hE y0 y1 y2 y3
                refine wp_region_quiet_below (by kernel_rfl) (by kernel_rfl) ?_
                repeat (first | go_big_quiet_step (exact CW.out _ _) | quiet_step (exact CW.out _ _))
                refine wpQuiet_nil ?_
                intro _ hw'
                obtain ⟨⟨dq, osq⟩, hw''⟩ := hw'
                subst hw''
                have HXQ := Lib.hid (HE.out.trans (Ext.regrown W dq osq))
                clear r0 r1 r2 r3
                go_wp2_with fail
                go_ret
                rw [HF.out]
                exact ⟨rfl, HXQ.out⟩
            · have e1 : (xt == 0) = false := beq_false_of_ne p1
              clear hgf p1
              go_upto_region 10 with fail
              refine wp_alloc1 fun W hE _ b0 => ?_
              obtain ⟨x0, x1, x2, x3⟩ := cells4 b0
              have r0 := fun d os => cell_regrown x0 d os
              have r1 := fun d os => cell_regrown x1 d os
              have r2 := fun d os => cell_regrown x2 d os
              have r3 := fun d os => cell_regrown x3 d os
              have cW := fun d os => quiet_same (refWrap_is xn (Go.Sort.grow (redrawn W d) os))
              have CW := Lib.hid cW
              have HE := Lib.hid (HX.out.trans hE)
              clear cW x0 x1 x2 x3 b0 hE y0 y1 y2 y3
              refine wp_region_quiet_below (by kernel_rfl) (by kernel_rfl) ?_
              repeat (first | go_big_quiet_step (exact CW.out _ _) | quiet_step (exact CW.out _ _))
              refine wpQuiet_nil ?_
              intro _ hw'
              obtain ⟨⟨dq, osq⟩, hw''⟩ := hw'
              subst hw''
              have HXQ := Lib.hid (HE.out.trans (Ext.regrown W dq osq))
              clear r0 r1 r2 r3
              go_wp2_with fail
              go_ret
              rw [HF.out]
              exact ⟨rfl, HXQ.out⟩
          · have n0 : (xk == 0) = false := beq_false_of_ne h0
            by_cases h1 : xk = 1
            · subst h1
              unfold goodC at hgf
              dsimp only at hgf
              rw [if_neg (by omega), if_pos rfl, decide_eq_false_iff_not] at hgf
              clear h0
              by_cases q2 : 0 ≤ xt
              · by_cases q3 : xt ≤ 255
                · by_cases q4 : 1 ≤ xn
                  · by_cases q5 : xn ≤ 8
                    · have e2 : xs.toList.isEmpty = false := by
                        cases hh : xs.toList.isEmpty with
                        | false => rfl
                        | true => exact absurd ⟨hsb xs |>.1 hh, q2, q3, q4, q5⟩ hgf
                      clear hgf
                      go_wp2_with fail
                      go_ret
                      rw [HF.out]
                      exact ⟨rfl, HX.out.trans (Ext.alloc _ _)⟩
                    · clear hgf
                      go_wp2_with fail
                      go_ret
                      rw [HF.out]
                      exact ⟨rfl, HX.out.trans (Ext.alloc _ _)⟩
                  · clear hgf
                    go_wp2_with fail
                    go_ret
                    rw [HF.out]
                    exact ⟨rfl, HX.out.trans (Ext.alloc _ _)⟩
                · clear hgf
                  go_wp2_with fail
                  go_ret
                  rw [HF.out]
                  exact ⟨rfl, HX.out.trans (Ext.alloc _ _)⟩
              · clear hgf
                go_wp2_with fail
                go_ret
                rw [HF.out]
                exact ⟨rfl, HX.out.trans (Ext.alloc _ _)⟩
            · have n1 : (xk == 1) = false := beq_false_of_ne h1
              by_cases h2 : xk = 2
              · subst h2
                unfold goodC at hgf
                dsimp only at hgf
                rw [if_neg (by omega), if_neg (by omega), if_pos rfl, decide_eq_false_iff_not] at hgf
                clear h0 h1
                by_cases q1 : xt = 0
                · subst q1
                  by_cases q2 : xn = 0
                  · subst q2
                    have q3 : ¬ xs.size ≤ 400 := fun q3 => hgf ⟨rfl, rfl, q3⟩
                    have b3 : decide ((xs.size : Int) ≤ 400) = false := decide_eq_false (by omega)
                    clear hgf q3
                    go_wp2_with fail
                    go_ret
                    rw [HF.out]
                    exact ⟨rfl, HX.out.trans (Ext.alloc _ _)⟩
                  · have e2 : (xn == 0) = false := beq_false_of_ne q2
                    clear hgf q2
                    go_wp2_with fail
                    go_ret
                    rw [HF.out]
                    exact ⟨rfl, HX.out.trans (Ext.alloc _ _)⟩
                · have e1 : (xt == 0) = false := beq_false_of_ne q1
                  clear hgf q1
                  go_wp2_with fail
                  go_ret
                  rw [HF.out]
                  exact ⟨rfl, HX.out.trans (Ext.alloc _ _)⟩
              · have n2 : (xk == 2) = false := beq_false_of_ne h2
                clear hgf h0 h1 h2
                go_wp2_with fail
                go_ret
                rw [HF.out]
                exact ⟨rfl, HX.out.trans (Ext.alloc _ _)⟩
      · obtain rfl : k = M.length := by omega
        have HA := Lib.hid (show ∀ y ∈ M, goodC y = true by have := HN.out; rwa [List.take_length] at this)
        have HE := Lib.hid (show goodM M = (skp M 1 0 == (M.length : Int)) by
          have := skp_is M 1 0 HA.out
          rw [Nat.zero_add] at this
          rw [this]
          unfold goodM
          rw [decide_eq_true hl]
          rfl)
        have HK := Lib.hid (fun W hW => refskip_is (RowsP.ext HM.out (w' := W) hW) HA.out hl)
        generalize skp M 1 0 = sv at HK HE
        go_wp2_with fail
        refine (HK.out _ HX.out).mono ?_
        rintro e w1 ⟨rfl, hx1⟩
        have HX1 := Lib.hid (HX.out.trans hx1)
        clear hx1
        go_wp2_with fail
        go_ret
        rw [HE.out]
        exact ⟨rfl, HX1.out⟩
  · have b1 : (100 : Int) < (M.length : Int) := by omega
    have hg : goodM M = false := by unfold goodM; rw [decide_eq_false hl]; rfl
    rw [hg]
    clear hg hl HM HC
    go_enter Try.func9, Try.ntmps9
    go_wp2
    go_ret
    exact ⟨rfl, Ext.refl _⟩
end Go.Proofs.Ytalfmlhiooaigaa
