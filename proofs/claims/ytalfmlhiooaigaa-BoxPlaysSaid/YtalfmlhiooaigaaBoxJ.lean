/- Put: what a box does not take. -/
import Derived.Test.YtalfmlhiooaigaaBoxI
namespace Go.Proofs.Ytalfmlhiooaigaa
open Go.RowKit Go
set_option maxHeartbeats 4000000
set_option maxRecDepth 100000
theorem put_nil {w : World} {v : Value} : Calls Try.prog 11 #[.pointer none, v] w fun e w' => e = .returned (.bool false) ∧ Ext w w' := by
  go_enter Try.func11, Try.ntmps11
  go_upto_region 1 with fail
  refine wp_region_quiet_below (by kernel_rfl) (by kernel_rfl) ?_
  repeat (first | go_big_quiet_step (fail) | quiet_step (fail))
  refine wpQuiet_nil ?_
  intro _ hw'
  obtain ⟨⟨dq, osq⟩, hw''⟩ := hw'
  subst hw''
  have HXQ := Lib.hid (Ext.regrown w dq osq)
  go_wp2
  go_ret
  exact ⟨rfl, HXQ.out⟩
theorem put_bad {w : World} {g c cap most : Nat} {L : List (Value × List Cl)} {v : Value} {M : List Cl} (h : BoxAt w g c cap most L) (hm : MsgP w v M) (hb : goodM M = false ∨ (goodM M = true ∧ most < bsum L + wsum M)) : Calls Try.prog 11 #[.pointer (some ⟨g, 0, none⟩), v] w fun e w' => e = .returned (.bool false) ∧ Ext w w' := by
  obtain ⟨y0, y1, y2, _⟩ := h.cells
  have r0 := fun d os => cell_regrown y0 d os
  have r1 := fun d os => cell_regrown y1 d os
  have r2 := fun d os => cell_regrown y2 d os
  have cG := fun d os => quiet_ext (good_msg (hm.ext (Ext.regrown w d os)))
  have CG := Lib.hid cG
  clear cG y0 y1 y2
  rcases hb with hg | ⟨hg, hs⟩
  · rw [hg] at CG
    clear h hm hg
    go_enter Try.func11, Try.ntmps11
    go_upto_region 1 with fail
    refine wp_region_quiet_below (by kernel_rfl) (by kernel_rfl) ?_
    repeat (first | go_big_quiet_step (exact CG.out _ _) | quiet_step (exact CG.out _ _))
    refine wpQuiet_nil ?_
    intro _ hw'
    obtain ⟨⟨dq, osq⟩, hw''⟩ := hw'
    subst hw''
    have HXQ := Lib.hid (Ext.regrown w dq osq)
    clear r0 r1 r2
    go_wp2
    go_ret
    exact ⟨rfl, HXQ.out⟩
  · have cW := fun d os => quiet_ext (words_msg (hm.ext (Ext.regrown w d os)) hg)
    have CW := Lib.hid cW
    rw [hg] at CG
    have hL := h.sum
    have hm2 := h.most2
    have hgs := goodM_sum hg
    generalize bsum L = B at *
    generalize wsum M = W2 at *
    have b1 : decide ((most : Int) - (B : Int) < (W2 : Int)) = true := decide_eq_true (by omega)
    clear h hm hg hs cW
    go_enter Try.func11, Try.ntmps11
    go_upto_region 1 with fail
    refine wp_region_quiet_below (by kernel_rfl) (by kernel_rfl) ?_
    repeat (first | go_big_quiet_step (first | exact CG.out _ _ | exact CW.out _ _) | quiet_step (first | exact CG.out _ _ | exact CW.out _ _))
    refine wpQuiet_nil ?_
    intro _ hw'
    obtain ⟨⟨dq, osq⟩, hw''⟩ := hw'
    subst hw''
    have HXQ := Lib.hid (Ext.regrown w dq osq)
    clear r0 r1 r2
    go_wp2
    go_ret
    exact ⟨rfl, HXQ.out⟩
end Go.Proofs.Ytalfmlhiooaigaa
