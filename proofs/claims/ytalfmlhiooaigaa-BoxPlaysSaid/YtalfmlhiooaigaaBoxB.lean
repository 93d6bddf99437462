/- Whether a message may be; how many words it takes (the program's). -/
import Derived.Test.YtalfmlhiooaigaaBoxA
namespace Go.Proofs.Ytalfmlhiooaigaa
open Go.RowKit
set_option maxHeartbeats 4000000
set_option maxRecDepth 100000
theorem drop_cons {M : List Cl} {k : Nat} {x : Cl} (h : M[k]? = some x) : M.drop k = x :: M.drop (k + 1) := by
  have hk : k < M.length := (List.getElem?_eq_some_iff.1 h).1
  rw [List.drop_eq_getElem_cons hk, (List.getElem?_eq_some_iff.1 h).2]
/-- a message, wherever it lies -/
def MsgP (w : World) (v : Value) (M : List Cl) : Prop := RowsP w v 4 (M.map celC)
theorem MsgP.ext {w w' : World} {v : Value} {M : List Cl} (h : MsgP w v M) (e : Ext w w') : MsgP w' v M := RowsP.ext h e
theorem good_msg {w : World} {v : Value} {M : List Cl} (h : MsgP w v M) : Calls Try.prog 22 #[v] w fun e w' => e = .returned (.bool (goodM M)) ∧ Ext w w' := by
  obtain ⟨q, c, rfl, h1, h2, hc⟩ := RowsP.at h
  rw [List.length_map] at h1 ⊢
  have HC := Lib.hid hc
  clear h hc
  unfold maxLen at h2
  by_cases hl : M.length ≤ 100
  · have b1 : decide (100 < M.length) = false := decide_eq_false (by omega)
    have HG := Lib.hid (show goodM M = needs M 1 by unfold goodM; rw [decide_eq_true hl]; rfl)
    rw [HG.out]
    clear HG
    go_enter Try.func22, Try.ntmps22
    go_wp2_with fail
    go_loopw [3, 11] (fun o i wr => ∃ k ov : Nat, k ≤ M.length ∧ i = .int .i64 k ∧ o = .int .i64 ov ∧ needs M 1 = needs (M.drop k) ov ∧ ov ≤ 1 + 8 * k ∧ Ext w wr) (fun _ i _ => M.length - (intOf i).toNat)
    case atStart => exact ⟨0, 1, by omega, rfl, rfl, rfl, by omega, Ext.refl _⟩
    case round =>
      obtain ⟨k, ov, hk, rfl, rfl, hn, ho, hx⟩ := hrel
      have HN := Lib.hid hn
      have HX := Lib.hid hx
      clear hn hx
      by_cases hlt : k < M.length
      · have hxk := List.getElem?_eq_getElem hlt
        generalize M[k] = x at hxk
        obtain ⟨b, off, rfl, hcell⟩ := HC.out k (celC x) (by rw [List.getElem?_map, hxk]; rfl)
        have y0 := HX.out.cell (hcell 0 _ rfl); have y1 := HX.out.cell (hcell 1 _ rfl); have y2 := HX.out.cell (hcell 2 _ rfl); have y3 := HX.out.cell (hcell 3 _ rfl)
        rw [Nat.add_zero] at y0
        have HD := Lib.hid (drop_cons hxk)
        have i1 : (k : Int) < (M.length : Int) := by omega
        clear hcell hxk
        obtain ⟨xk, xt, xn, xs⟩ := x
        dsimp only at y0 y1 y2 y3
        by_cases h0 : ov = 0
        · subst h0
          have HF := Lib.hid (show needs M 1 = false by rw [HN.out, HD.out]; exact needs_bad (.inl rfl))
          go_wp2_with fail
          go_ret
          rw [HF.out]
          exact ⟨rfl, HX.out.trans (Ext.alloc _ _)⟩
        · have n0 : ((ov : Int) == 0) = false := beq_false_of_ne (by omega)
          go_wp2_with fail
          refine (good_is ⟨xk, xt, xn, xs⟩ _).mono ?_
          rintro e w1 ⟨rfl, hx1⟩
          have HX1 := Lib.hid (HX.out.trans ((Ext.alloc _ _).trans hx1))
          have c0 := hx1.cell (show (wr.alloc (.cells #[.int .i64 xk, .int .i64 xt, .int .i64 xn, .string xs] 41)).cell? ⟨wr.heap.size, 0, none⟩ = some (.int .i64 xk) from cell_at (heap_alloc_new _ _) rfl)
          have c2 := hx1.cell (show (wr.alloc (.cells #[.int .i64 xk, .int .i64 xt, .int .i64 xn, .string xs] 41)).cell? ⟨wr.heap.size, 2, none⟩ = some (.int .i64 xn) from cell_at (heap_alloc_new _ _) rfl)
          clear hx1 y0 y1 y2 y3
          by_cases hg : goodC ⟨xk, xt, xn, xs⟩ = true
          · have HS := Lib.hid (needs_step (M := M.drop (k + 1)) h0 hg)
            have hw := wt_le hg
            rw [hg]
            by_cases hkd : xk = 1
            · subst hkd
              have hn8 : 1 ≤ xn ∧ xn ≤ 8 := by
                unfold goodC at hg
                simp at hg
                omega
              have HW := Lib.hid (show wt ⟨1, xt, xn, xs⟩ = xn.toNat from rfl)
              clear hg hw
              go_wp2_with fail
              refine ⟨⟨k + 1, ov - 1 + xn.toNat, by omega, by go_num, by rw [show ((ov - 1 + xn.toNat : Nat) : Int) = (ov : Int) - 1 + xn by omega], ?_, by omega, HX1.out⟩, by simp [intOf]; omega⟩
              rw [HN.out, HD.out, HS.out, HW.out]
            · have nk : (xk == 1) = false := beq_false_of_ne hkd
              have HW := Lib.hid (show wt ⟨xk, xt, xn, xs⟩ = 0 by unfold wt; exact if_neg hkd)
              clear hg hw hkd
              go_wp2_with fail
              refine ⟨⟨k + 1, ov - 1, by omega, by go_num, by rw [show ((ov - 1 : Nat) : Int) = (ov : Int) - 1 by omega], ?_, by omega, HX1.out⟩, by simp [intOf]; omega⟩
              rw [HN.out, HD.out, HS.out, HW.out]
              rfl
          · have hgf : goodC ⟨xk, xt, xn, xs⟩ = false := by simpa using hg
            have HF := Lib.hid (show needs M 1 = false by rw [HN.out, HD.out]; exact needs_bad (.inr hgf))
            rw [hgf]
            clear hg hgf
            go_wp2_with fail
            go_ret
            rw [HF.out]
            exact ⟨rfl, HX1.out⟩
      · obtain rfl : k = M.length := by omega
        have HE := Lib.hid (show needs M 1 = ((ov : Int) == 0) by rw [HN.out, List.drop_length]; unfold needs; rw [Bool.eq_iff_iff]; simp)
        go_wp2_with fail
        go_ret
        rw [HE.out]
        exact ⟨rfl, HX.out⟩
  · have b1 : (100 : Int) < (M.length : Int) := by omega
    have hg : goodM M = false := by unfold goodM; rw [decide_eq_false hl]; rfl
    rw [hg]
    clear hg hl
    go_enter Try.func22, Try.ntmps22
    go_wp2
    go_ret
    exact ⟨rfl, Ext.refl _⟩
end Go.Proofs.Ytalfmlhiooaigaa
