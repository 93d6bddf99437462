/- How many words a message takes: the reference's, of a whole one. -/
import Derived.Test.YtalfmlhiooaigaaBoxE
namespace Go.Proofs.Ytalfmlhiooaigaa
open Go.RowKit
set_option maxHeartbeats 4000000
set_option maxRecDepth 100000
theorem refwords_msg {w : World} {v : Value} {M : List Cl} (h : MsgP w v M) (hg : goodM M = true) : Calls Try.prog 10 #[v] w fun e w' => e = .returned (.int .i64 (wsum M)) ∧ Ext w w' := by
  have HS := Lib.hid (fun k => (show wsum (M.take k) ≤ 5100 by
    have h1 := wsum_le (M.take k) (fun x hx => goodM_all hg x (List.mem_of_mem_take hx))
    have h2 := (goodM_len hg).2
    have h3 : (M.take k).length ≤ 100 := by rw [List.length_take]; omega
    omega))
  have HA := Lib.hid (goodM_all hg)
  obtain ⟨hl1, hl2⟩ := goodM_len hg
  obtain ⟨q, c, rfl, h1, h2, hc⟩ := RowsP.at h
  rw [List.length_map] at h1 ⊢
  have HC := Lib.hid hc
  clear h hc hg
  unfold maxLen at h2
  go_enter Try.func10, Try.ntmps10
  go_wp2_with fail
  go_loopw [3, 4] (fun n i wr => ∃ k : Nat, k ≤ M.length ∧ i = .int .i64 k ∧ n = .int .i64 (wsum (M.take k)) ∧ Ext w wr) (fun _ i _ => M.length - (intOf i).toNat)
  case atStart => exact ⟨0, by omega, rfl, rfl, Ext.refl _⟩
  case round =>
    obtain ⟨k, hk, rfl, rfl, hx⟩ := hrel
    have HX2 := Lib.hid hx
    clear hx
    by_cases hlt : k < M.length
    · have hxk := List.getElem?_eq_getElem hlt
      generalize M[k] = x at hxk
      obtain ⟨b, off, rfl, hcell⟩ := HC.out k (celC x) (by rw [List.getElem?_map, hxk]; rfl)
      have y0 := HX2.out.cell (hcell 0 _ rfl); have y1 := HX2.out.cell (hcell 1 _ rfl); have y2 := HX2.out.cell (hcell 2 _ rfl); have y3 := HX2.out.cell (hcell 3 _ rfl)
      rw [Nat.add_zero] at y0
      have i1 : (k : Int) < (M.length : Int) := by omega
      have HT := Lib.hid (wsum_take hxk)
      have hgx := HA.out x (List.mem_of_getElem? hxk)
      have s1 := HS.out k
      clear hcell hxk
      generalize hA : wsum (M.take k) = A at *
      clear hA
      rcases goodC_kind hgx with h0 | h1 | h2
      · obtain ⟨xk, xt, xn, xs⟩ := x
        obtain rfl : xk = 0 := h0
        dsimp only at y0 y1 y2 y3
        have HW := Lib.hid (show cw ⟨0, xt, xn, xs⟩ = 0 from rfl)
        clear hgx
        go_wp2_with fail
        refine ⟨⟨k + 1, by omega, by go_num, by rw [HT.out, HW.out]; rfl, HX2.out⟩, by simp [intOf]; omega⟩
      · obtain ⟨q1, q2, q3, q4, q5⟩ := goodC_one hgx h1
        obtain ⟨xk, xt, xn, xs⟩ := x
        obtain rfl : xk = 1 := h1
        dsimp only at y0 y1 y2 y3 q1 q2 q3 q4 q5
        obtain rfl := empty_of q1
        obtain ⟨m, rfl⟩ := Int.eq_ofNat_of_zero_le (show (0 : Int) ≤ xn by omega)
        have HW := Lib.hid (show cw ⟨1, xt, (m : Int), ByteArray.empty⟩ = 1 + m by show 1 + (m : Int).toNat = 1 + m; omega)
        clear hgx q1
        go_wp2_with fail
        refine (refobj_row xt m _ (by omega) (by omega)).mono ?_
        rintro e w1 ⟨q, rfl, hx1⟩
        have HX3 := Lib.hid (HX2.out.trans hx1)
        clear hx1 y0 y1 y2 y3
        go_wp2_with fail
        refine (refwords_row xt q _ q2 q3 m (by omega) (by omega)).mono ?_
        rintro e w2 ⟨rfl, hx1⟩
        have HX4 := Lib.hid (HX3.out.trans hx1)
        clear hx1
        go_wp2_with fail
        refine ⟨⟨k + 1, by omega, by go_num, by rw [HT.out, HW.out]; go_num, HX4.out⟩, by simp [intOf]; omega⟩
      · obtain ⟨q1, q2, q3⟩ := goodC_two hgx h2
        have s2 := cw_le hgx
        obtain ⟨xk, xt, xn, xs⟩ := x
        obtain rfl : xk = 2 := h2
        dsimp only at y0 y1 y2 y3 q1 q2 q3 s2
        subst q1 q2
        have hcw : cw ⟨2, 0, 0, xs⟩ = 1 + (xs.size + 7) / 8 := by simp [cw]
        obtain ⟨B2, HR, HB⟩ : ∃ B2 : Nat, (Hid (∀ W, Calls Try.prog 20 #[.agg #[.int .i64 2, .int .i64 0, .slice none 0 0, .string xs]] W fun e w' => e = .returned (.int .i64 (B2 : Int)) ∧ Ext W w')) ∧ cw ⟨2, 0, 0, xs⟩ = B2 := ⟨_, Lib.hid (fun W => refwords_str xs W q3), hcw⟩
        rw [HB] at s2
        have HW := Lib.hid HB
        clear hgx hcw HB
        go_wp2_with fail
        refine (refobj_str 0 0 xs _).mono ?_
        rintro e w1 ⟨rfl, hx1⟩
        have HX3 := Lib.hid (HX2.out.trans hx1)
        clear hx1 y0 y1 y2 y3
        go_wp2_with fail
        refine (HR.out _).mono ?_
        rintro e w2 ⟨rfl, hx1⟩
        have HX4 := Lib.hid (HX3.out.trans hx1)
        clear hx1
        go_wp2_with fail
        refine ⟨⟨k + 1, by omega, by go_num, by rw [HT.out, HW.out]; go_num, HX4.out⟩, by simp [intOf]; omega⟩
    · obtain rfl : k = M.length := by omega
      have s1 := HS.out M.length
      rw [List.take_length] at s1 ⊢
      generalize hA : wsum M = A at *
      have HE := Lib.hid hA
      clear hA
      go_wp2_with fail
      go_ret
      exact ⟨by rw [HE.out]; rfl, HX2.out⟩
end Go.Proofs.Ytalfmlhiooaigaa
