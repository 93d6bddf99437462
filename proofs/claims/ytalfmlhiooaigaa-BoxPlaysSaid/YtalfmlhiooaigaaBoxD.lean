/- How many words a message takes: the program's, the reference's. -/
import Derived.Test.YtalfmlhiooaigaaBoxC
namespace Go.Proofs.Ytalfmlhiooaigaa
open Go.RowKit
set_option maxHeartbeats 4000000
set_option maxRecDepth 100000
theorem goodC_one {x : Cl} (h : goodC x = true) (h1 : x.kind = 1) : x.text.size = 0 ∧ 0 ≤ x.tag ∧ x.tag ≤ 255 ∧ 1 ≤ x.n ∧ x.n ≤ 8 := by
  unfold goodC at h
  rw [if_neg (by omega), if_pos h1] at h
  exact of_decide_eq_true h
theorem goodC_two {x : Cl} (h : goodC x = true) (h1 : x.kind = 2) : x.tag = 0 ∧ x.n = 0 ∧ x.text.size ≤ 400 := by
  unfold goodC at h
  rw [if_neg (by omega), if_neg (by omega), if_pos h1] at h
  exact of_decide_eq_true h
theorem goodC_kind {x : Cl} (h : goodC x = true) : x.kind = 0 ∨ x.kind = 1 ∨ x.kind = 2 := by
  unfold goodC at h
  by_cases h0 : x.kind = 0
  · exact .inl h0
  · by_cases h1 : x.kind = 1
    · exact .inr (.inl h1)
    · by_cases h2 : x.kind = 2
      · exact .inr (.inr h2)
      · rw [if_neg h0, if_neg h1, if_neg h2] at h; cases h
theorem words_cell (x : Cl) (w : World) (hg : goodC x = true) : Calls Try.prog 26 #[.agg #[.int .i64 x.kind, .int .i64 x.tag, .int .i64 x.n, .string x.text]] w fun e w' => e = .returned (.int .i64 (cw x)) ∧ Ext w w' := by
  rcases goodC_kind hg with h0 | h1 | h2
  · obtain ⟨k, t, n, s⟩ := x
    obtain rfl : k = 0 := h0
    have hc : cw ⟨0, t, n, s⟩ = 0 := rfl
    rw [hc]
    clear hg hc
    dsimp only
    go_enter Try.func26, Try.ntmps26
    go_wp2
    go_ret
    exact ⟨rfl, Ext.alloc _ _⟩
  · obtain ⟨q1, q2, q3, q4, q5⟩ := goodC_one hg h1
    obtain ⟨k, t, n, s⟩ := x
    obtain rfl : k = 1 := h1
    dsimp only at q1 q2 q3 q4 q5 ⊢
    have HC := Lib.hid (show ((cw ⟨1, t, n, s⟩ : Nat) : Int) = 1 + n by show ((1 + n.toNat : Nat) : Int) = 1 + n; omega)
    rw [HC.out]
    clear hg
    go_enter Try.func26, Try.ntmps26
    go_wp2
    go_ret
    exact ⟨rfl, Ext.alloc _ _⟩
  · obtain ⟨q1, q2, q3⟩ := goodC_two hg h2
    obtain ⟨k, t, n, s⟩ := x
    obtain rfl : k = 2 := h2
    dsimp only at q1 q2 q3 ⊢
    have HC := Lib.hid (show cw ⟨2, t, n, s⟩ = 1 + (s.size + 7) / 8 from rfl)
    rw [HC.out]
    clear hg
    go_enter Try.func26, Try.ntmps26
    go_wp2_with fail
    refine (words_str s _ q3).mono ?_
    rintro e w1 ⟨rfl, hx⟩
    have HX := Lib.hid ((Ext.alloc _ _).trans hx)
    clear hx
    go_wp2
    go_ret
    exact ⟨rfl, HX.out⟩
theorem words_msg {w : World} {v : Value} {M : List Cl} (h : MsgP w v M) (hg : goodM M = true) : Calls Try.prog 23 #[v] w fun e w' => e = .returned (.int .i64 (wsum M)) ∧ Ext w w' := by
  have H := Lib.hid h
  have HS := Lib.hid (fun k => (show wsum (M.take k) ≤ 5100 by
    have h1 := wsum_le (M.take k) (fun x hx => goodM_all hg x (List.mem_of_mem_take hx))
    have h2 := (goodM_len hg).2
    have h3 : (M.take k).length ≤ 100 := by rw [List.length_take]; omega
    omega))
  have HA := Lib.hid (goodM_all hg)
  obtain ⟨hl1, hl2⟩ := goodM_len hg
  obtain ⟨q, c, rfl, h1, h2, hc⟩ := RowsP.at h
  rw [List.length_map] at h1 H ⊢
  have HC := Lib.hid hc
  have HG := Lib.hid hg
  clear h hc hg
  unfold maxLen at h2
  go_enter Try.func23, Try.ntmps23
  go_wp2_with fail
  refine (good_msg H.out).mono ?_
  rw [HG.out]
  rintro e w1 ⟨rfl, hx⟩
  have HX := Lib.hid hx
  clear hx
  go_wp2_with fail
  go_loopw [3, 11] (fun n i wr => ∃ k : Nat, k ≤ M.length ∧ i = .int .i64 k ∧ n = .int .i64 (wsum (M.take k)) ∧ Ext w wr) (fun _ i _ => M.length - (intOf i).toNat)
  case atStart => exact ⟨0, by omega, rfl, rfl, HX.out⟩
  case round =>
    obtain ⟨k, hk, rfl, rfl, hx⟩ := hrel
    have HX2 := Lib.hid hx
    clear hx
    by_cases hlt : k < M.length
    · have hxk := List.getElem?_eq_getElem hlt
      generalize M[k] = x at hxk
      obtain ⟨b, off, rfl, hcell⟩ := HC.out k (celC x) (by rw [List.getElem?_map, hxk]; rfl)
      have y0 := HX2.out.cell (hcell 0 _ rfl); have y1 := HX2.out.cell (hcell 1 _ rfl); have y2 := HX2.out.cell (hcell 2 _ rfl); have y3 := HX2.out.cell (hcell 3 _ rfl)
      rw [Nat.add_zero] at y0
      have i1 : (k : Int) < (M.length : Int) := by omega
      have HT := Lib.hid (wsum_take hxk)
      have hgx := HA.out x (List.mem_of_getElem? hxk)
      have s1 := HS.out k
      have s2 := cw_le hgx
      have HW := Lib.hid (fun W => words_cell x W hgx)
      clear hcell hxk hgx
      generalize hA : wsum (M.take k) = A at *
      clear hA
      generalize hB : cw x = B2 at *
      clear hB
      obtain ⟨xk, xt, xn, xs⟩ := x
      dsimp only at y0 y1 y2 y3
      go_wp2_with fail
      refine (HW.out _).mono ?_
      rintro e w2 ⟨rfl, hx⟩
      have HX3 := Lib.hid (HX2.out.trans ((Ext.alloc _ _).trans hx))
      clear hx y0 y1 y2 y3
      go_wp2_with fail
      refine ⟨⟨k + 1, by omega, by go_num, by rw [HT.out]; go_num, HX3.out⟩, by simp [intOf]; omega⟩
    · obtain rfl : k = M.length := by omega
      have s1 := HS.out M.length
      rw [List.take_length] at s1 ⊢
      generalize hA : wsum M = A at *
      have HE := Lib.hid hA
      clear hA
      go_wp2_with fail
      go_ret
      exact ⟨by rw [HE.out]; rfl, HX2.out⟩
end Go.Proofs.Ytalfmlhiooaigaa
