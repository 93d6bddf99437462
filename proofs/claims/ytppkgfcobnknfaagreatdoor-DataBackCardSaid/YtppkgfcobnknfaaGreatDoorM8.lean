/- Proved here: the contracts and laws of BoxB, BoxC, BoxD, BoxE, BoxF, BoxG, BoxH, DatU, DatV, DatW, DatY, DatH of this claim, each beneath its own remark; conditions: those that each theorem names. -/
import Derived.Test.YtppkgfcobnknfaaGreatDoorM7
import Derived.Test.YtppkgfcobnknfaaGreatDoorM1
import Derived.Test.YtppkgfcobnknfaaGreatDoorM3
import Derived.Test.YtppkgfcobnknfaaGreatDoorM5
import Derived.Test.YtppkgfcobnknfaaGreatDoorM2
import Derived.BigQuiet
import Derived.RegionTactic
/- Whether a message may be; how many words it takes (the program's). -/
namespace Go.Proofs.YtppkgfcobnknfaaGreatDoor
open Go.RowKit
set_option maxHeartbeats 4000000
set_option maxRecDepth 100000
theorem drop_cons {M : List Cl} {k : Nat} {x : Cl} (h : M[k]? = some x) : M.drop k = x :: M.drop (k + 1) := by
  have hk : k < M.length := (List.getElem?_eq_some_iff.1 h).1
  rw [List.drop_eq_getElem_cons hk, (List.getElem?_eq_some_iff.1 h).2]
/-- a message, wherever it lies -/
def MsgP (w : World) (v : Value) (M : List Cl) : Prop := RowsP w v 4 (M.map celC)
theorem MsgP.ext {w w' : World} {v : Value} {M : List Cl} (h : MsgP w v M) (e : Ext w w') : MsgP w' v M := RowsP.ext h e
theorem good_msg {w : World} {v : Value} {M : List Cl} (h : MsgP w v M) : Calls Tryz.prog 22 #[v] w fun e w' => e = .returned (.bool (goodM M)) ∧ Ext w w' := by
  obtain ⟨q, c, rfl, h1, h2, hc⟩ := RowsP.at h
  rw [List.length_map] at h1 ⊢
  have HC := Lib.hid hc
  clear h hc
  unfold maxLen at h2
  by_cases hl : M.length ≤ 100
  · have b1 : decide (100 < M.length) = false := decide_eq_false (by omega)
    have HG := Lib.hid (show goodM M = needs M 1 by unfold goodM; rw [decide_eq_true hl]; rfl)
    rw [HG.out]
    clear HG
    go_enter Tryz.func22, Tryz.ntmps22
    go_wp2_with fail
    go_loopw [3, 11] (fun o i wr => ∃ k ov : Nat, k ≤ M.length ∧ i = .int .i64 k ∧ o = .int .i64 ov ∧ needs M 1 = needs (M.drop k) ov ∧ ov ≤ 1 + 8 * k ∧ Ext w wr) (fun _ i _ => M.length - (Go.RowKit.intOf i).toNat)
    case atStart => exact ⟨0, 1, by omega, rfl, rfl, rfl, by omega, Ext.refl _⟩
    case round =>
      obtain ⟨k, ov, hk, rfl, rfl, hn, ho, hx⟩ := hrel
      have HN := Lib.hid hn
      have HX := Lib.hid hx
      clear hn hx
      by_cases hlt : k < M.length
      · have hxk := List.getElem?_eq_getElem hlt
        generalize M[k] = x at hxk
        obtain ⟨b, off, rfl, hcell⟩ := HC.out k (celC x) (by rw [List.getElem?_map, hxk]; rfl)
        have y0 := HX.out.cell (hcell 0 _ rfl); have y1 := HX.out.cell (hcell 1 _ rfl); have y2 := HX.out.cell (hcell 2 _ rfl); have y3 := HX.out.cell (hcell 3 _ rfl)
        rw [Nat.add_zero] at y0
        have HD := Lib.hid (drop_cons hxk)
        have i1 : (k : Int) < (M.length : Int) := by omega
        clear hcell hxk
        obtain ⟨xk, xt, xn, xs⟩ := x
        dsimp only at y0 y1 y2 y3
        by_cases h0 : ov = 0
        · subst h0
          have HF := Lib.hid (show needs M 1 = false by rw [HN.out, HD.out]; exact needs_bad (.inl rfl))
          go_wp2_with fail
          go_ret
          rw [HF.out]
          exact ⟨rfl, HX.out.trans (Ext.alloc _ _)⟩
        · have n0 : ((ov : Int) == 0) = false := beq_false_of_ne (by omega)
          go_wp2_with fail
          refine (bgood_is ⟨xk, xt, xn, xs⟩ _).mono ?_
          rintro e w1 ⟨rfl, hx1⟩
          have HX1 := Lib.hid (HX.out.trans ((Ext.alloc _ _).trans hx1))
          have c0 := hx1.cell (show (wr.alloc (.cells #[.int .i64 xk, .int .i64 xt, .int .i64 xn, .string xs] 51)).cell? ⟨wr.heap.size, 0, none⟩ = some (.int .i64 xk) from cell_at (heap_alloc_new _ _) rfl)
          have c2 := hx1.cell (show (wr.alloc (.cells #[.int .i64 xk, .int .i64 xt, .int .i64 xn, .string xs] 51)).cell? ⟨wr.heap.size, 2, none⟩ = some (.int .i64 xn) from cell_at (heap_alloc_new _ _) rfl)
          clear hx1 y0 y1 y2 y3
          by_cases hg : goodC ⟨xk, xt, xn, xs⟩ = true
          · have HS := Lib.hid (needs_step (M := M.drop (k + 1)) h0 hg)
            have hw := wt_le hg
            rw [hg]
            by_cases hkd : xk = 1
            · subst hkd
              have hn8 : 1 ≤ xn ∧ xn ≤ 8 := by
                unfold goodC at hg
                simp at hg
                omega
              have HW := Lib.hid (show wt ⟨1, xt, xn, xs⟩ = xn.toNat from rfl)
              clear hg hw
              go_wp2_with fail
              refine ⟨⟨k + 1, ov - 1 + xn.toNat, by omega, by go_num, by rw [show ((ov - 1 + xn.toNat : Nat) : Int) = (ov : Int) - 1 + xn by omega], ?_, by omega, HX1.out⟩, by simp [Go.RowKit.intOf]; omega⟩
              rw [HN.out, HD.out, HS.out, HW.out]
            · have nk : (xk == 1) = false := beq_false_of_ne hkd
              have HW := Lib.hid (show wt ⟨xk, xt, xn, xs⟩ = 0 by unfold wt; exact if_neg hkd)
              clear hg hw hkd
              go_wp2_with fail
              refine ⟨⟨k + 1, ov - 1, by omega, by go_num, by rw [show ((ov - 1 : Nat) : Int) = (ov : Int) - 1 by omega], ?_, by omega, HX1.out⟩, by simp [Go.RowKit.intOf]; omega⟩
              rw [HN.out, HD.out, HS.out, HW.out]
              rfl
          · have hgf : goodC ⟨xk, xt, xn, xs⟩ = false := by simpa using hg
            have HF := Lib.hid (show needs M 1 = false by rw [HN.out, HD.out]; exact needs_bad (.inr hgf))
            rw [hgf]
            clear hg hgf
            go_wp2_with fail
            go_ret
            rw [HF.out]
            exact ⟨rfl, HX1.out⟩
      · obtain rfl : k = M.length := by omega
        have HE := Lib.hid (show needs M 1 = ((ov : Int) == 0) by rw [HN.out, List.drop_length]; unfold needs; rw [Bool.eq_iff_iff]; simp)
        go_wp2_with fail
        go_ret
        rw [HE.out]
        exact ⟨rfl, HX.out⟩
  · have b1 : (100 : Int) < (M.length : Int) := by omega
    have hg : goodM M = false := by unfold goodM; rw [decide_eq_false hl]; rfl
    rw [hg]
    clear hg hl
    go_enter Tryz.func22, Tryz.ntmps22
    go_wp2
    go_ret
    exact ⟨rfl, Ext.refl _⟩
end Go.Proofs.YtppkgfcobnknfaaGreatDoor
/- How many words a message takes (the program's). -/
namespace Go.Proofs.YtppkgfcobnknfaaGreatDoor
open Go.RowKit
set_option maxHeartbeats 4000000
set_option maxRecDepth 100000
theorem of_str (w : World) : Calls Tryz.prog 62 #[.int .i64 2] w fun e w' => e = .returned (.iface 147 (.agg #[])) ∧ w = w' := by
  go_enter Tryz.func62, Tryz.ntmps62
  go_wp2
  go_ret
  exact ⟨rfl, rfl⟩
theorem m_may (k : Nat) (w : World) : (method (k + 1) 147 (.agg #[]) "stockpot/object.may").run Tryz.prog w = .ok (123, .agg #[]) w := by kernel_rfl
theorem m_size (k : Nat) (w : World) : (method (k + 1) 147 (.agg #[]) "stockpot/object.size").run Tryz.prog w = .ok (124, .agg #[]) w := by kernel_rfl
theorem m_words (k : Nat) (w : World) : (method (k + 1) 147 (.agg #[]) "stockpot/object.words").run Tryz.prog w = .ok (125, .agg #[]) w := by kernel_rfl
theorem btext_may (s : ByteArray) (w : World) (hs : s.size ≤ 400) : Calls Tryz.prog 123 #[.agg #[], .agg #[.int .i64 2, .int .i64 0, .slice none 0 0, .string s]] w fun e w' => e = .returned (.bool true) ∧ Ext w w' := by
  go_enter Tryz.func123, Tryz.ntmps123
  go_wp2
  go_ret
  exact ⟨by simp; omega, (Ext.alloc _ _).trans (Ext.alloc _ _)⟩
theorem btext_size (s : ByteArray) (w : World) : Calls Tryz.prog 124 #[.agg #[], .agg #[.int .i64 2, .int .i64 0, .slice none 0 0, .string s]] w fun e w' => e = .returned (.int .i64 s.size) ∧ Ext w w' := by
  go_enter Tryz.func124, Tryz.ntmps124
  go_wp2
  go_ret
  exact ⟨rfl, (Ext.alloc _ _).trans (Ext.alloc _ _)⟩
theorem btext_words (n : Nat) (w : World) (hn : n ≤ 400) : Calls Tryz.prog 125 #[.agg #[], .int .i64 n] w fun e w' => e = .returned (.int .i64 (((n + 7) / 8 : Nat) : Int)) ∧ Ext w w' := by
  go_enter Tryz.func125, Tryz.ntmps125
  go_wp2
  go_ret
  refine ⟨?_, Ext.alloc _ _⟩
  show Ending.returned (.int .i64 (((n : Int) + 8 - 1) / 8)) = _
  congr 2
  omega
theorem may_str (s : ByteArray) (w : World) (hs : s.size ≤ 400) : Calls Tryz.prog 61 #[.agg #[.int .i64 2, .int .i64 0, .slice none 0 0, .string s]] w fun e w' => e = .returned (.bool true) ∧ Ext w w' := by
  have hm := m_may
  go_enter Tryz.func61, Tryz.ntmps61
  go_wp2_with fail
  refine (of_str _).mono ?_
  rintro e w1 ⟨rfl, rfl⟩
  go_wp2_with fail
  refine (btext_may s _ hs).mono ?_
  rintro e w1 ⟨rfl, hx⟩
  have HX := Lib.hid hx
  clear hx
  go_wp2
  go_ret
  exact ⟨rfl, (Ext.alloc _ _).trans HX.out⟩
theorem n_words (w : World) : (nilAhead (Tryz.prog.types.size + Made.depth) 147 (.agg #[]) "stockpot/object.words").run Tryz.prog w = .ok (some false) w := by kernel_rfl
/-- the check ahead of a method's call through an interface -/
theorem bquiet_nil_method {P : Program} {C : World → Prop} {a : Act} {o : Oper} {K : Act → Prop} (x : Operand) (ho : o.op = .nilCheck x) {name : String} {t : TypeId} {v : Value} {cap : Array Value} (hv : a.eval x = .func (.method name) #[.iface t v] cap)
    (hn : ∀ w, (nilAhead (P.types.size + Made.depth) t v name).run P w = .ok (some false) w) (hk : K (a.put o.dst (.func (.method name) #[.iface t v] cap))) : o.quiet P a C K :=
  ⟨_, fun w _ => by
    have h : (execOp a.eval o).run P w = .ok (.value (.func (.method name) #[.iface t v] cap)) w := by
      simp [execOp, ho, hv, hn]
    unfold Oper.quietAt
    rw [h]
    exact ⟨rfl, rfl⟩, hk⟩
theorem words_str (s : ByteArray) (w : World) (hs : s.size ≤ 400) : Calls Tryz.prog 44 #[.agg #[.int .i64 2, .int .i64 0, .slice none 0 0, .string s]] w fun e w' => e = .returned (.int .i64 (((1 + (s.size + 7) / 8 : Nat) : Nat) : Int)) ∧ Ext w w' := by
  go_enter Tryz.func44, Tryz.ntmps44
  go_wp2_with fail
  refine at_alloc1 fun W hE hS b0 => ?_
  refine (may_str s _ hs).mono ?_
  rintro e w1 ⟨rfl, hx⟩
  have hb1 := (Below.block hx w.heap.size (by omega)).trans b0
  have HX := Lib.hid (hE.trans hx)
  clear hx hE hS b0
  obtain ⟨x0, x1, x2, x3⟩ := cells4 hb1
  clear hb1
  go_wp2_with fail
  refine (of_str _).mono ?_
  rintro e w2 ⟨rfl, rfl⟩
  go_wp2_with fail
  have r0 := fun d os => cell_regrown x0 d os
  have r1 := fun d os => cell_regrown x1 d os
  have r2 := fun d os => cell_regrown x2 d os
  have r3 := fun d os => cell_regrown x3 d os
  have cS := fun d os => quiet_ext (btext_size s (Go.Sort.grow (redrawn w1 d) os))
  have cW := fun d os => quiet_ext (btext_words s.size (Go.Sort.grow (redrawn w1 d) os) hs)
  have hm1 := m_size
  have hm2 := m_words
  have CS := Lib.hid cS; have CW := Lib.hid cW
  clear cS cW x0 x1 x2 x3
  refine wp_region_quiet_below (by kernel_rfl) (by kernel_rfl) ?_
  repeat (first | go_big_quiet_step (first | exact CS.out _ _ | exact CW.out _ _) | quiet_step (first | exact CS.out _ _ | exact CW.out _ _))
  refine Go.BigFrame.wpQuiet_want (by rfl) (fun K hK => bquiet_nil_method (.tmp 14) rfl rfl n_words (hK _ ?_))
  clear hK K
  repeat (first | go_big_quiet_step (first | exact CS.out _ _ | exact CW.out _ _) | quiet_step (first | exact CS.out _ _ | exact CW.out _ _))
  refine wpQuiet_nil ?_
  intro _ hw'
  obtain ⟨⟨dq, osq⟩, hw''⟩ := hw'
  subst hw''
  have HXQ := Lib.hid (Ext.regrown w1 dq osq)
  clear r0 r1 r2 r3 hm1 hm2
  go_wp2
  go_ret
  refine ⟨?_, HX.out.trans HXQ.out⟩
  congr 2
end Go.Proofs.YtppkgfcobnknfaaGreatDoor
/- How many words a message takes: the program's, the reference's. -/
namespace Go.Proofs.YtppkgfcobnknfaaGreatDoor
open Go.RowKit
set_option maxHeartbeats 4000000
set_option maxRecDepth 100000
theorem goodC_kind {x : Cl} (h : goodC x = true) : x.kind = 0 ∨ x.kind = 1 ∨ x.kind = 2 := by
  unfold goodC at h
  by_cases h0 : x.kind = 0
  · exact .inl h0
  · by_cases h1 : x.kind = 1
    · exact .inr (.inl h1)
    · by_cases h2 : x.kind = 2
      · exact .inr (.inr h2)
      · rw [if_neg h0, if_neg h1, if_neg h2] at h; cases h
theorem words_cell (x : Cl) (w : World) (hg : goodC x = true) : Calls Tryz.prog 33 #[.agg #[.int .i64 x.kind, .int .i64 x.tag, .int .i64 x.n, .string x.text]] w fun e w' => e = .returned (.int .i64 (cw x)) ∧ Ext w w' := by
  rcases goodC_kind hg with h0 | h1 | h2
  · obtain ⟨k, t, n, s⟩ := x
    obtain rfl : k = 0 := h0
    have hc : cw ⟨0, t, n, s⟩ = 0 := rfl
    rw [hc]
    clear hg hc
    dsimp only
    go_enter Tryz.func33, Tryz.ntmps33
    go_wp2
    go_ret
    exact ⟨rfl, Ext.alloc _ _⟩
  · obtain ⟨q1, q2, q3, q4, q5⟩ := goodC_one hg h1
    obtain ⟨k, t, n, s⟩ := x
    obtain rfl : k = 1 := h1
    dsimp only at q1 q2 q3 q4 q5 ⊢
    have HC := Lib.hid (show ((cw ⟨1, t, n, s⟩ : Nat) : Int) = 1 + n by show ((1 + n.toNat : Nat) : Int) = 1 + n; omega)
    rw [HC.out]
    clear hg
    go_enter Tryz.func33, Tryz.ntmps33
    go_wp2
    go_ret
    exact ⟨rfl, Ext.alloc _ _⟩
  · obtain ⟨q1, q2, q3⟩ := goodC_two hg h2
    obtain ⟨k, t, n, s⟩ := x
    obtain rfl : k = 2 := h2
    dsimp only at q1 q2 q3 ⊢
    have HC := Lib.hid (show cw ⟨2, t, n, s⟩ = 1 + (s.size + 7) / 8 from rfl)
    rw [HC.out]
    clear hg
    go_enter Tryz.func33, Tryz.ntmps33
    go_wp2_with fail
    refine (words_str s _ q3).mono ?_
    rintro e w1 ⟨rfl, hx⟩
    have HX := Lib.hid ((Ext.alloc _ _).trans hx)
    clear hx
    go_wp2
    go_ret
    exact ⟨rfl, HX.out⟩
theorem words_msg {w : World} {v : Value} {M : List Cl} (h : MsgP w v M) (hg : goodM M = true) : Calls Tryz.prog 14 #[v] w fun e w' => e = .returned (.int .i64 (wsum M)) ∧ Ext w w' := by
  have H := Lib.hid h
  have HS := Lib.hid (fun k => (show wsum (M.take k) ≤ 5100 by
    have h1 := wsum_le (M.take k) (fun x hx => goodM_all hg x (List.mem_of_mem_take hx))
    have h2 := (goodM_len hg).2
    have h3 : (M.take k).length ≤ 100 := by rw [List.length_take]; omega
    omega))
  have HA := Lib.hid (goodM_all hg)
  obtain ⟨hl1, hl2⟩ := goodM_len hg
  obtain ⟨q, c, rfl, h1, h2, hc⟩ := RowsP.at h
  rw [List.length_map] at h1 H ⊢
  have HC := Lib.hid hc
  have HG := Lib.hid hg
  clear h hc hg
  unfold maxLen at h2
  go_enter Tryz.func14, Tryz.ntmps14
  go_wp2_with fail
  refine (good_msg H.out).mono ?_
  rw [HG.out]
  rintro e w1 ⟨rfl, hx⟩
  have HX := Lib.hid hx
  clear hx
  go_wp2_with fail
  go_loopw [3, 11] (fun n i wr => ∃ k : Nat, k ≤ M.length ∧ i = .int .i64 k ∧ n = .int .i64 (wsum (M.take k)) ∧ Ext w wr) (fun _ i _ => M.length - (Go.RowKit.intOf i).toNat)
  case atStart => exact ⟨0, by omega, rfl, rfl, HX.out⟩
  case round =>
    obtain ⟨k, hk, rfl, rfl, hx⟩ := hrel
    have HX2 := Lib.hid hx
    clear hx
    by_cases hlt : k < M.length
    · have hxk := List.getElem?_eq_getElem hlt
      generalize M[k] = x at hxk
      obtain ⟨b, off, rfl, hcell⟩ := HC.out k (celC x) (by rw [List.getElem?_map, hxk]; rfl)
      have y0 := HX2.out.cell (hcell 0 _ rfl); have y1 := HX2.out.cell (hcell 1 _ rfl); have y2 := HX2.out.cell (hcell 2 _ rfl); have y3 := HX2.out.cell (hcell 3 _ rfl)
      rw [Nat.add_zero] at y0
      have i1 : (k : Int) < (M.length : Int) := by omega
      have HT := Lib.hid (wsum_take hxk)
      have hgx := HA.out x (List.mem_of_getElem? hxk)
      have s1 := HS.out k
      have s2 := cw_le hgx
      have HW := Lib.hid (fun W => words_cell x W hgx)
      clear hcell hxk hgx
      generalize hA : wsum (M.take k) = A at *
      clear hA
      generalize hB : cw x = B2 at *
      clear hB
      obtain ⟨xk, xt, xn, xs⟩ := x
      dsimp only at y0 y1 y2 y3
      go_wp2_with fail
      refine (HW.out _).mono ?_
      rintro e w2 ⟨rfl, hx⟩
      have HX3 := Lib.hid (HX2.out.trans ((Ext.alloc _ _).trans hx))
      clear hx y0 y1 y2 y3
      go_wp2_with fail
      refine ⟨⟨k + 1, by omega, by go_num, by rw [HT.out]; go_num, HX3.out⟩, by simp [Go.RowKit.intOf]; omega⟩
    · obtain rfl : k = M.length := by omega
      have s1 := HS.out M.length
      rw [List.take_length] at s1 ⊢
      generalize hA : wsum M = A at *
      have HE := Lib.hid hA
      clear hA
      go_wp2_with fail
      go_ret
      exact ⟨by rw [HE.out]; rfl, HX2.out⟩
end Go.Proofs.YtppkgfcobnknfaaGreatDoor
/- How many words a message takes: the reference's. -/
namespace Go.Proofs.YtppkgfcobnknfaaGreatDoor
open Go.RowKit
set_option maxHeartbeats 4000000
set_option maxRecDepth 100000
theorem refmay_str (s : ByteArray) (w : World) (hs : s.size ≤ 400) : Calls Tryz.prog 60 #[.agg #[.int .i64 2, .int .i64 0, .slice none 0 0, .string s]] w fun e w' => e = .returned (.bool true) ∧ Ext w w' := by
  go_enter Tryz.func60, Tryz.ntmps60
  go_wp2
  go_ret
  exact ⟨by simp; omega, Ext.alloc _ _⟩
theorem refmay_row (t : Int) (q : Option Addr) (w : World) (ht : 0 ≤ t) (ht2 : t ≤ 255) (k : Nat) (hk : 1 ≤ k) (hk2 : k ≤ 8) : Calls Tryz.prog 60 #[.agg #[.int .i64 1, .int .i64 t, .slice q k k, .string ByteArray.empty]] w fun e w' => e = .returned (.bool true) ∧ Ext w w' := by
  go_enter Tryz.func60, Tryz.ntmps60
  go_wp2
  go_ret
  exact ⟨by simp, Ext.alloc _ _⟩
theorem refwords_str (s : ByteArray) (w : World) (hs : s.size ≤ 400) : Calls Tryz.prog 39 #[.agg #[.int .i64 2, .int .i64 0, .slice none 0 0, .string s]] w fun e w' => e = .returned (.int .i64 (((1 + (s.size + 7) / 8 : Nat) : Nat) : Int)) ∧ Ext w w' := by
  have hm := fun W => refmay_str s W hs
  have HM := Lib.hid hm
  clear hm
  go_enter Tryz.func39, Tryz.ntmps39
  go_wp2_with fail
  refine at_alloc1 fun W hE hS b0 => ?_
  refine (HM.out _).mono ?_
  rintro e w1 ⟨rfl, hx⟩
  have hb1 := (Below.block hx w.heap.size (by omega)).trans b0
  have HX := Lib.hid (hE.trans hx)
  clear hx hE hS b0
  obtain ⟨x0, x1, x2, x3⟩ := cells4 hb1
  clear hb1
  go_wp2
  go_ret
  refine ⟨?_, HX.out⟩
  show Ending.returned (.int .i64 (1 + ((s.size : Int) + 7) / 8)) = _
  congr 2
theorem refwords_row (t : Int) (q : Option Addr) (w : World) (ht : 0 ≤ t) (ht2 : t ≤ 255) (k : Nat) (hk : 1 ≤ k) (hk2 : k ≤ 8) : Calls Tryz.prog 39 #[.agg #[.int .i64 1, .int .i64 t, .slice q k k, .string ByteArray.empty]] w fun e w' => e = .returned (.int .i64 (((1 + k : Nat) : Nat) : Int)) ∧ Ext w w' := by
  have hm := fun W => refmay_row t q W ht ht2 k hk hk2
  have HM := Lib.hid hm
  clear hm
  go_enter Tryz.func39, Tryz.ntmps39
  go_wp2_with fail
  refine at_alloc1 fun W hE hS b0 => ?_
  refine (HM.out _).mono ?_
  rintro e w1 ⟨rfl, hx⟩
  have hb1 := (Below.block hx w.heap.size (by omega)).trans b0
  have HX := Lib.hid (hE.trans hx)
  clear hx hE hS b0
  obtain ⟨x0, x1, x2, x3⟩ := cells4 hb1
  clear hb1
  go_wp2
  go_ret
  refine ⟨?_, HX.out⟩
  show Ending.returned (.int .i64 (1 + (k : Int))) = _
  congr 2
theorem refobj_str (t n : Int) (s : ByteArray) (w : World) : Calls Tryz.prog 40 #[.agg #[.int .i64 2, .int .i64 t, .int .i64 n, .string s]] w fun e w' => e = .returned (.agg #[.int .i64 2, .int .i64 0, .slice none 0 0, .string s]) ∧ Ext w w' := by
  go_enter Tryz.func40, Tryz.ntmps40
  go_wp2
  have hc := cells4 (show ((w.alloc (.cells #[.int .i64 2, .int .i64 t, .int .i64 n, .string s] 51)).alloc (.cells #[.int .i64 2, .int .i64 0, .slice none 0 0, .string s] 56)).heap[w.heap.size + 1]? = _ from new_block (by simp))
  refine bodyPost_ret (v := .agg #[.int .i64 2, .int .i64 0, .slice none 0 0, .string s]) (by simp [results, Tryz.results40, go_sem, hc]) rfl ?_
  exact ⟨rfl, (Ext.alloc _ _).trans (Ext.alloc _ _)⟩
theorem bmk_u64s (k : Nat) (hk : k ≤ 1000000) (W : World) : (Instr.makeSlice 22 (.int .i64 k) (.int .i64 k)).run Tryz.prog W = .ok (.slice (some ⟨W.heap.size, 0, none⟩) k k) (W.alloc (.cells (madeCells #[.int .u64 0] k) 42)) := by
  obtain ⟨i0, hi, hz0, hz1, hz2⟩ := info_parts (show (Tryz.prog.info? 42).map (fun i => (i.zero, i.size, i.bytes)) = some (some (.int .u64 0), 1, 8) by kernel_rfl)
  have h := run_makeSlice (P := Tryz.prog) (w := W) 22 42 i0 (.int .u64 0) Tryz.underlying22 hi hz0 .i64 .i64 (k : Int) (k : Int) (by omega) (by omega) (by rw [hz1]; omega) (by rw [hz2]; omega) (by omega)
  rw [hz1, Nat.mul_one] at h
  exact h
theorem refobj_row (t : Int) (k : Nat) (w : World) (hk : 1 ≤ k) (hk2 : k ≤ 8) : Calls Tryz.prog 40 #[.agg #[.int .i64 1, .int .i64 t, .int .i64 k, .string ByteArray.empty]] w fun e w' => ∃ q, e = .returned (.agg #[.int .i64 1, .int .i64 t, .slice q k k, .string ByteArray.empty]) ∧ Ext w w' := by
  go_enter Tryz.func40, Tryz.ntmps40
  have hms := bmk_u64s k (by omega)
  go_wp2_with fail
  go_region
  go_wp2
  have hc := cells4 (show (((w.alloc (.cells #[.int .i64 1, .int .i64 t, .int .i64 k, .string ByteArray.empty] 51)).alloc (.cells #[.int .i64 1, .int .i64 t, .slice (some ⟨w.heap.size + 1 + 1, 0, none⟩) k k, .string ByteArray.empty] 56)).alloc (.cells (madeCells #[.int .u64 0] k) 42)).drew.heap[w.heap.size + 1]? = some (.cells #[.int .i64 1, .int .i64 t, .slice (some ⟨w.heap.size + 1 + 1, 0, none⟩) k k, .string ByteArray.empty] 56 (0, 0)) from (Below.block (Ext.trans (Ext.alloc _ _) (Ext.drew _)) _ (by simp)).trans (new_block (by simp)))
  refine bodyPost_ret (v := .agg #[.int .i64 1, .int .i64 t, .slice (some ⟨w.heap.size + 1 + 1, 0, none⟩) k k, .string ByteArray.empty]) (by simp [results, Tryz.results40, go_sem]; rfl) rfl ?_
  exact ⟨_, rfl, (((Ext.alloc _ _).trans (Ext.alloc _ _)).trans (Ext.alloc _ _)).trans (Ext.drew _)⟩
end Go.Proofs.YtppkgfcobnknfaaGreatDoor
/- How many words a message takes: the reference's, of a whole one. -/
namespace Go.Proofs.YtppkgfcobnknfaaGreatDoor
open Go.RowKit
set_option maxHeartbeats 4000000
set_option maxRecDepth 100000
theorem refwords_msg {w : World} {v : Value} {M : List Cl} (h : MsgP w v M) (hg : goodM M = true) : Calls Tryz.prog 13 #[v] w fun e w' => e = .returned (.int .i64 (wsum M)) ∧ Ext w w' := by
  have HS := Lib.hid (fun k => (show wsum (M.take k) ≤ 5100 by
    have h1 := wsum_le (M.take k) (fun x hx => goodM_all hg x (List.mem_of_mem_take hx))
    have h2 := (goodM_len hg).2
    have h3 : (M.take k).length ≤ 100 := by rw [List.length_take]; omega
    omega))
  have HA := Lib.hid (goodM_all hg)
  obtain ⟨hl1, hl2⟩ := goodM_len hg
  obtain ⟨q, c, rfl, h1, h2, hc⟩ := RowsP.at h
  rw [List.length_map] at h1 ⊢
  have HC := Lib.hid hc
  clear h hc hg
  unfold maxLen at h2
  go_enter Tryz.func13, Tryz.ntmps13
  go_wp2_with fail
  go_loopw [3, 4] (fun n i wr => ∃ k : Nat, k ≤ M.length ∧ i = .int .i64 k ∧ n = .int .i64 (wsum (M.take k)) ∧ Ext w wr) (fun _ i _ => M.length - (Go.RowKit.intOf i).toNat)
  case atStart => exact ⟨0, by omega, rfl, rfl, Ext.refl _⟩
  case round =>
    obtain ⟨k, hk, rfl, rfl, hx⟩ := hrel
    have HX2 := Lib.hid hx
    clear hx
    by_cases hlt : k < M.length
    · have hxk := List.getElem?_eq_getElem hlt
      generalize M[k] = x at hxk
      obtain ⟨b, off, rfl, hcell⟩ := HC.out k (celC x) (by rw [List.getElem?_map, hxk]; rfl)
      have y0 := HX2.out.cell (hcell 0 _ rfl); have y1 := HX2.out.cell (hcell 1 _ rfl); have y2 := HX2.out.cell (hcell 2 _ rfl); have y3 := HX2.out.cell (hcell 3 _ rfl)
      rw [Nat.add_zero] at y0
      have i1 : (k : Int) < (M.length : Int) := by omega
      have HT := Lib.hid (wsum_take hxk)
      have hgx := HA.out x (List.mem_of_getElem? hxk)
      have s1 := HS.out k
      clear hcell hxk
      generalize hA : wsum (M.take k) = A at *
      clear hA
      rcases goodC_kind hgx with h0 | h1 | h2
      · obtain ⟨xk, xt, xn, xs⟩ := x
        obtain rfl : xk = 0 := h0
        dsimp only at y0 y1 y2 y3
        have HW := Lib.hid (show cw ⟨0, xt, xn, xs⟩ = 0 from rfl)
        clear hgx
        go_wp2_with fail
        refine ⟨⟨k + 1, by omega, by go_num, by rw [HT.out, HW.out]; rfl, HX2.out⟩, by simp [Go.RowKit.intOf]; omega⟩
      · obtain ⟨q1, q2, q3, q4, q5⟩ := goodC_one hgx h1
        obtain ⟨xk, xt, xn, xs⟩ := x
        obtain rfl : xk = 1 := h1
        dsimp only at y0 y1 y2 y3 q1 q2 q3 q4 q5
        obtain rfl := bempty_of q1
        obtain ⟨m, rfl⟩ := Int.eq_ofNat_of_zero_le (show (0 : Int) ≤ xn by omega)
        have HW := Lib.hid (show cw ⟨1, xt, (m : Int), ByteArray.empty⟩ = 1 + m by show 1 + (m : Int).toNat = 1 + m; omega)
        clear hgx q1
        go_wp2_with fail
        refine (refobj_row xt m _ (by omega) (by omega)).mono ?_
        rintro e w1 ⟨q, rfl, hx1⟩
        have HX3 := Lib.hid (HX2.out.trans hx1)
        clear hx1 y0 y1 y2 y3
        go_wp2_with fail
        refine (refwords_row xt q _ q2 q3 m (by omega) (by omega)).mono ?_
        rintro e w2 ⟨rfl, hx1⟩
        have HX4 := Lib.hid (HX3.out.trans hx1)
        clear hx1
        go_wp2_with fail
        refine ⟨⟨k + 1, by omega, by go_num, by rw [HT.out, HW.out]; go_num, HX4.out⟩, by simp [Go.RowKit.intOf]; omega⟩
      · obtain ⟨q1, q2, q3⟩ := goodC_two hgx h2
        have s2 := cw_le hgx
        obtain ⟨xk, xt, xn, xs⟩ := x
        obtain rfl : xk = 2 := h2
        dsimp only at y0 y1 y2 y3 q1 q2 q3 s2
        subst q1 q2
        have hcw : cw ⟨2, 0, 0, xs⟩ = 1 + (xs.size + 7) / 8 := by simp [cw]
        obtain ⟨B2, HR, HB⟩ : ∃ B2 : Nat, (Hid (∀ W, Calls Tryz.prog 39 #[.agg #[.int .i64 2, .int .i64 0, .slice none 0 0, .string xs]] W fun e w' => e = .returned (.int .i64 (B2 : Int)) ∧ Ext W w')) ∧ cw ⟨2, 0, 0, xs⟩ = B2 := ⟨_, Lib.hid (fun W => refwords_str xs W q3), hcw⟩
        rw [HB] at s2
        have HW := Lib.hid HB
        clear hgx hcw HB
        go_wp2_with fail
        refine (refobj_str 0 0 xs _).mono ?_
        rintro e w1 ⟨rfl, hx1⟩
        have HX3 := Lib.hid (HX2.out.trans hx1)
        clear hx1 y0 y1 y2 y3
        go_wp2_with fail
        refine (HR.out _).mono ?_
        rintro e w2 ⟨rfl, hx1⟩
        have HX4 := Lib.hid (HX3.out.trans hx1)
        clear hx1
        go_wp2_with fail
        refine ⟨⟨k + 1, by omega, by go_num, by rw [HT.out, HW.out]; go_num, HX4.out⟩, by simp [Go.RowKit.intOf]; omega⟩
    · obtain rfl : k = M.length := by omega
      have s1 := HS.out M.length
      rw [List.take_length] at s1 ⊢
      generalize hA : wsum M = A at *
      have HE := Lib.hid hA
      clear hA
      go_wp2_with fail
      go_ret
      exact ⟨by rw [HE.out]; rfl, HX2.out⟩
end Go.Proofs.YtppkgfcobnknfaaGreatDoor
/- A message that may be: the reference's walk. -/
namespace Go.Proofs.YtppkgfcobnknfaaGreatDoor
open Go.RowKit
set_option maxHeartbeats 8000000
set_option maxRecDepth 100000
theorem refskip_is {w : World} {v : Value} {M : List Cl} (h : MsgP w v M) (hg : ∀ x ∈ M, goodC x = true) (hl : M.length ≤ 100) : Calls Tryz.prog 38 #[v, .int .i64 0] w fun e w' => e = .returned (.int .i64 (skp M 1 0)) ∧ Ext w w' := by
  obtain ⟨q, c, rfl, h1, h2, hc⟩ := RowsP.at h
  rw [List.length_map] at h1 ⊢
  have HC := Lib.hid hc
  have HA := Lib.hid hg
  clear h hc hg
  unfold maxLen at h2
  go_enter Tryz.func38, Tryz.ntmps38
  go_wp2_with fail
  go_loopw [1, 5] (fun a l wr => ∃ k lv : Nat, k ≤ M.length ∧ a = .int .i64 k ∧ l = .int .i64 lv ∧ skp M 1 0 = skp (M.drop k) lv k ∧ lv ≤ 1 + 8 * k ∧ Ext w wr) (fun a _ _ => M.length - (Go.RowKit.intOf a).toNat)
  case atStart => exact ⟨0, 1, by omega, rfl, rfl, rfl, by omega, Ext.refl _⟩
  case round =>
    obtain ⟨k, lv, hk, rfl, rfl, hn, ho, hx⟩ := hrel
    have HN := Lib.hid hn
    have HX := Lib.hid hx
    clear hn hx
    by_cases h0 : lv = 0
    · subst h0
      have HF := Lib.hid (show skp M 1 0 = (k : Int) by rw [HN.out]; cases M.drop k <;> rfl)
      go_wp2_with fail
      go_ret
      rw [HF.out]
      exact ⟨rfl, HX.out⟩
    · have n0 : (0 : Int) < (lv : Int) := by omega
      by_cases hlt : k < M.length
      · have hxk := List.getElem?_eq_getElem hlt
        generalize M[k] = x at hxk
        obtain ⟨b, off, rfl, hcell⟩ := HC.out k (celC x) (by rw [List.getElem?_map, hxk]; rfl)
        have y0 := HX.out.cell (hcell 0 _ rfl); have y2 := HX.out.cell (hcell 2 _ rfl)
        rw [Nat.add_zero] at y0
        have HD := Lib.hid (drop_cons hxk)
        have hgx := HA.out x (List.mem_of_getElem? hxk)
        have hw := wt_le hgx
        have i1 : (k : Int) < (M.length : Int) := by omega
        have HS := Lib.hid (show skp (x :: M.drop (k + 1)) lv k = skp (M.drop (k + 1)) (lv - 1 + wt x) (k + 1) by rw [skp, if_neg h0])
        clear hcell hxk
        by_cases hkd : x.kind = 1
        · obtain ⟨q1, q2, q3, q4, q5⟩ := goodC_one hgx hkd
          obtain ⟨xk, xt, xn, xs⟩ := x
          obtain rfl : xk = 1 := hkd
          dsimp only at y0 y2 q1 q2 q3 q4 q5
          have HW := Lib.hid (show wt ⟨1, xt, xn, xs⟩ = xn.toNat from rfl)
          clear hgx hw q1 h0
          go_wp2_with fail
          refine ⟨⟨k + 1, lv - 1 + xn.toNat, by omega, by go_num, by rw [show ((lv - 1 + xn.toNat : Nat) : Int) = (lv : Int) + xn - 1 by omega], ?_, by omega, HX.out⟩, by simp [Go.RowKit.intOf]; omega⟩
          rw [HN.out, HD.out, HS.out, HW.out]
        · obtain ⟨xk, xt, xn, xs⟩ := x
          dsimp only at y0 y2 hkd
          have nk : (xk == 1) = false := beq_false_of_ne hkd
          have HW := Lib.hid (show wt ⟨xk, xt, xn, xs⟩ = 0 by unfold wt; exact if_neg hkd)
          clear hgx hw hkd h0
          go_wp2_with fail
          refine ⟨⟨k + 1, lv - 1, by omega, by go_num, by rw [show ((lv - 1 : Nat) : Int) = (lv : Int) - 1 by omega], ?_, by omega, HX.out⟩, by simp [Go.RowKit.intOf]; omega⟩
          rw [HN.out, HD.out, HS.out, HW.out]
          rfl
      · obtain rfl : k = M.length := by omega
        have HF := Lib.hid (show skp M 1 0 = -1 by rw [HN.out, List.drop_length, skp, if_neg h0])
        clear h0
        go_wp2_with fail
        go_ret
        rw [HF.out]
        exact ⟨rfl, HX.out⟩
theorem refgood_msg {w : World} {v : Value} {M : List Cl} (h : MsgP w v M) : Calls Tryz.prog 12 #[v] w fun e w' => e = .returned (.bool (goodM M)) ∧ Ext w w' := by
  have HM := Lib.hid h
  obtain ⟨q, c, rfl, h1, h2, hc⟩ := RowsP.at h
  rw [List.length_map] at h1 HM ⊢
  have HC := Lib.hid hc
  clear h hc
  unfold maxLen at h2
  by_cases hl : M.length ≤ 100
  · by_cases hl0 : M.length = 0
    · have hg : goodM M = false := by rw [List.length_eq_zero_iff.1 hl0]; exact goodM_nil
      rw [hg]
      clear hg HM HC
      go_enter Tryz.func12, Tryz.ntmps12
      go_wp2
      go_ret
      exact ⟨rfl, Ext.refl _⟩
    have b0 : decide ((M.length : Int) < 1) = false := decide_eq_false (by omega)
    have b1 : decide (100 < (M.length : Int)) = false := decide_eq_false (by omega)
    go_enter Tryz.func12, Tryz.ntmps12
    go_wp2_with fail
    go_loopw [3] (fun i wr => ∃ k : Nat, k ≤ M.length ∧ i = .int .i64 k ∧ (∀ y ∈ M.take k, goodC y = true) ∧ Ext w wr) (fun i _ => M.length - (Go.RowKit.intOf i).toNat)
    case atStart => exact ⟨0, by omega, rfl, by simp, Ext.refl _⟩
    case round =>
      obtain ⟨k, hk, rfl, hn, hx⟩ := hrel
      have HN := Lib.hid hn
      have HX := Lib.hid hx
      clear hn hx
      by_cases hlt : k < M.length
      · have hxk := List.getElem?_eq_getElem hlt
        generalize M[k] = x at hxk
        obtain ⟨b, off, rfl, hcell⟩ := HC.out k (celC x) (by rw [List.getElem?_map, hxk]; rfl)
        have y0 := HX.out.cell (hcell 0 _ rfl); have y1 := HX.out.cell (hcell 1 _ rfl); have y2 := HX.out.cell (hcell 2 _ rfl); have y3 := HX.out.cell (hcell 3 _ rfl)
        rw [Nat.add_zero] at y0
        have i1 : (k : Int) < (M.length : Int) := by omega
        by_cases hg : goodC x = true
        · have HG2 := Lib.hid (show ∀ y ∈ M.take (k + 1), goodC y = true by
            intro y hy
            rw [List.take_add_one, hxk] at hy
            rcases List.mem_append.1 hy with hy | hy
            · exact HN.out y hy
            · simp at hy; rw [hy]; exact hg)
          clear hcell hxk
          rcases goodC_kind hg with h0 | h1 | h2
          · obtain ⟨p1, p2, p3⟩ := goodC_zero hg h0
            obtain ⟨xk, xt, xn, xs⟩ := x
            dsimp only at h0 p1 p2 p3 y0 y1 y2 y3
            subst h0 p1
            obtain rfl := bempty_of p3
            have e1 : (xn == wrapW xn) = true := beq_iff_eq.2 p2
            clear hg p2 p3
            go_upto_region 10 with fail
            refine wp_alloc1 fun W hE _ b0 => ?_
            obtain ⟨x0, x1, x2, x3⟩ := cells4 b0
            have r0 := fun d os => cell_regrown x0 d os
            have r1 := fun d os => cell_regrown x1 d os
            have r2 := fun d os => cell_regrown x2 d os
            have r3 := fun d os => cell_regrown x3 d os
            have cW := fun d os => quiet_same (refWrap_is xn (Go.Sort.grow (redrawn W d) os))
            have CW := Lib.hid cW
            have HE := Lib.hid (HX.out.trans hE)
            clear cW x0 x1 x2 x3 b0 hE y0 y1 y2 y3
            refine wp_region_quiet_below (by kernel_rfl) (by kernel_rfl) ?_
            repeat (first | go_big_quiet_step (exact CW.out _ _) | quiet_step (exact CW.out _ _))
            refine wpQuiet_nil ?_
            intro _ hw'
            obtain ⟨⟨dq, osq⟩, hw''⟩ := hw'
            subst hw''
            have HXQ := Lib.hid (HE.out.trans (Ext.regrown W dq osq))
            clear r0 r1 r2 r3
            go_wp2_with fail
            exact ⟨⟨k + 1, by omega, by go_num, HG2.out, HXQ.out⟩, by simp [Go.RowKit.intOf]; omega⟩
          · obtain ⟨q1, q2, q3, q4, q5⟩ := goodC_one hg h1
            obtain ⟨xk, xt, xn, xs⟩ := x
            dsimp only at h1 q1 q2 q3 q4 q5 y0 y1 y2 y3
            subst h1
            obtain rfl := bempty_of q1
            clear hg q1
            go_wp2_with fail
            exact ⟨⟨k + 1, by omega, by go_num, HG2.out, HX.out.trans (Ext.alloc _ _)⟩, by simp [Go.RowKit.intOf]; omega⟩
          · obtain ⟨q1, q2, q3⟩ := goodC_two hg h2
            obtain ⟨xk, xt, xn, xs⟩ := x
            dsimp only at h2 q1 q2 q3 y0 y1 y2 y3
            subst h2 q1 q2
            have b3 : decide ((xs.size : Int) ≤ 400) = true := decide_eq_true (by omega)
            clear hg q3
            go_wp2_with fail
            exact ⟨⟨k + 1, by omega, by go_num, HG2.out, HX.out.trans (Ext.alloc _ _)⟩, by simp [Go.RowKit.intOf]; omega⟩
        · have hgf : goodC x = false := by simpa using hg
          have HF := Lib.hid (show goodM M = false by
            cases hh : goodM M with
            | false => rfl
            | true => exact absurd (goodM_all hh x (List.mem_of_getElem? hxk)) hg)
          clear hcell hxk hg
          obtain ⟨xk, xt, xn, xs⟩ := x
          dsimp only at y0 y1 y2 y3
          by_cases h0 : xk = 0
          · subst h0
            unfold goodC at hgf
            dsimp only at hgf
            rw [if_pos rfl, decide_eq_false_iff_not] at hgf
            by_cases p1 : xt = 0
            · subst p1
              by_cases p3 : xs.size = 0
              · obtain rfl := bempty_of p3
                have e1 : (xn == wrapW xn) = false := beq_false_of_ne (fun p2 => hgf ⟨rfl, p2, rfl⟩)
                clear hgf p3
                go_upto_region 10 with fail
                refine wp_alloc1 fun W hE _ b0 => ?_
                obtain ⟨x0, x1, x2, x3⟩ := cells4 b0
                have r0 := fun d os => cell_regrown x0 d os
                have r1 := fun d os => cell_regrown x1 d os
                have r2 := fun d os => cell_regrown x2 d os
                have r3 := fun d os => cell_regrown x3 d os
                have cW := fun d os => quiet_same (refWrap_is xn (Go.Sort.grow (redrawn W d) os))
                have CW := Lib.hid cW
                have HE := Lib.hid (HX.out.trans hE)
                clear cW x0 x1 x2 x3 b0 hE y0 y1 y2 y3
                refine wp_region_quiet_below (by kernel_rfl) (by kernel_rfl) ?_
                repeat (first | go_big_quiet_step (exact CW.out _ _) | quiet_step (exact CW.out _ _))
                refine wpQuiet_nil ?_
                intro _ hw'
                obtain ⟨⟨dq, osq⟩, hw''⟩ := hw'
                subst hw''
                have HXQ := Lib.hid (HE.out.trans (Ext.regrown W dq osq))
                clear r0 r1 r2 r3
                go_wp2_with fail
                go_ret
                rw [HF.out]
                exact ⟨rfl, HXQ.out⟩
              · have e2 : xs.toList.isEmpty = false := by
                  cases hh : xs.toList.isEmpty with
                  | false => rfl
                  | true => exact absurd (bhsb xs |>.1 hh) p3
                clear hgf p3
                go_upto_region 10 with fail
                refine wp_alloc1 fun W hE _ b0 => ?_
                obtain ⟨x0, x1, x2, x3⟩ := cells4 b0
                have r0 := fun d os => cell_regrown x0 d os
                have r1 := fun d os => cell_regrown x1 d os
                have r2 := fun d os => cell_regrown x2 d os
                have r3 := fun d os => cell_regrown x3 d os
                have cW := fun d os => quiet_same (refWrap_is xn (Go.Sort.grow (redrawn W d) os))
                have CW := Lib.hid cW
                have HE := Lib.hid (HX.out.trans hE)
                clear cW x0 x1 x2 x3 b0 hE y0 y1 y2 y3
                refine wp_region_quiet_below (by kernel_rfl) (by kernel_rfl) ?_
                repeat (first | go_big_quiet_step (exact CW.out _ _) | quiet_step (exact CW.out _ _))
                refine wpQuiet_nil ?_
                intro _ hw'
                obtain ⟨⟨dq, osq⟩, hw''⟩ := hw'
                subst hw''
                have HXQ := Lib.hid (HE.out.trans (Ext.regrown W dq osq))
                clear r0 r1 r2 r3
                go_wp2_with fail
                go_ret
                rw [HF.out]
                exact ⟨rfl, HXQ.out⟩
            · have e1 : (xt == 0) = false := beq_false_of_ne p1
              clear hgf p1
              go_upto_region 10 with fail
              refine wp_alloc1 fun W hE _ b0 => ?_
              obtain ⟨x0, x1, x2, x3⟩ := cells4 b0
              have r0 := fun d os => cell_regrown x0 d os
              have r1 := fun d os => cell_regrown x1 d os
              have r2 := fun d os => cell_regrown x2 d os
              have r3 := fun d os => cell_regrown x3 d os
              have cW := fun d os => quiet_same (refWrap_is xn (Go.Sort.grow (redrawn W d) os))
              have CW := Lib.hid cW
              have HE := Lib.hid (HX.out.trans hE)
              clear cW x0 x1 x2 x3 b0 hE y0 y1 y2 y3
              refine wp_region_quiet_below (by kernel_rfl) (by kernel_rfl) ?_
              repeat (first | go_big_quiet_step (exact CW.out _ _) | quiet_step (exact CW.out _ _))
              refine wpQuiet_nil ?_
              intro _ hw'
              obtain ⟨⟨dq, osq⟩, hw''⟩ := hw'
              subst hw''
              have HXQ := Lib.hid (HE.out.trans (Ext.regrown W dq osq))
              clear r0 r1 r2 r3
              go_wp2_with fail
              go_ret
              rw [HF.out]
              exact ⟨rfl, HXQ.out⟩
          · have n0 : (xk == 0) = false := beq_false_of_ne h0
            by_cases h1 : xk = 1
            · subst h1
              unfold goodC at hgf
              dsimp only at hgf
              rw [if_neg (by omega), if_pos rfl, decide_eq_false_iff_not] at hgf
              clear h0
              by_cases q2 : 0 ≤ xt
              · by_cases q3 : xt ≤ 255
                · by_cases q4 : 1 ≤ xn
                  · by_cases q5 : xn ≤ 8
                    · have e2 : xs.toList.isEmpty = false := by
                        cases hh : xs.toList.isEmpty with
                        | false => rfl
                        | true => exact absurd ⟨bhsb xs |>.1 hh, q2, q3, q4, q5⟩ hgf
                      clear hgf
                      go_wp2_with fail
                      go_ret
                      rw [HF.out]
                      exact ⟨rfl, HX.out.trans (Ext.alloc _ _)⟩
                    · clear hgf
                      go_wp2_with fail
                      go_ret
                      rw [HF.out]
                      exact ⟨rfl, HX.out.trans (Ext.alloc _ _)⟩
                  · clear hgf
                    go_wp2_with fail
                    go_ret
                    rw [HF.out]
                    exact ⟨rfl, HX.out.trans (Ext.alloc _ _)⟩
                · clear hgf
                  go_wp2_with fail
                  go_ret
                  rw [HF.out]
                  exact ⟨rfl, HX.out.trans (Ext.alloc _ _)⟩
              · clear hgf
                go_wp2_with fail
                go_ret
                rw [HF.out]
                exact ⟨rfl, HX.out.trans (Ext.alloc _ _)⟩
            · have n1 : (xk == 1) = false := beq_false_of_ne h1
              by_cases h2 : xk = 2
              · subst h2
                unfold goodC at hgf
                dsimp only at hgf
                rw [if_neg (by omega), if_neg (by omega), if_pos rfl, decide_eq_false_iff_not] at hgf
                clear h0 h1
                by_cases q1 : xt = 0
                · subst q1
                  by_cases q2 : xn = 0
                  · subst q2
                    have q3 : ¬ xs.size ≤ 400 := fun q3 => hgf ⟨rfl, rfl, q3⟩
                    have b3 : decide ((xs.size : Int) ≤ 400) = false := decide_eq_false (by omega)
                    clear hgf q3
                    go_wp2_with fail
                    go_ret
                    rw [HF.out]
                    exact ⟨rfl, HX.out.trans (Ext.alloc _ _)⟩
                  · have e2 : (xn == 0) = false := beq_false_of_ne q2
                    clear hgf q2
                    go_wp2_with fail
                    go_ret
                    rw [HF.out]
                    exact ⟨rfl, HX.out.trans (Ext.alloc _ _)⟩
                · have e1 : (xt == 0) = false := beq_false_of_ne q1
                  clear hgf q1
                  go_wp2_with fail
                  go_ret
                  rw [HF.out]
                  exact ⟨rfl, HX.out.trans (Ext.alloc _ _)⟩
              · have n2 : (xk == 2) = false := beq_false_of_ne h2
                clear hgf h0 h1 h2
                go_wp2_with fail
                go_ret
                rw [HF.out]
                exact ⟨rfl, HX.out.trans (Ext.alloc _ _)⟩
      · obtain rfl : k = M.length := by omega
        have HA := Lib.hid (show ∀ y ∈ M, goodC y = true by have := HN.out; rwa [List.take_length] at this)
        have HE := Lib.hid (show goodM M = (skp M 1 0 == (M.length : Int)) by
          have := skp_is M 1 0 HA.out
          rw [Nat.zero_add] at this
          rw [this]
          unfold goodM
          rw [decide_eq_true hl]
          rfl)
        have HK := Lib.hid (fun W hW => refskip_is (RowsP.ext HM.out (w' := W) hW) HA.out hl)
        generalize skp M 1 0 = sv at HK HE
        go_wp2_with fail
        refine (HK.out _ HX.out).mono ?_
        rintro e w1 ⟨rfl, hx1⟩
        have HX1 := Lib.hid (HX.out.trans hx1)
        clear hx1
        go_wp2_with fail
        go_ret
        rw [HE.out]
        exact ⟨rfl, HX1.out⟩
  · have b1 : (100 : Int) < (M.length : Int) := by omega
    have hg : goodM M = false := by unfold goodM; rw [decide_eq_false hl]; rfl
    rw [hg]
    clear hg hl HM HC
    go_enter Tryz.func12, Tryz.ntmps12
    go_wp2
    go_ret
    exact ⟨rfl, Ext.refl _⟩
end Go.Proofs.YtppkgfcobnknfaaGreatDoor
/- Small helpers of the statements: a message's size, its copy; are two alike; the list of 1 and a text. -/
namespace Go.Proofs.YtppkgfcobnknfaaGreatDoor
open Go.RowKit
set_option maxHeartbeats 4000000
set_option maxRecDepth 100000
theorem ECel : ElemT Tryz.prog 41 51 4 40 := ⟨Tryz.underlying41, ⟨.agg #[.int .i64 0, .int .i64 0, .int .i64 0, .string ByteArray.empty], by kernel_rfl, rfl⟩, by decide⟩
theorem celC_rows (M : List Cl) : Rows1 4 (M.map celC) := by
  intro l hl
  obtain ⟨x, _, rfl⟩ := List.mem_map.1 hl
  refine ⟨rfl, fun u hu => ?_⟩
  simp [celC] at hu
  rcases hu with rfl | rfl | rfl | rfl <;> rfl
theorem own_empty (W : World) (T : TypeId) : OwnP (W.alloc (.cells #[] T)) W.heap.size T (.slice (some ⟨W.heap.size, 0, none⟩) 0 0) 4 [] :=
  OwnP.of_form (l := []) (cap := 0) (cur := #[]) (Rows1.nil 4) (Nat.le_refl _) (heap_alloc_new _ _) (Nat.le_refl _) (Nat.zero_le _) rfl rfl
theorem large_msg {w : World} {v : Value} {M : List Cl} (h : MsgP w v M) : Calls Tryz.prog 10 #[v] w fun e w' => ∃ b, e = .returned (.bool b) ∧ (b = false → M.length ≤ 3000) ∧ w' = w := by
  obtain ⟨q, c, rfl, h1, h2, hc⟩ := RowsP.at h
  rw [List.length_map] at h1 ⊢
  have HC := Lib.hid hc
  clear h hc
  unfold maxLen at h2
  go_enter Tryz.func10, Tryz.ntmps10
  go_wp2_with fail
  go_loopw [3, 4] (fun n i wr => ∃ k m : Nat, k ≤ M.length ∧ i = .int .i64 k ∧ n = .int .i64 m ∧ k ≤ m ∧ m ≤ 6001 ∧ wr = w) (fun _ i _ => M.length - (Go.RowKit.intOf i).toNat)
  case atStart => exact ⟨0, 0, by omega, rfl, rfl, by omega, by omega, rfl⟩
  case round =>
    obtain ⟨k, m, hk, rfl, rfl, hm, hm2, rfl⟩ := hrel
    by_cases hlt : k < M.length
    · have i1 : (k : Int) < (M.length : Int) := by omega
      by_cases hs : m ≤ 3000
      · have hxk := List.getElem?_eq_getElem hlt
        generalize M[k] = x at hxk
        obtain ⟨b, off, rfl, hcell⟩ := HC.out k (celC x) (by rw [List.getElem?_map, hxk]; rfl)
        have y3 := hcell 3 _ rfl
        clear hcell hxk
        obtain ⟨xk, xt, xn, xs⟩ := x
        dsimp only at y3
        have b1 : decide ((m : Int) ≤ 3000) = true := decide_eq_true (by omega)
        by_cases ht : xs.size ≤ 3000
        · have hmin : min (xs.size : Int) 3000 = xs.size := by omega
          go_wp2_with fail
          refine ⟨⟨k + 1, m + (1 + xs.size), by omega, by go_num, by go_num, by omega, by omega, by first | rfl | trivial⟩, by simp [Go.RowKit.intOf]; omega⟩
        · have hmin : min (xs.size : Int) 3000 = 3000 := by omega
          go_wp2_with fail
          refine ⟨⟨k + 1, m + (1 + 3000), by omega, by go_num, by go_num, by omega, by omega, by first | rfl | trivial⟩, by simp [Go.RowKit.intOf]; omega⟩
      · have b1 : decide ((m : Int) ≤ 3000) = false := decide_eq_false (by omega)
        go_wp2_with fail
        go_ret
        exact ⟨_, rfl, fun hb => absurd (of_decide_eq_false hb) (by omega), rfl⟩
    · obtain rfl : k = M.length := by omega
      go_wp2_with fail
      go_ret
      exact ⟨_, rfl, fun hb => by have := of_decide_eq_false hb; omega, rfl⟩
theorem bone_is (w : World) : Calls Tryz.prog 21 #[] w fun e w' => ∃ v', e = .returned v' ∧ OwnP w' w.heap.size 51 v' 4 ([⟨1, 1, 2, ByteArray.empty⟩, ⟨0, 0, 1, ByteArray.empty⟩, ⟨1, 1, 2, ByteArray.empty⟩, ⟨2, 0, 0, ⟨#[97, 98]⟩⟩, ⟨0, 0, 0, ByteArray.empty⟩].map celC) ∧ Ext w w' := by
  go_enter Tryz.func21, Tryz.ntmps21
  go_wp2
  go_ret
  refine ⟨_, rfl, OwnP.of_form (l := List.map celC _) (cap := 5) (celC_rows _) (Nat.le_refl _) (heap_alloc_new _ _) (by simp) (by unfold maxLen; omega) (by rfl) (by rfl), Ext.alloc _ _⟩
theorem msg_true {w : World} {va vb : Value} {M : List Cl} (ha : MsgP w va M) (hb : MsgP w vb M) : Calls Tryz.prog 16 #[va, vb] w fun e w' => e = .returned (.bool true) ∧ Ext w w' := by
  obtain ⟨q, c, rfl, h1, h2, hc⟩ := RowsP.at ha
  obtain ⟨q', c', rfl, h1', h2', hc'⟩ := RowsP.at hb
  rw [List.length_map] at h1 h1' ⊢
  have HC := Lib.hid hc
  have HC' := Lib.hid hc'
  clear ha hb hc hc'
  unfold maxLen at h2 h2'
  go_enter Tryz.func16, Tryz.ntmps16
  go_wp2_with fail
  go_loopw [5] (fun i wr => ∃ k : Nat, k ≤ M.length ∧ i = .int .i64 k ∧ Ext w wr) (fun i _ => M.length - (Go.RowKit.intOf i).toNat)
  case atStart => exact ⟨0, by omega, rfl, Ext.refl _⟩
  case round =>
    obtain ⟨k, hk, rfl, hx⟩ := hrel
    have HX := Lib.hid hx
    clear hx
    by_cases hlt : k < M.length
    · have hxk := List.getElem?_eq_getElem hlt
      generalize M[k] = x at hxk
      obtain ⟨b, off, rfl, hcell⟩ := HC.out k (celC x) (by rw [List.getElem?_map, hxk]; rfl)
      obtain ⟨b', off', rfl, hcell'⟩ := HC'.out k (celC x) (by rw [List.getElem?_map, hxk]; rfl)
      have y0 := HX.out.cell (hcell 0 _ rfl); have y1 := HX.out.cell (hcell 1 _ rfl); have y2 := HX.out.cell (hcell 2 _ rfl); have y3 := HX.out.cell (hcell 3 _ rfl)
      have z0 := HX.out.cell (hcell' 0 _ rfl); have z1 := HX.out.cell (hcell' 1 _ rfl); have z2 := HX.out.cell (hcell' 2 _ rfl); have z3 := HX.out.cell (hcell' 3 _ rfl)
      rw [Nat.add_zero] at y0 z0
      have i1 : (k : Int) < (M.length : Int) := by omega
      clear hcell hcell' hxk
      obtain ⟨xk, xt, xn, xs⟩ := x
      dsimp only at y0 y1 y2 y3 z0 z1 z2 z3
      go_wp2
      go_quiet (fail)
      go_wp2
      exact ⟨⟨k + 1, by omega, by go_num, HX.out.trans (Ext.drewN _ _)⟩, by simp [Go.RowKit.intOf]; omega⟩
    · obtain rfl : k = M.length := by omega
      go_wp2
      go_ret
      exact ⟨rfl, HX.out⟩
end Go.Proofs.YtppkgfcobnknfaaGreatDoor
/- layer.word: a cell's word. -/
namespace Go.Proofs.YtppkgfcobnknfaaGreatDoor
open Go.RowKit Arena
set_option maxHeartbeats 8000000
set_option maxRecDepth 100000
/-- a layer: its message, where each cell's object is to stand, the row of objects -/
structure LayerAt (w : World) (lb ab tb : Nat) (qm : Option Addr) (cm : Nat) (M : List Cl) (t : Nat) : Prop where
  blk : w.heap[lb]? = some (.cells #[.slice qm M.length cm, .slice (some ⟨ab, 0, none⟩) M.length M.length, .slice (some ⟨tb, 0, none⟩) M.length M.length] 81 (0, 0))
  msg : RowsP w (.slice qm M.length cm) 4 (M.map celC)
  at_ : ∀ k c, M[k]? = some c → w.cell? ⟨ab, k, none⟩ = some (.int .i64 ((posN M t k : Nat) : Int))
theorem LayerAt.ext {w w' : World} {lb ab tb : Nat} {qm : Option Addr} {cm : Nat} {M : List Cl} {t : Nat} (h : LayerAt w lb ab tb qm cm M t) (e : Ext w w') : LayerAt w' lb ab tb qm cm M t :=
  ⟨(Below.block e lb (Array.getElem?_eq_some_iff.1 h.blk).1).trans h.blk, h.msg.ext e, fun k c hc => e.cell (h.at_ k c hc)⟩
theorem MsgP.cells {w : World} {qm : Option Addr} {cm : Nat} {M : List Cl} (h : RowsP w (.slice qm M.length cm) 4 (M.map celC)) {k : Nat} {c : Cl} (hc : M[k]? = some c) : ∃ b off, qm = some ⟨b, off, none⟩ ∧ w.cell? ⟨b, off + k * 4, none⟩ = some (.int .i64 c.kind) ∧ w.cell? ⟨b, off + k * 4 + 1, none⟩ = some (.int .i64 c.tag) ∧ w.cell? ⟨b, off + k * 4 + 2, none⟩ = some (.int .i64 c.n) ∧ w.cell? ⟨b, off + k * 4 + 3, none⟩ = some (.string c.text) := by
  obtain ⟨q, c', hv, -, -, hcell⟩ := h.at
  obtain ⟨b, off, hq, hcc⟩ := hcell k (celC c) (by rw [List.getElem?_map, hc]; rfl)
  obtain ⟨e, -, -⟩ := Value.slice.inj hv
  exact ⟨b, off, by rw [e, hq], hcc 0 _ rfl, hcc 1 _ rfl, hcc 2 _ rfl, hcc 3 _ rfl⟩
theorem lword_is {w : World} {lb ab tb : Nat} {qm : Option Addr} {cm : Nat} {M : List Cl} {t : Nat} (h : LayerAt w lb ab tb qm cm M t) {k : Nat} {c : Cl} (hc : M[k]? = some c) (hb : posN M t k ≤ 100000) :
    Calls Tryz.prog 36 #[.pointer (some ⟨lb, 0, none⟩), .int .i64 k] w fun e w' => e = .returned (.int .u64 (wdC M t k)) ∧ w = w' := by
  obtain ⟨b, off, rfl, y0, y1, y2, y3⟩ := MsgP.cells h.msg hc
  obtain ⟨l0, l1, l2⟩ := cells3 h.blk
  have a0 := h.at_ k c hc
  have i1 : (k : Int) < (M.length : Int) := by have := (List.getElem?_eq_some_iff.1 hc).1; omega
  by_cases h0 : c.kind = 0
  · rw [wdC_num hc h0]
    have t0 : (c.kind == 0) = true := beq_iff_eq.2 h0
    clear h hc h0
    go_enter Tryz.func36, Tryz.ntmps36
    go_wp2_with fail
    refine (wint_is _ _).mono ?_
    rintro e w1 ⟨rfl, rfl⟩
    go_wp2_with fail
    go_ret
    exact ⟨rfl, rfl⟩
  · rw [wdC_place hc h0]
    have t0 : (c.kind == 0) = false := beq_false_of_ne h0
    have HP := Lib.hid (fun W => place_is (n := posN M t k) (by omega) W)
    clear h hc h0
    go_enter Tryz.func36, Tryz.ntmps36
    go_wp2_with fail
    refine (HP.out _).mono ?_
    rintro e w1 ⟨rfl, rfl⟩
    go_wp2_with fail
    go_ret
    exact ⟨rfl, rfl⟩
end Go.Proofs.YtppkgfcobnknfaaGreatDoor
/- layer.whole: a whole's objects. -/
namespace Go.Proofs.YtppkgfcobnknfaaGreatDoor
open Go.RowKit Arena
set_option maxHeartbeats 8000000
set_option maxRecDepth 100000
theorem keep2x {w w' : World} {a : Addr} {u : Value} (h : w.cell? a = some u) (f : w.frozen? a = false) (e : Ext w w') : w'.cell? a = some u ∧ w'.frozen? a = false := ⟨e.cell h, (e.frozen h).trans f⟩
/-- the row of objects, as a block -/
def ToAt (w : World) (tb N : Nat) : Prop := ∃ cur, w.heap[tb]? = some (.cells cur 56 (0, 0)) ∧ cur.size = N * 4
theorem ToAt.lt {w : World} {tb N : Nat} (h : ToAt w tb N) : tb < w.heap.size := by obtain ⟨_, h, _⟩ := h; exact (Array.getElem?_eq_some_iff.1 h).1
theorem ToAt.stays {w w' : World} {tb N : Nat} (h : ToAt w tb N) (hb : w'.heap[tb]? = w.heap[tb]?) : ToAt w' tb N := by obtain ⟨c, h1, h2⟩ := h; exact ⟨c, hb.trans h1, h2⟩
theorem ToAt.turn {w w' : World} {tb N : Nat} {bs : List Nat} (h : ToAt w tb N) (t : Turn bs w w') (hb : tb ∉ bs) : ToAt w' tb N := h.stays (t.block tb h.lt hb)
/-- an object in it; P: which block its fields may have -/
def ObAt (w : World) (tb : Nat) (P : Nat → Prop) (j : Nat) (o : Ob) : Prop := ∃ q c, w.cell? ⟨tb, j * 4, none⟩ = some (.int .i64 o.kind) ∧ w.cell? ⟨tb, j * 4 + 1, none⟩ = some (.int .i64 o.tag) ∧ w.cell? ⟨tb, j * 4 + 2, none⟩ = some (.slice q o.fields.length c) ∧
  w.cell? ⟨tb, j * 4 + 3, none⟩ = some (.string o.text) ∧ OwnP w 0 42 (.slice q o.fields.length c) 1 (o.fields.map wordC) ∧ ∀ b, (Value.slice q o.fields.length c).ownBlock = some b → P b
theorem ObAt.mono {w : World} {tb j : Nat} {P Q : Nat → Prop} {o : Ob} (h : ObAt w tb P j o) (hp : ∀ b, b < w.heap.size → P b → Q b) : ObAt w tb Q j o := by
  obtain ⟨q, c, h0, h1, h2, h3, h4, h5⟩ := h
  exact ⟨q, c, h0, h1, h2, h3, h4, fun b hb => hp b (h4.own b hb).2 (h5 b hb)⟩
/-- cells of a row stay -/
def RowSame (w w' : World) (tb j : Nat) : Prop := ∀ f, f < 4 → w'.cell? ⟨tb, j * 4 + f, none⟩ = w.cell? ⟨tb, j * 4 + f, none⟩
theorem RowSame.refl (w : World) (tb j : Nat) : RowSame w w tb j := fun _ _ => rfl
theorem RowSame.trans {a b c : World} {tb j : Nat} (h : RowSame a b tb j) (k : RowSame b c tb j) : RowSame a c tb j := fun f hf => (k f hf).trans (h f hf)
theorem RowSame.of_block {w w' : World} {tb j : Nat} (h : w'.heap[tb]? = w.heap[tb]?) : RowSame w w' tb j := fun f _ => by simp [World.cell?, h]
theorem ObAt.same {w w' : World} {tb j : Nat} {P : Nat → Prop} {o : Ob} (h : ObAt w tb P j o) (s : RowSame w w' tb j) (ho : ∀ b, b < w.heap.size → P b → w'.heap[b]? = w.heap[b]?) : ObAt w' tb P j o := by
  obtain ⟨q, c, h0, h1, h2, h3, h4, h5⟩ := h
  exact ⟨q, c, (s 0 (by omega)).trans h0, (s 1 (by omega)).trans h1, (s 2 (by omega)).trans h2, (s 3 (by omega)).trans h3, h4.stays (fun b hb hl => ho b hl (h5 b hb)), h5⟩
/-- what whole leaves: from a cell on, up to another one -/
structure Laid (M : List Cl) (t : Nat) (w w' : World) (tb : Nat) (P : Nat → Prop) (k e : Nat) : Prop where
  row : ToAt w' tb M.length
  obs : ∀ j c, k ≤ j → j < e → M[j]? = some c → ObAt w' tb P j (obC M t j c)
  same : ∀ j, j < k ∨ e ≤ j → RowSame w w' tb j
  turn : Turn [tb] w w'
theorem Laid.step {M : List Cl} {t : Nat} {w a b : World} {tb k e e' : Nat} {P Q R : Nat → Prop} (h : Laid M t w a tb P k e) (g : Laid M t a b tb Q e e') (hP : ∀ b, b < a.heap.size → P b → b ≠ tb ∧ R b) (hQ : ∀ x, x < b.heap.size → Q x → R x) (h1 : k ≤ e) (h2 : e ≤ e') : Laid M t w b tb R k e' := by
  refine ⟨g.row, fun j c hj hje hc => ?_, fun j hj => (h.same j (by omega)).trans (g.same j (by omega)), h.turn.trans g.turn⟩
  by_cases hlt : j < e
  · exact ((h.obs j c hj hlt hc).mono (Q := fun b => b ≠ tb ∧ R b) hP).same (g.same j (.inl hlt)) (fun b hb hp => g.turn.block b hb (by simpa using hp.1)) |>.mono (fun b _ hb => hb.2)
  · exact (g.obs j c (by omega) hje hc).mono hQ
def WholeSaid (M : List Cl) (t : Nat) (w : World) (tb k : Nat) (e : Ending) (w' : World) : Prop := e = .returned (.int .i64 (nxt M k : Nat)) ∧ Laid M t w w' tb (fun b => w.heap.size ≤ b) k (nxt M k)
theorem Turn.sub1 {b c : Nat} {w w' : World} (h : Turn [b, c] w w') (hc : w.heap.size ≤ c) : Turn [b] w w' := Turn.sub h (fun x hx => by simp at hx; rcases hx with rfl | rfl; exact .inl (by simp); exact .inr hc)
/-- what is known of a layer, whatever is done to the row of objects -/
def LayStay (w : World) (lb ab tb : Nat) (qm : Option Addr) (cm : Nat) (M : List Cl) (t : Nat) : Prop := ∀ W, Turn [tb] w W → LayerAt W lb ab tb qm cm M t
/-- an object stored whole into the row -/
structure Put4 (w w' : World) (tb N k : Nat) (v0 v1 v2 v3 : Value) : Prop where
  row : ToAt w' tb N
  c0 : w'.cell? ⟨tb, k * 4, none⟩ = some v0
  c1 : w'.cell? ⟨tb, k * 4 + 1, none⟩ = some v1
  c2 : w'.cell? ⟨tb, k * 4 + 2, none⟩ = some v2
  c3 : w'.cell? ⟨tb, k * 4 + 3, none⟩ = some v3
  same : ∀ j, j ≠ k → RowSame w w' tb j
  turn : Turn [tb] w w'
theorem put4 {W : World} {tb N k : Nat} {cur : Array Value} (hcur : W.heap[tb]? = some (.cells cur 56 (0, 0))) (hsz : cur.size = N * 4) (hk : k < N) (v0 v1 v2 v3 : Value) :
    Put4 W ((((W.setCell ⟨tb, k * 4, none⟩ v0).setCell ⟨tb, k * 4 + 1, none⟩ v1).setCell ⟨tb, k * 4 + 2, none⟩ v2).setCell ⟨tb, k * 4 + 3, none⟩ v3).drew tb N k v0 v1 v2 v3 := by
  have t0 := fill1 (i := k * 4) hcur v0
  have t1 := fill1 (i := k * 4 + 1) t0.1 v1
  have t2 := fill1 (i := k * 4 + 2) t1.1 v2
  have t3 := fill1 (i := k * 4 + 3) t2.1 v3
  have ht : Turn [tb] W ((((W.setCell ⟨tb, k * 4, none⟩ v0).setCell ⟨tb, k * 4 + 1, none⟩ v1).setCell ⟨tb, k * 4 + 2, none⟩ v2).setCell ⟨tb, k * 4 + 3, none⟩ v3).drew := (((t0.2.1.trans t1.2.1).trans t2.2.1).trans t3.2.1).trans (Turn.of_ext (Ext.drew _))
  have hb := (Below.block (Ext.drew _) tb (Array.getElem?_eq_some_iff.1 t3.1).1).trans t3.1
  generalize ((((W.setCell ⟨tb, k * 4, none⟩ v0).setCell ⟨tb, k * 4 + 1, none⟩ v1).setCell ⟨tb, k * 4 + 2, none⟩ v2).setCell ⟨tb, k * 4 + 3, none⟩ v3).drew = W' at *
  have hl : k * 4 + 3 < cur.size := by omega
  refine ⟨⟨_, hb, by simp; exact hsz⟩, ?_, ?_, ?_, ?_, fun j hj f hf => ?_, ht⟩
  · refine cell_at hb ?_
    simp only [Array.getElem?_setIfInBounds, Array.size_setIfInBounds]
    simp
    omega
  · refine cell_at hb ?_
    simp only [Array.getElem?_setIfInBounds, Array.size_setIfInBounds]
    simp
    omega
  · refine cell_at hb ?_
    simp only [Array.getElem?_setIfInBounds, Array.size_setIfInBounds]
    simp
    omega
  · refine cell_at hb ?_
    simp only [Array.getElem?_setIfInBounds, Array.size_setIfInBounds]
    simp
    omega
  · have e : W'.cell? ⟨tb, j * 4 + f, none⟩ = ((((cur.setIfInBounds (k * 4) v0).setIfInBounds (k * 4 + 1) v1).setIfInBounds (k * 4 + 2) v2).setIfInBounds (k * 4 + 3) v3)[j * 4 + f]? := by simp [World.cell?, hb]
    have e2 : W.cell? ⟨tb, j * 4 + f, none⟩ = cur[j * 4 + f]? := by simp [World.cell?, hcur]
    rw [e, e2]
    simp only [Array.getElem?_setIfInBounds]
    rw [if_neg (by omega), if_neg (by omega), if_neg (by omega), if_neg (by omega)]
theorem whole_leaf {w : World} {lb ab tb : Nat} {qm : Option Addr} {cm : Nat} {M : List Cl} {t k : Nat} {c : Cl} (HL : LayStay w lb ab tb qm cm M t) (hT : ToAt w tb M.length) (hc : M[k]? = some c) (h1 : c.kind ≠ 1) (hn : nxt M k = k + 1) (hl : M.length ≤ 1000) :
    Calls Tryz.prog 34 #[.pointer (some ⟨lb, 0, none⟩), .int .i64 k] w (WholeSaid M t w tb k) := by
  have hLA := HL w (Turn.refl _ _)
  obtain ⟨b, off, hqm, y0, y1, y2, y3⟩ := MsgP.cells hLA.msg hc
  obtain ⟨l0, l1, l2⟩ := cells3 hLA.blk
  have i1 : (k : Int) < (M.length : Int) := by have := (List.getElem?_eq_some_iff.1 hc).1; omega
  have t0 : (c.kind == 1) = false := beq_false_of_ne h1
  have HT := Lib.hid hT
  have HC := Lib.hid hc; have HN := Lib.hid hn; have H1 := Lib.hid h1
  have HLS := Lib.hid HL
  subst hqm
  have htl := hT.lt
  clear HL hLA hT hc hn h1
  obtain ⟨kd, tg, nn, tx⟩ := c
  dsimp only at *
  go_enter Tryz.func34, Tryz.ntmps34
  go_upto_region 3 with fail
  refine wp_alloc2 fun W hE hS b0 b1 => ?_
  obtain ⟨c0, c1, c2, c3⟩ := cells4 b0
  obtain ⟨o0, o1, o2, o3⟩ := cells4 b1
  have HX := Lib.hid hE
  have m2 := hE.cell l2
  clear b0 b1 l0 l1 l2 y0 y1 y2 y3
  go_upto_region 10 with fail
  obtain ⟨cur, hcur, hsz⟩ := (HT.out.turn (bs := []) (Turn.of_ext HX.out) (by simp))
  have hkM : k < M.length := by omega
  have hu : ∀ f, f < 4 → ∃ u, W.cell? ⟨tb, k * 4 + f, none⟩ = some u := fun f hf => by
    have hlt : k * 4 + f < cur.size := by omega
    exact ⟨cur[k * 4 + f], by simp [World.cell?, hcur, hlt]⟩
  obtain ⟨u0, z0⟩ := hu 0 (by omega); obtain ⟨u1, z1⟩ := hu 1 (by omega); obtain ⟨u2, z2⟩ := hu 2 (by omega); obtain ⟨u3, z3⟩ := hu 3 (by omega)
  rw [Nat.add_zero] at z0
  have zf : ∀ i, W.frozen? ⟨tb, i, none⟩ = false := fun i => free_at hcur
  have HCur := Lib.hid hcur
  clear hu hcur hE c0 c1 c2 c3
  refine wp_region_noPanic ?_
  refine wp_region_last 7 (S := (fun w' => w'.cell? ⟨lb, 2, none⟩ = some (.slice (some ⟨tb, 0, none⟩) M.length M.length) ∧ w'.cell? ⟨w.heap.size + 1, 0, none⟩ = some (.int .i64 kd) ∧ w'.cell? ⟨w.heap.size + 1, 1, none⟩ = some (.int .i64 tg) ∧ w'.cell? ⟨w.heap.size + 1, 2, none⟩ = some (.slice none 0 0) ∧ w'.cell? ⟨w.heap.size + 1, 3, none⟩ = some (.string tx))) (by kernel_rfl) (by kernel_rfl) _ rfl ?_ (fun hHeld => ?_)
  · (exact ⟨(Ext.drew _).cell m2, (Ext.drew _).cell o0, (Ext.drew _).cell o1, (Ext.drew _).cell o2, (Ext.drew _).cell o3⟩)
  simp only [List.take_succ_cons, List.take_zero]
  refine wpAnyH_take (i := 0) (v := ?v1) rfl (by kernel_rfl) (by kernel_rfl) (by kernel_rfl) (fun _ _ _ h => h) (Or.inl ⟨by rfl, ?y1⟩) (by assumption) ?r1
  case y1 => intro w hSw; (try dsimp only at hSw); go_simp; (try with_reducible rfl)
  (try simp only [Act.put, List.setIfInBounds_toArray, List.set_cons_zero, List.set_cons_succ, List.getElem_toArray, List.getElem_cons_zero, List.getElem_cons_succ])
  refine wpAnyH_take (i := 1) (v := ?v2) rfl (by kernel_rfl) (by kernel_rfl) (by kernel_rfl) (fun _ _ _ h => h) (Or.inl ⟨by rfl, ?y2⟩) (by assumption) ?r2
  case y2 => intro w hSw; (try dsimp only at hSw); go_simp; (try with_reducible rfl)
  (try simp only [Act.put, List.setIfInBounds_toArray, List.set_cons_zero, List.set_cons_succ, List.getElem_toArray, List.getElem_cons_zero, List.getElem_cons_succ])
  refine wpAnyH_take (i := 2) (v := ?v3) rfl (by kernel_rfl) (by kernel_rfl) (by kernel_rfl) (fun _ _ _ h => h) (Or.inl ⟨by rfl, ?y3⟩) (by assumption) ?r3
  case y3 => intro w hSw; (try dsimp only at hSw); go_simp; (try with_reducible rfl)
  (try simp only [Act.put, List.setIfInBounds_toArray, List.set_cons_zero, List.set_cons_succ, List.getElem_toArray, List.getElem_cons_zero, List.getElem_cons_succ])
  refine wpAnyH_take (i := 3) (v := ?v4) rfl (by kernel_rfl) (by kernel_rfl) (by kernel_rfl) (fun _ _ _ h => h) (Or.inl ⟨by rfl, ?y4⟩) (by assumption) ?r4
  case y4 => intro w hSw; (try dsimp only at hSw); go_simp; (try with_reducible rfl)
  (try simp only [Act.put, List.setIfInBounds_toArray, List.set_cons_zero, List.set_cons_succ, List.getElem_toArray, List.getElem_cons_zero, List.getElem_cons_succ])
  refine wpAnyH_take (i := 4) (v := ?v5) rfl (by kernel_rfl) (by kernel_rfl) (by kernel_rfl) (fun _ _ _ h => h) (Or.inl ⟨by rfl, ?y5⟩) (by assumption) ?r5
  case y5 => intro w hSw; (try dsimp only at hSw); go_simp; (try with_reducible rfl)
  (try simp only [Act.put, List.setIfInBounds_toArray, List.set_cons_zero, List.set_cons_succ, List.getElem_toArray, List.getElem_cons_zero, List.getElem_cons_succ])
  refine wpAnyH_take (i := 5) (v := ?v6) rfl (by kernel_rfl) (by kernel_rfl) (by kernel_rfl) (fun _ _ _ h => h) (Or.inl ⟨by rfl, ?y6⟩) (by assumption) ?r6
  case y6 => intro w hSw; (try dsimp only at hSw); go_simp; (try with_reducible rfl)
  (try simp only [Act.put, List.setIfInBounds_toArray, List.set_cons_zero, List.set_cons_succ, List.getElem_toArray, List.getElem_cons_zero, List.getElem_cons_succ])
  refine wpAnyH_take (i := 6) (v := ?v7) rfl (by kernel_rfl) (by kernel_rfl) (by kernel_rfl) (fun _ _ _ h => h) (Or.inl ⟨by rfl, ?y7⟩) (by assumption) ?r7
  case y7 => intro w hSw; (try dsimp only at hSw); go_simp; (try with_reducible rfl)
  (try simp only [Act.put, List.setIfInBounds_toArray, List.set_cons_zero, List.set_cons_succ, List.getElem_toArray, List.getElem_cons_zero, List.getElem_cons_succ])
  refine wpAnyH_done (by kernel_rfl) ?_ _
  show wpList _ _ _ _ _ _
  go_wp2
  refine NoPanic.normal ?_
  go_wp2
  have hp := put4 HCur.out hsz hkM (.int .i64 kd) (.int .i64 tg) (.slice none 0 0) (.string tx)
  go_ret
  refine ⟨by rw [HN.out]; rfl, ?_⟩
  have hT0 : Turn [tb] w _ := Turn.trans (Turn.of_ext HX.out) hp.turn
  have hR0 : ∀ j, RowSame w W tb j := fun j => RowSame.of_block (Below.block HX.out tb htl)
  rw [HN.out]
  refine ⟨hp.row, fun j c hj hje hc => ?_, fun j hj => (hR0 j).trans (hp.same j (by omega)), hT0⟩
  obtain rfl : j = k := by omega
  obtain rfl := Option.some.inj (hc.symm.trans HC.out)
  unfold obC
  dsimp only
  rw [if_neg H1.out]
  exact ⟨none, 0, hp.c0, hp.c1, hp.c2, hp.c3, OwnP.nil _ _ _ _, fun b hb => by simp [Value.ownBlock] at hb⟩
end Go.Proofs.YtppkgfcobnknfaaGreatDoor
/- layer.whole: a Block, and all beneath it. -/
namespace Go.Proofs.YtppkgfcobnknfaaGreatDoor
open Go.RowKit Arena
set_option maxHeartbeats 8000000
set_option maxRecDepth 100000
theorem LayStay.turn {w w' : World} {lb ab tb : Nat} {qm : Option Addr} {cm : Nat} {M : List Cl} {t : Nat} (h : LayStay w lb ab tb qm cm M t) (k : Turn [tb] w w') : LayStay w' lb ab tb qm cm M t := fun W e => h W (k.trans e)
theorem kids_snoc (M : List Cl) (k j : Nat) : kids M k (j + 1) = kids M k j ++ [endK M k j] := by rw [kids_add]; rfl
theorem endK_succ {M : List Cl} (k j : Nat) : endK M k (j + 1) = nxt M (endK M k j) := by
  induction j generalizing k with
  | zero => rfl
  | succ j ih => rw [endK, ih, ← endK]
theorem turn2 {bs cs : List Nat} {a b c : World} (h : Turn bs a b) (k : Turn cs b c) (hc : ∀ _x ∈ cs, a.heap.size ≤ _x) : Turn bs a c :=
  Turn.sub (cs := bs) ((h.mono (fun _x hx => List.mem_append_left cs hx)).trans (k.mono (fun _x hx => List.mem_append_right bs hx))) (fun _x hx => (List.mem_append.1 hx).elim .inl (fun h => .inr (hc _x h)))
theorem whole_is {lb ab tb : Nat} {qm : Option Addr} {cm : Nat} {M : List Cl} {t : Nat} (hM : goodM M = true) (hb : t ≤ 10000) : ∀ (s k o : Nat) (w : World), At M k (o + 1) → M.length ≤ k + s → LayStay w lb ab tb qm cm M t → ToAt w tb M.length →
    Calls Tryz.prog 34 #[.pointer (some ⟨lb, 0, none⟩), .int .i64 k] w (WholeSaid M t w tb k) := by
  intro s
  induction s with
  | zero =>
    intro k o w hA hs
    obtain ⟨x, hx, _⟩ := hA.cell
    have := (List.getElem?_eq_some_iff.1 hx).1
    omega
  | succ s ih =>
    intro k o w hA hs HL hT
    have hlen := (goodM_len hM).2
    obtain ⟨c, hc, hg, hN⟩ := hA.cell
    by_cases h1 : c.kind = 1
    rotate_left
    · exact whole_leaf HL hT hc h1 (nxt_leaf hc (wt_leaf h1)) (by omega)
    obtain ⟨g1, g2, g3, g4, g5⟩ := goodC_one hg h1
    have hw := wt_block h1
    obtain ⟨n, hn⟩ : ∃ n : Nat, c.n = (n : Int) := ⟨c.n.toNat, by omega⟩
    rw [hw, hn, Int.toNat_natCast, Nat.add_comm o] at hN
    have hnk := nxt_blk hc (o := o) (by rw [hw, hn, Int.toNat_natCast]; exact hN)
    rw [hw, hn, Int.toNat_natCast] at hnk
    have IH := Lib.hid ih
    have HLA := HL w (Turn.refl _ _)
    obtain ⟨b, off, hqm, y0, y1, y2, y3⟩ := MsgP.cells HLA.msg hc
    obtain ⟨l0, l1, l2⟩ := cells3 HLA.blk
    have i1 : (k : Int) < (M.length : Int) := by have := (List.getElem?_eq_some_iff.1 hc).1; omega
    have HT := Lib.hid hT; have HC := Lib.hid hc; have HN := Lib.hid hN; have HNK := Lib.hid hnk; have HLS := Lib.hid HL
    have HSum := Lib.hid (goodM_sum hM)
    subst hqm
    have htl := hT.lt
    have hkM : k < M.length := by omega
    have hn8 : 1 ≤ n ∧ n ≤ 8 := by omega
    clear ih HL HLA hT hA hN hnk hw g1 g2 g3 g4 g5 hg
    obtain ⟨kd, tg, nn, tx⟩ := c
    dsimp only at *
    subst h1
    subst hn
    go_enter Tryz.func34, Tryz.ntmps34
    go_upto_region 3 with fail
    refine wp_alloc2 fun W hE hS b0 b1 => ?_
    obtain ⟨c0, c1, c2, c3⟩ := cells4 b0
    have HX := Lib.hid hE
    have HO := Lib.hid b1
    clear b0 b1 l0 l1 l2 y0 y1 y2 y3
    go_upto_block 6 with fail
    clear c0 c1 c2 c3 hE
    go_loopw [7, 29] (fun nx i wr => ∃ (j : Nat) (q : Option Addr) (cc : Nat), j ≤ n ∧ i = .int .i64 j ∧ nx = .int .i64 ((endK M (k + 1) j : Nat) : Int) ∧ At M (endK M (k + 1) j) (n - j + o) ∧ k + 1 ≤ endK M (k + 1) j ∧
      wr.heap[w.heap.size + 1]? = some (.cells #[.int .i64 1, .int .i64 tg, .slice q j cc, .string tx] 56 (0, 0)) ∧
      OwnP wr (w.heap.size + 1 + 1) 42 (.slice q j cc) 1 (((kids M (k + 1) j).map (wdC M t)).map wordC) ∧
      Laid M t w wr tb (fun b => w.heap.size + 1 + 1 ≤ b ∧ (Value.slice q j cc).ownBlock ≠ some b) (k + 1) (endK M (k + 1) j) ∧ w.heap.size + 1 + 1 ≤ wr.heap.size) (fun _ i _ => n - (Go.RowKit.intOf i).toNat)
    case atStart =>
      refine ⟨0, none, 0, by omega, rfl, rfl, by rw [Nat.sub_zero]; exact HN.out, Nat.le_refl _, HO.out, OwnP.nil _ _ _ _, ⟨HT.out.turn (bs := []) (Turn.of_ext HX.out) (by simp), fun j c hj hje => absurd hje (by simp only [endK]; omega), fun j _ => RowSame.of_block (Below.block HX.out tb htl), Turn.of_ext HX.out⟩, by omega⟩
    case round =>
      obtain ⟨j, q, cc, hj, rfl, rfl, hA, hge, ho, hown, hld, hsz⟩ := hrel
      have HA := Lib.hid hA; have HOw := Lib.hid hown; have HLd := Lib.hid hld; have HOb := Lib.hid ho
      clear hA hown hld
      generalize hK : endK M (k + 1) j = kn at *
      have HK := Lib.hid hK
      clear hK
      obtain ⟨o0, o1, o2, o3⟩ := cells4 ho
      by_cases hlt : j < n
      · have i2 : (j : Int) < (n : Int) := by omega
        have hAj : At M kn ((n - (j + 1) + o) + 1) := by have := HA.out; rwa [show n - j + o = (n - (j + 1) + o) + 1 by omega] at this
        obtain ⟨cK, hcK, -, -⟩ := hAj.cell
        have hKM : kn < M.length := (List.getElem?_eq_some_iff.1 hcK).1
        have hpos : posN M t kn ≤ 100000 := by have h1 := wsum_take_le M kn; have h2 := HSum.out; unfold posN; omega
        have hLS := HLS.out.turn HLd.out.turn
        have HLW := Lib.hid (fun W (e : Turn [tb] wr W) => lword_is (hLS W e) hcK hpos)
        have HLS2 := Lib.hid hLS
        have HAj := Lib.hid hAj
        have of_ : ∀ i, wr.frozen? ⟨w.heap.size + 1, i, none⟩ = false := fun i => free_at HOb.out
        have hob : w.heap.size + 1 < wr.heap.size := by omega
        go_upto_region 7 with fail
        clear hlt hcK hLS hAj ho
        refine wp_region_noPanic ?_
        refine wp_region_last 8 (S := (fun w' => w'.cell? ⟨w.heap.size + 1, 2, none⟩ = some (.slice q j cc) ∧ w'.frozen? ⟨w.heap.size + 1, 2, none⟩ = false)) (by kernel_rfl) (by kernel_rfl) _ rfl ?_ (fun hHeld => ?_)
        · (first | exact keep2x o2 (of_ 2) (Ext.drew _) | exact keep2x o2 (of_ 2) (Ext.trans (Ext.alloc _ _) (Ext.drew _)) | exact hS1)
        simp only [List.take_succ_cons, List.take_zero]
        refine wpAnyH_take (i := 0) (v := ?v1) rfl (by kernel_rfl) (by kernel_rfl) (by kernel_rfl) (fun _ _ _ h => h) (Or.inl ⟨by rfl, ?y1⟩) (by assumption) ?r1
        case y1 => intro w hSw; (try dsimp only at hSw); go_simp; (try with_reducible rfl)
        (try simp only [Act.put, List.setIfInBounds_toArray, List.set_cons_zero, List.set_cons_succ, List.getElem_toArray, List.getElem_cons_zero, List.getElem_cons_succ])
        refine wpAnyH_take (i := 1) (v := ?v2) rfl (by kernel_rfl) (by kernel_rfl) (by kernel_rfl) (fun _ _ _ h => h) (Or.inl ⟨by rfl, ?y2⟩) (by assumption) ?r2
        case y2 => intro w hSw; (try dsimp only at hSw); go_simp; (try with_reducible rfl)
        (try simp only [Act.put, List.setIfInBounds_toArray, List.set_cons_zero, List.set_cons_succ, List.getElem_toArray, List.getElem_cons_zero, List.getElem_cons_succ])
        refine wpAnyH_take (i := 2) (v := ?v3) rfl (by kernel_rfl) (by kernel_rfl) (by kernel_rfl) (fun _ _ _ h => h) (Or.inl ⟨by rfl, ?y3⟩) (by assumption) ?r3
        case y3 => intro w hSw; (try dsimp only at hSw); go_simp; (try with_reducible rfl)
        (try simp only [Act.put, List.setIfInBounds_toArray, List.set_cons_zero, List.set_cons_succ, List.getElem_toArray, List.getElem_cons_zero, List.getElem_cons_succ])
        refine wpAnyH_take (i := 3) (v := ?v4) rfl (by kernel_rfl) (by kernel_rfl) (by kernel_rfl) (fun _ _ _ h => h) (Or.inl ⟨by rfl, ?y4⟩) (by assumption) ?r4
        case y4 => intro w hSw; (try dsimp only at hSw); go_simp; (try with_reducible rfl)
        (try simp only [Act.put, List.setIfInBounds_toArray, List.set_cons_zero, List.set_cons_succ, List.getElem_toArray, List.getElem_cons_zero, List.getElem_cons_succ])
        refine wpAnyH_ready (rs := [4]) (by kernel_rfl) (by simp) ?_
        refine AllReadyH.cons rfl (fun K hK => ?_) AllReadyH.nil
        go_simp
        refine (HLW.out _ (Turn.of_ext (Ext.drew _))).mono ?_
        rintro e' w' ⟨rfl, rfl⟩
        refine hK.out _ _ ?s5 (fun hHeld => ?k5)
        case s5 => ((try dsimp only); (first | exact keep2x o2 (of_ 2) (Ext.drew _) | exact keep2x o2 (of_ 2) (Ext.trans (Ext.alloc _ _) (Ext.drew _)) | exact hS1))
        clear hK K
        (try simp only [Act.put, List.setIfInBounds_toArray, List.set_cons_zero, List.set_cons_succ, List.getElem_toArray, List.getElem_cons_zero, List.getElem_cons_succ])
        refine wpAnyH_ready (rs := [5]) (by kernel_rfl) (by simp) ?_
        refine AllReadyH.cons rfl (fun K hK => ?_) AllReadyH.nil
        go_simp
        refine hK.out _ _ ?s6 (fun hHeld => ?k6)
        case s6 => ((try dsimp only); (first | exact keep2x o2 (of_ 2) (Ext.drew _) | exact keep2x o2 (of_ 2) (Ext.trans (Ext.alloc _ _) (Ext.drew _)) | exact hS1))
        clear hK K
        (try simp only [Act.put, List.setIfInBounds_toArray, List.set_cons_zero, List.set_cons_succ, List.getElem_toArray, List.getElem_cons_zero, List.getElem_cons_succ])
        refine wpAnyH_ready (rs := [6]) (by kernel_rfl) (by simp) ?_
        refine AllReadyH.cons rfl (fun K hK => ?_) AllReadyH.nil
        have e1 : Ext wr (wr.alloc (.cells #[.int .u64 (wdC M t kn)] 42)).drew := Ext.trans (Ext.alloc _ _) (Ext.drew _)
        refine step_append_rows E64 (by rfl) _ _ (by rfl) (w.heap.size + 1 + 1) (.slice q j cc) (.slice (some ⟨wr.heap.size, 0, none⟩) 1 1) (((kids M (k + 1) j).map (wdC M t)).map wordC) [[.int .u64 (wdC M t kn)]] (by rfl) (HOw.out.ext e1) (by rfl) (rows_of_block (cs := #[.int .u64 (wdC M t kn)]) (heap_alloc_new wr _) rfl (by intro u hu; simp at hu; subst hu; rfl)) (by simp [kids_len]; unfold maxLen; omega) (by simp [kids_len]; omega) (by have := e1.size; omega) ?_
        intro v5 w5 ho5 hg5 hb5 hn5
        have hg : wr.grownBy w5 (Value.slice q j cc).ownBlock := (grown_of_ext e1 _).trans hg5
        have hrn : (Value.slice q j cc).ownBlock ≠ some (w.heap.size + 1) := fun e => by have := (HOw.out.own _ e).1; omega
        have hS1 : w5.cell? ⟨w.heap.size + 1, 2, none⟩ = some (.slice q j cc) ∧ w5.frozen? ⟨w.heap.size + 1, 2, none⟩ = false :=
          ⟨hg.cell o2 (Ne.symm hrn), (World.frozen?_of_block (hg.block (w.heap.size + 1) hob (Ne.symm hrn))).trans (of_ 2)⟩
        refine hK.out _ _ ?s7 (fun hHeld => ?k7)
        case s7 => ((try dsimp only); (first | exact keep2x o2 (of_ 2) (Ext.drew _) | exact keep2x o2 (of_ 2) (Ext.trans (Ext.alloc _ _) (Ext.drew _)) | exact hS1))
        clear hK K
        (try simp only [Act.put, List.setIfInBounds_toArray, List.set_cons_zero, List.set_cons_succ, List.getElem_toArray, List.getElem_cons_zero, List.getElem_cons_succ])
        refine wpAnyH_take (i := 7) (v := ?v8) rfl (by kernel_rfl) (by kernel_rfl) (by kernel_rfl) (fun _ _ _ h => h) (Or.inl ⟨by rfl, ?y8⟩) (by assumption) ?r8
        case y8 => intro w hSw; (try dsimp only at hSw); go_simp; (try with_reducible rfl)
        (try simp only [Act.put, List.setIfInBounds_toArray, List.set_cons_zero, List.set_cons_succ, List.getElem_toArray, List.getElem_cons_zero, List.getElem_cons_succ])
        refine wpAnyH_done (by kernel_rfl) ?_ _
        show wpList _ _ _ _ _ _
        have hko : ((kids M (k + 1) j).map (wdC M t)).map wordC ++ [[.int .u64 (wdC M t kn)]] = ((kids M (k + 1) (j + 1)).map (wdC M t)).map wordC := by
          rw [kids_snoc, HK.out, List.map_append, List.map_append]; rfl
        rw [hko] at ho5
        have hl5 : (((kids M (k + 1) (j + 1)).map (wdC M t)).map wordC).length = j + 1 := by simp [kids_len]
        obtain ⟨q5, k5, hv5, -, -⟩ := ho5.len
        rw [hl5] at hv5
        subst hv5
        have k1 := grown_block hg HOb.out hrn
        have hlw : ∀ b', b' < wr.heap.size → (w.heap.size + 1 + 1 ≤ b' ∧ (Value.slice q j cc).ownBlock ≠ some b') → w5.heap[b']? = wr.heap[b']? := fun b' hb' hp => hg.block b' hb' (fun e => hp.2 e.symm)
        have hrt : (Value.slice q j cc).ownBlock ≠ some tb := fun e => by have := (HOw.out.own _ e).1; omega
        have htbw : tb < wr.heap.size := by omega
        have hld5 : Laid M t w w5 tb (fun b' => w.heap.size + 1 + 1 ≤ b' ∧ (Value.slice q5 (j + 1) k5).ownBlock ≠ some b') (k + 1) kn := by
          refine ⟨HLd.out.row.stays (hg.block tb htbw (Ne.symm hrt)), fun i c hi hie hc => ?_, fun i hi => (HLd.out.same i hi).trans (RowSame.of_block (hg.block tb htbw (Ne.symm hrt))), ?_⟩
          · have h0 := (HLd.out.obs i c hi hie hc).same (RowSame.of_block (hg.block tb htbw (Ne.symm hrt))) hlw
            obtain ⟨q', c', z0, z1, z2, z3, z4, z5⟩ := h0
            refine ⟨q', c', z0, z1, z2, z3, z4, fun b' hb' => ⟨(z5 b' hb').1, fun e => ?_⟩⟩
            rcases hb5 with h | h
            · rw [h] at e; exact (z5 b' hb').2 e
            · rw [h] at e
              have h7 := Option.some.inj e
              obtain ⟨q0, c0, -, -, h22, -, z40, -⟩ := HLd.out.obs i c hi hie hc
              have hq := (RowSame.of_block (hg.block tb htbw (Ne.symm hrt)) (j := i) 2 (by omega)).trans h22
              obtain ⟨e1', -, e3'⟩ := Value.slice.inj (Option.some.inj (z2.symm.trans hq))
              rw [e1', e3'] at hb'
              have := (z40.own b' hb').2
              have h8 := e1.size
              omega
          · exact turn2 HLd.out.turn (cs := (Value.slice q j cc).ownBlock.toList) (Turn.of_grown hg (fun b' hb' => .inl (by simpa using hb'))) (fun x hx => by have := (HOw.out.own x (by simpa using hx)).1; omega)
        have hs5 := hg.size
        have HLd5 := Lib.hid hld5; have HO5 := Lib.hid ho5; have K1 := Lib.hid k1
        obtain ⟨s2, sf⟩ := hS1
        clear hld5 ho5 hlw hg hg5 hb5 hn5 hHeld hko hl5 hrn hrt HOw HLd HOb HLW o0 o1 o2 o3 of_ e1
        go_wp2
        refine NoPanic.normal ?_
        go_upto_region 8 with fail
        refine wp_fill1 K1.out fun W6 c6 t6 s6 => ?_
        replace c6 : W6.heap[w.heap.size + 1]? = some (.cells #[.int .i64 1, .int .i64 tg, .slice q5 (j + 1) k5, .string tx] 56 (0, 0)) := c6.trans rfl
        have hld6 : Laid M t w W6 tb (fun b' => w.heap.size + 1 + 1 ≤ b' ∧ (Value.slice q5 (j + 1) k5).ownBlock ≠ some b') (k + 1) kn := by
          have htb := t6.block tb HLd5.out.row.lt (by simp; omega)
          refine ⟨HLd5.out.row.stays htb, fun i c hi hie hc => (HLd5.out.obs i c hi hie hc).same (RowSame.of_block htb) (fun b' hb' hp => t6.block b' hb' (by have := hp.1; simp; omega)), fun i hi => (HLd5.out.same i hi).trans (RowSame.of_block htb), turn2 HLd5.out.turn t6 (fun x hx => by simp at hx; omega)⟩
        have HO6 := Lib.hid (HO5.out.turn t6 (fun b' hb' => by have := (HO5.out.own b' hb').1; simp; omega))
        have hcall := IH.out kn (n - (j + 1) + o) W6 HAj.out (by omega) (HLS.out.turn hld6.turn) hld6.row
        have HLd6 := Lib.hid hld6; have HO7 := Lib.hid c6
        clear hld6 c6 t6 HO5 HLd5 K1 s2 sf IH HLS2
        go_wp2_with fail
        refine hcall.mono ?_
        clear hcall
        rintro e' w7 ⟨rfl, hl7⟩
        have ht7 := hl7.turn
        have hall := Laid.step (R := fun b' => w.heap.size + 1 + 1 ≤ b' ∧ (Value.slice q5 (j + 1) k5).ownBlock ≠ some b') HLd6.out hl7 (fun b' _ hp => ⟨by have := hp.1; omega, hp⟩) (fun b' _ hp => ⟨by omega, fun e => by have := (HO6.out.own b' e).2; omega⟩) hge (by have := HAj.out.next.2.1; omega)
        have HAll := Lib.hid hall
        have HO8 := Lib.hid (HO6.out.turn ht7 (fun b' hb' => by have := (HO6.out.own b' hb').1; simp; omega))
        have HB8 := Lib.hid ((ht7.block (w.heap.size + 1) (by omega) (by simp; omega)).trans HO7.out)
        have hs7 := ht7.size
        clear hl7 ht7 hall HLd6 HO6 HO7
        go_wp2_with fail
        have hek : endK M (k + 1) (j + 1) = nxt M kn := by rw [endK_succ, HK.out]
        refine ⟨⟨j + 1, q5, k5, by omega, by go_num, by rw [hek], by rw [hek]; exact HAj.out.next.1, by rw [hek]; have := HAj.out.next.2.1; omega, HB8.out, HO8.out, by rw [hek]; exact HAll.out, by omega⟩, by simp [Go.RowKit.intOf]; omega⟩
      · obtain rfl : j = n := by omega
        have hke : kn = nxt M k := by rw [HNK.out, HK.out]
        have hLA := HLS.out wr HLd.out.turn
        obtain ⟨l0, l1, m2⟩ := cells3 hLA.blk
        obtain ⟨cur, hcur, hsz'⟩ := HLd.out.row
        have hu : ∀ f, f < 4 → ∃ u, wr.cell? ⟨tb, k * 4 + f, none⟩ = some u := fun f hf => by
          have hlt : k * 4 + f < cur.size := by omega
          exact ⟨cur[k * 4 + f], by simp [World.cell?, hcur, hlt]⟩
        obtain ⟨u0, z0⟩ := hu 0 (by omega); obtain ⟨u1, z1⟩ := hu 1 (by omega); obtain ⟨u2, z2⟩ := hu 2 (by omega); obtain ⟨u3, z3⟩ := hu 3 (by omega)
        rw [Nat.add_zero] at z0
        have zf : ∀ i, wr.frozen? ⟨tb, i, none⟩ = false := fun i => free_at hcur
        have HCur := Lib.hid hcur
        clear hu hcur l0 l1 hLA hlt IH ho
        go_upto_region 10 with fail
        refine wp_region_noPanic ?_
        refine wp_region_last 7 (S := (fun w' => w'.cell? ⟨lb, 2, none⟩ = some (.slice (some ⟨tb, 0, none⟩) M.length M.length) ∧ w'.cell? ⟨w.heap.size + 1, 0, none⟩ = some (.int .i64 1) ∧ w'.cell? ⟨w.heap.size + 1, 1, none⟩ = some (.int .i64 tg) ∧ w'.cell? ⟨w.heap.size + 1, 2, none⟩ = some (.slice q j cc) ∧ w'.cell? ⟨w.heap.size + 1, 3, none⟩ = some (.string tx))) (by kernel_rfl) (by kernel_rfl) _ rfl ?_ (fun hHeld => ?_)
        · (exact ⟨(Ext.drew _).cell m2, (Ext.drew _).cell o0, (Ext.drew _).cell o1, (Ext.drew _).cell o2, (Ext.drew _).cell o3⟩)
        simp only [List.take_succ_cons, List.take_zero]
        refine wpAnyH_take (i := 0) (v := ?v9) rfl (by kernel_rfl) (by kernel_rfl) (by kernel_rfl) (fun _ _ _ h => h) (Or.inl ⟨by rfl, ?y9⟩) (by assumption) ?r9
        case y9 => intro w hSw; (try dsimp only at hSw); go_simp; (try with_reducible rfl)
        (try simp only [Act.put, List.setIfInBounds_toArray, List.set_cons_zero, List.set_cons_succ, List.getElem_toArray, List.getElem_cons_zero, List.getElem_cons_succ])
        refine wpAnyH_take (i := 1) (v := ?v10) rfl (by kernel_rfl) (by kernel_rfl) (by kernel_rfl) (fun _ _ _ h => h) (Or.inl ⟨by rfl, ?y10⟩) (by assumption) ?r10
        case y10 => intro w hSw; (try dsimp only at hSw); go_simp; (try with_reducible rfl)
        (try simp only [Act.put, List.setIfInBounds_toArray, List.set_cons_zero, List.set_cons_succ, List.getElem_toArray, List.getElem_cons_zero, List.getElem_cons_succ])
        refine wpAnyH_take (i := 2) (v := ?v11) rfl (by kernel_rfl) (by kernel_rfl) (by kernel_rfl) (fun _ _ _ h => h) (Or.inl ⟨by rfl, ?y11⟩) (by assumption) ?r11
        case y11 => intro w hSw; (try dsimp only at hSw); go_simp; (try with_reducible rfl)
        (try simp only [Act.put, List.setIfInBounds_toArray, List.set_cons_zero, List.set_cons_succ, List.getElem_toArray, List.getElem_cons_zero, List.getElem_cons_succ])
        refine wpAnyH_take (i := 3) (v := ?v12) rfl (by kernel_rfl) (by kernel_rfl) (by kernel_rfl) (fun _ _ _ h => h) (Or.inl ⟨by rfl, ?y12⟩) (by assumption) ?r12
        case y12 => intro w hSw; (try dsimp only at hSw); go_simp; (try with_reducible rfl)
        (try simp only [Act.put, List.setIfInBounds_toArray, List.set_cons_zero, List.set_cons_succ, List.getElem_toArray, List.getElem_cons_zero, List.getElem_cons_succ])
        refine wpAnyH_take (i := 4) (v := ?v13) rfl (by kernel_rfl) (by kernel_rfl) (by kernel_rfl) (fun _ _ _ h => h) (Or.inl ⟨by rfl, ?y13⟩) (by assumption) ?r13
        case y13 => intro w hSw; (try dsimp only at hSw); go_simp; (try with_reducible rfl)
        (try simp only [Act.put, List.setIfInBounds_toArray, List.set_cons_zero, List.set_cons_succ, List.getElem_toArray, List.getElem_cons_zero, List.getElem_cons_succ])
        refine wpAnyH_take (i := 5) (v := ?v14) rfl (by kernel_rfl) (by kernel_rfl) (by kernel_rfl) (fun _ _ _ h => h) (Or.inl ⟨by rfl, ?y14⟩) (by assumption) ?r14
        case y14 => intro w hSw; (try dsimp only at hSw); go_simp; (try with_reducible rfl)
        (try simp only [Act.put, List.setIfInBounds_toArray, List.set_cons_zero, List.set_cons_succ, List.getElem_toArray, List.getElem_cons_zero, List.getElem_cons_succ])
        refine wpAnyH_take (i := 6) (v := ?v15) rfl (by kernel_rfl) (by kernel_rfl) (by kernel_rfl) (fun _ _ _ h => h) (Or.inl ⟨by rfl, ?y15⟩) (by assumption) ?r15
        case y15 => intro w hSw; (try dsimp only at hSw); go_simp; (try with_reducible rfl)
        (try simp only [Act.put, List.setIfInBounds_toArray, List.set_cons_zero, List.set_cons_succ, List.getElem_toArray, List.getElem_cons_zero, List.getElem_cons_succ])
        refine wpAnyH_done (by kernel_rfl) ?_ _
        show wpList _ _ _ _ _ _
        go_wp2
        refine NoPanic.normal ?_
        go_wp2
        have hp := put4 HCur.out hsz' hkM (.int .i64 1) (.int .i64 tg) (.slice q j cc) (.string tx)
        go_ret
        refine ⟨by rw [← hke]; rfl, ?_⟩
        rw [← hke]
        have hcurl : tb < wr.heap.size := (Array.getElem?_eq_some_iff.1 HCur.out).1
        refine ⟨hp.row, fun i c hi hie hic => ?_, fun i hi => (HLd.out.same i (by omega)).trans (hp.same i (by omega)), HLd.out.turn.trans hp.turn⟩
        by_cases hik : i = k
        · subst hik
          have ec := Option.some.inj (hic.symm.trans HC.out)
          rw [ec]
          have hown := HOw.out.turn hp.turn (fun b' hb' => by have := (HOw.out.own b' hb').1; simp; omega)
          unfold obC
          dsimp only
          rw [if_pos rfl, Int.toNat_natCast]
          refine ⟨q, cc, hp.c0, hp.c1, ?_, hp.c3, ?_, fun b' hb' => ?_⟩
          · rw [List.length_map, kids_len]; exact hp.c2
          · rw [List.length_map, kids_len]; exact hown.mono (Nat.zero_le _)
          · rw [List.length_map, kids_len] at hb'
            have := (hown.own b' hb').1
            omega
        · exact ((HLd.out.obs i c (by omega) hie hic).same (hp.same i hik) (fun b' hb' hq => hp.turn.block b' hb' (by have := hq.1; simp; omega))).mono (fun b' _ hq => by have := hq.1; omega)
end Go.Proofs.YtppkgfcobnknfaaGreatDoor
/- data.In, refused. -/
namespace Go.Proofs.YtppkgfcobnknfaaGreatDoor
open Go.RowKit Arena
set_option maxHeartbeats 8000000
set_option maxRecDepth 100000
/-- what a refusal leaves -/
def InNo (w : World) (e : Ending) (w' : World) : Prop := e = .returned (.tuple #[.agg #[.int .i64 0, .int .i64 0, .int .i64 0, .int .i64 0], .int .u64 0, .bool false]) ∧ Ext w w'
theorem din_no {w : World} {p g bm n : Nat} {ws : List Int} {R : List (Nat × Nat)} (H : ArenaAt w p g bm n ws R) (h : Hp) (hw : (Lit.int .i64 h.base).wf = true) (hW : ∀ x ∈ ws, W64 x) {v : Value} {M : List Cl} (hm : MsgP w v M) (hb : inB' ws R h M = false) :
    Calls Tryz.prog 11 #[.pointer (some ⟨p, 0, none⟩), .agg #[.int .i64 h.base, .int .i64 h.half, .int .i64 h.space, .int .i64 h.top], v] w (InNo w) := by
  have HG := Lib.hid (fun W (e : Ext w W) d os => quiet_ext (good_is (H.ext (e.trans (Ext.regrown W d os))) h hw hW))
  have HM := Lib.hid (fun W (e : Ext w W) d os => quiet_ext (good_msg (hm.ext (e.trans (Ext.regrown W d os)))))
  by_cases hg : goodM M = true
  · have HWd := Lib.hid (fun W (e : Ext w W) d os => quiet_ext (words_msg (hm.ext (e.trans (Ext.regrown W d os))) hg))
    rw [hg] at HM
    rcases ha : allH ws R h with _ | L
    · rw [ha] at HG
      clear H hw hW hm hb ha HWd
      obtain ⟨ba, hf, sp, tp⟩ := h
      dsimp only [Option.isSome] at *
      go_enter Tryz.func11, Tryz.ntmps11
      go_upto_region 1 with fail
      refine wp_alloc2 fun W hE hS b0 b1 => ?_
      obtain ⟨x0, x1, x2, x3⟩ := cells4 b0
      have B0 := Lib.hid b0; have B1 := Lib.hid b1; have HE := Lib.hid hE
      have r0 := fun d os => cell_regrown x0 d os
      have r1 := fun d os => cell_regrown x1 d os
      have r2 := fun d os => cell_regrown x2 d os
      have r3 := fun d os => cell_regrown x3 d os
      clear b0 b1 x0 x1 x2 x3
      have CM := Lib.hid (HM.out W hE); have CG := Lib.hid (HG.out W hE)
      clear HM HG hE
      refine wp_region_quiet_below (by kernel_rfl) (by kernel_rfl) ?_
      repeat (first | go_big_quiet_step (first | exact CM.out _ _ | exact CG.out _ _) | quiet_step (first | exact CM.out _ _ | exact CG.out _ _))
      refine wpQuiet_nil ?_
      intro _ hw'
      obtain ⟨⟨dq, osq⟩, hw''⟩ := hw'
      subst hw''
      have HXQ := Lib.hid (HE.out.trans (Ext.regrown W dq osq))
      clear r0 r1 r2 r3
      have z := (Below.block (Ext.regrown W dq osq) (w.heap.size + 1) (by omega)).trans B1.out
      obtain ⟨z0, z1, z2, z3⟩ := cells4 z
      have zf := fun i => free_at (i := i) z
      have hf4 := fill4 z (.int .i64 0) (.int .i64 0) (.int .i64 0) (.int .i64 0)
      have HF4 := Lib.hid hf4
      clear z hf4
      go_wp2
      obtain ⟨y0, y1, y2, y3⟩ := cells4 HF4.out.1
      refine bodyPost_ret (v := .tuple #[.agg #[.int .i64 0, .int .i64 0, .int .i64 0, .int .i64 0], .int .u64 0, .bool false]) (by simp [results, Tryz.results11, go_sem, y0, y1, y2, y3]) rfl ⟨rfl, ?_⟩
      exact Below.trans HXQ.out (HF4.out.2.1.below (Below.size HXQ.out) (by simp))
    · rw [ha] at HG
      obtain ⟨ht, -⟩ := allH_there ha
      obtain ⟨hk, h2⟩ := thereB_ok ht
      have hfit : ¬ h.top + (wsum M : Nat) ≤ h.half := fun hc => by
        unfold inB' at hb
        rw [hg, ha] at hb
        simp [hc] at hb
      obtain ⟨k1, k2, k3, k4, k5, k6⟩ := hk
      have b1 : decide (h.half - h.top < ((wsum M : Nat) : Int)) = true := decide_eq_true (by omega)
      have hgs := goodM_sum hg
      generalize wsum M = W2 at *
      clear H hw hW hm hb ha ht h2
      obtain ⟨ba, hf, sp, tp⟩ := h
      dsimp only [Option.isSome] at *
      go_enter Tryz.func11, Tryz.ntmps11
      go_upto_region 1 with fail
      refine wp_alloc2 fun W hE hS b0 b1 => ?_
      obtain ⟨x0, x1, x2, x3⟩ := cells4 b0
      have B0 := Lib.hid b0; have B1 := Lib.hid b1; have HE := Lib.hid hE
      have r0 := fun d os => cell_regrown x0 d os
      have r1 := fun d os => cell_regrown x1 d os
      have r2 := fun d os => cell_regrown x2 d os
      have r3 := fun d os => cell_regrown x3 d os
      clear b0 b1 x0 x1 x2 x3
      have CM := Lib.hid (HM.out W hE); have CG := Lib.hid (HG.out W hE); have CW := Lib.hid (HWd.out W hE)
      clear HM HG HWd hE
      refine wp_region_quiet_below (by kernel_rfl) (by kernel_rfl) ?_
      repeat (first | go_big_quiet_step (first | exact CM.out _ _ | exact CG.out _ _ | exact CW.out _ _) | quiet_step (first | exact CM.out _ _ | exact CG.out _ _ | exact CW.out _ _))
      refine wpQuiet_nil ?_
      intro _ hw'
      obtain ⟨⟨dq, osq⟩, hw''⟩ := hw'
      subst hw''
      have HXQ := Lib.hid (HE.out.trans (Ext.regrown W dq osq))
      clear r0 r1 r2 r3
      have z := (Below.block (Ext.regrown W dq osq) (w.heap.size + 1) (by omega)).trans B1.out
      obtain ⟨z0, z1, z2, z3⟩ := cells4 z
      have zf := fun i => free_at (i := i) z
      have hf4 := fill4 z (.int .i64 0) (.int .i64 0) (.int .i64 0) (.int .i64 0)
      have HF4 := Lib.hid hf4
      clear z hf4
      go_wp2
      obtain ⟨y0, y1, y2, y3⟩ := cells4 HF4.out.1
      refine bodyPost_ret (v := .tuple #[.agg #[.int .i64 0, .int .i64 0, .int .i64 0, .int .i64 0], .int .u64 0, .bool false]) (by simp [results, Tryz.results11, go_sem, y0, y1, y2, y3]) rfl ⟨rfl, ?_⟩
      exact Below.trans HXQ.out (HF4.out.2.1.below (Below.size HXQ.out) (by simp))
  · have hgf : goodM M = false := by simpa using hg
    rw [hgf] at HM
    clear H hw hW hm hb hg hgf HG
    obtain ⟨ba, hf, sp, tp⟩ := h
    dsimp only at *
    go_enter Tryz.func11, Tryz.ntmps11
    go_upto_region 1 with fail
    refine wp_alloc2 fun W hE hS b0 b1 => ?_
    obtain ⟨x0, x1, x2, x3⟩ := cells4 b0
    have B0 := Lib.hid b0; have B1 := Lib.hid b1; have HE := Lib.hid hE
    have r0 := fun d os => cell_regrown x0 d os
    have r1 := fun d os => cell_regrown x1 d os
    have r2 := fun d os => cell_regrown x2 d os
    have r3 := fun d os => cell_regrown x3 d os
    clear b0 b1 x0 x1 x2 x3
    have CM := Lib.hid (HM.out W hE)
    clear HM hE
    refine wp_region_quiet_below (by kernel_rfl) (by kernel_rfl) ?_
    repeat (first | go_big_quiet_step (exact CM.out _ _) | quiet_step (exact CM.out _ _))
    refine wpQuiet_nil ?_
    intro _ hw'
    obtain ⟨⟨dq, osq⟩, hw''⟩ := hw'
    subst hw''
    have HXQ := Lib.hid (HE.out.trans (Ext.regrown W dq osq))
    clear r0 r1 r2 r3
    have z := (Below.block (Ext.regrown W dq osq) (w.heap.size + 1) (by omega)).trans B1.out
    obtain ⟨z0, z1, z2, z3⟩ := cells4 z
    have zf := fun i => free_at (i := i) z
    have hf4 := fill4 z (.int .i64 0) (.int .i64 0) (.int .i64 0) (.int .i64 0)
    have HF4 := Lib.hid hf4
    clear z hf4
    go_wp2
    obtain ⟨y0, y1, y2, y3⟩ := cells4 HF4.out.1
    refine bodyPost_ret (v := .tuple #[.agg #[.int .i64 0, .int .i64 0, .int .i64 0, .int .i64 0], .int .u64 0, .bool false]) (by simp [results, Tryz.results11, go_sem, y0, y1, y2, y3]) rfl ⟨rfl, ?_⟩
    exact Below.trans HXQ.out (HF4.out.2.1.below (Below.size HXQ.out) (by simp))
end Go.Proofs.YtppkgfcobnknfaaGreatDoor
/- Data, in plain Lean: fitting looks at the whole, and at the forms that lead from the form alone (DataFits). -/
namespace Go.Proofs.YtppkgfcobnknfaaGreatDoor
open Go Go.RowKit
set_option maxRecDepth 100000
/-- more forms behind change nothing -/
theorem fitsB_forms {F : List Fo} (G : List Fo) {M : List Cl} (hF : ∀ x ∈ F, goodFo x F.length = true) : ∀ (s k at_ : Nat), k < F.length → fitsB (F ++ G) M s k at_ = fitsB F M s k at_
  | 0, _, _, _ => rfl
  | s + 1, k, at_, hk => by
    have ih := fitsB_forms G (M := M) hF s
    obtain ⟨x, hx⟩ : ∃ x, F[k]? = some x := ⟨_, List.getElem?_eq_getElem hk⟩
    obtain ⟨a1, a2, a3⟩ := goodFo_ab (hF x (List.mem_of_getElem? hx))
    have hx2 : (F ++ G)[k]? = some x := by rw [List.getElem?_append_left hk]; exact hx
    rw [fitsB, fitsB, hx, hx2]
    cases hc : M[at_]? with
    | none => rfl
    | some c =>
      dsimp only
      by_cases k1 : x.kind = 1
      · rw [if_pos k1, if_pos k1]
      rw [if_neg k1, if_neg k1]
      by_cases k2 : x.kind = 2
      · rw [if_pos k2, if_pos k2]
      rw [if_neg k2, if_neg k2]
      by_cases k3 : x.kind = 3
      · rw [if_pos k3, if_pos k3]
      rw [if_neg k3, if_neg k3]
      by_cases k4 : x.kind = 4
      · rw [if_pos k4, if_pos k4]
      rw [if_neg k4, if_neg k4]
      by_cases k5 : x.kind = 5
      · rw [if_pos k5, if_pos k5, ih _ _ (a1 k5).1, ih _ _ (a1 k5).2]
      rw [if_neg k5, if_neg k5]
      by_cases k6 : x.kind = 6
      · rw [if_pos k6, if_pos k6, ih _ _ (a2 k6), ih _ _ hk]
      rw [if_neg k6, if_neg k6]
      by_cases h0 : c.kind = 0
      · rw [if_pos h0, if_pos h0]
      rw [if_neg h0, if_neg h0]
      by_cases hb : c.tag < x.cons.length ∧ 0 ≤ x.cons.getD c.tag.toNat 0
      · obtain ⟨b1, b2⟩ := hb
        by_cases ht : c.tag.toNat < x.cons.length
        · rw [ih _ _ (a3 _ ht b2)]
        · have : x.cons.length = 0 := by omega
          have e : x.cons.getD c.tag.toNat 0 = 0 := by rw [List.getD_eq_getElem?_getD, List.getElem?_eq_none (by omega)]; rfl
          rw [e, ih _ _ (by simpa using Nat.lt_of_le_of_lt (Nat.zero_le k) hk)]
      · have hf : (decide (c.tag < x.cons.length) && decide (0 ≤ x.cons.getD c.tag.toNat 0)) = false := by
          rw [Bool.eq_false_iff]
          intro h
          simp only [Bool.and_eq_true, decide_eq_true_eq] at h
          exact hb h
        rw [Bool.and_assoc (decide (c.kind = 1) && decide (c.n = 1)), hf, Bool.and_false, Bool.false_and, Bool.false_and]
end Go.Proofs.YtppkgfcobnknfaaGreatDoor
