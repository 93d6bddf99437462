/- The heap's own functions over a pile. -/
import Derived.Test.YtgapjglijpdkmaaOrdB
namespace Go.Proofs.Ytgapjglijpdkmaa
open Go.RowKit Go.Maps Heap Go.Sort
set_option maxHeartbeats 8000000
set_option maxRecDepth 100000
attribute [local go_sem ↓] Go.wp_at_zero Go.wp_at_succ
theorem nth_ge {L : List Ent} {i : Nat} (h : i < L.length) : nth L i = L[i] := by simp [nth, List.getD_eq_getElem?_getD, h]
theorem PileAt.form {w : World} {B pb : Nat} {v : Value} {L : List Ent} (h : PileAt w B pb v L) (hl : 0 < L.length) : ∃ b c, v = .slice (some ⟨b, 0, none⟩) L.length c ∧ B ≤ b ∧ b < w.heap.size ∧ L.length ≤ c ∧ c ≤ maxLen := h.ent.form hl
/-- a row written at its own block alone: the pile over it -/
theorem PileAt.rewritten {w w' : World} {B pb b c : Nat} {L L' : List Ent} (h : PileAt w B pb (.slice (some ⟨b, 0, none⟩) L.length c) L) (hl : L'.length = L.length) (hr : EntRow w' B (.slice (some ⟨b, 0, none⟩) L.length c) L') (t : Turn [b] w w') : PileAt w' B pb (.slice (some ⟨b, 0, none⟩) L.length c) L' := by
  have := h.ne b rfl
  exact ⟨by rw [t.block pb h.lt (by simp; omega)]; exact h.row, hr, h.ne⟩
theorem dropLast_row {w : World} {B b c m : Nat} {L : List Ent} (h : EntRow w B (.slice (some ⟨b, 0, none⟩) L.length c) L) (hm : L.length = m + 1) : EntRow w B (.slice (some ⟨b, 0, none⟩) m c) L.dropLast := by
  rcases h.2 with ⟨h1, h2⟩ | ⟨b', c', cur, h1, hb, hg, h2, h3, h4, h5⟩
  · simp at h1
  · simp only [Value.slice.injEq, Option.some.injEq, Addr.mk.injEq, and_true, true_and] at h1
    obtain ⟨rfl, rfl⟩ := h1
    have hl : L.dropLast.length = m := by rw [List.length_dropLast]; omega
    refine ⟨by rw [entC_length, hl], .inr ⟨b, c, cur, by rw [hl], hb, hg, by rw [hl]; omega, h3, h4, ?_⟩⟩
    rw [hl, ← List.take_of_length_le (l := (L.dropLast).flatMap entC) (i := m * 2) (by rw [entC_length, hl]; exact Nat.le_refl _)]
    have e1 : L.flatMap entC = L.dropLast.flatMap entC ++ entC (L.getLast (by intro e; rw [e] at hm; simp at hm)) := by
      conv => lhs; rw [← List.dropLast_concat_getLast (l := L) (by intro e; rw [e] at hm; simp at hm)]
      rw [List.flatMap_append]
      simp
    rw [e1] at h5
    have h6 := congrArg (List.take (m * 2)) h5
    rw [List.take_take, Nat.min_eq_left (by omega), List.take_append_of_le_length (by rw [entC_length, hl]; exact Nat.le_refl _)] at h6
    exact h6
theorem pop_is {w : World} {B pb : Nat} {v : Value} {L : List Ent} {m : Nat} (h : PileAt w B pb v L) (hm : L.length = m + 1) (hl : L.length ≤ 1000) :
    Calls Try.prog 39 #[.pointer (some ⟨pb, 0, none⟩)] w fun e w' => e = .returned (.iface 56 (.agg #[.int .i64 (nth L m).1, .int .i64 (nth L m).2])) ∧ ∃ v', PileAt w' B pb v' L.dropLast ∧ PStep w w' pb v v' := by
  obtain ⟨b, c, rfl, hb1, hb2, hb3, hb4⟩ := h.form (by omega)
  obtain ⟨p0, f0⟩ := h.cell
  obtain ⟨x0, x1, _, _⟩ := h.ent.cells (i := m) (by omega)
  have H := Lib.hid h
  have hpB := h.ne b rfl
  have e1 : (L.length : Int) - 1 = (m : Int) := by omega
  have i1 : (m : Int) < (L.length : Int) := by omega
  have i2 : (m : Int) ≤ (c : Int) := by omega
  have i3 : ¬ c = 0 := by omega
  unfold maxLen at hb4
  have hsl : ∀ W, (Instr.slice 48 (.slice (some ⟨b, 0, none⟩) L.length c) none (some (.int .i64 m)) none).run Try.prog W = .ok (.slice (some ⟨b, 0, none⟩) m c) W := fun W => by
    rw [run_slice_h W 48 (some ⟨b, 0, none⟩) L.length c (by rw [show Try.prog.elem 48 = 56 by kernel_rfl]; exact Try.underlying48) .i64 m (by omega) (by omega), show (sizeOf (Try.prog.elem 48)).run Try.prog W = .ok 2 W by kernel_rfl]
    simp [sliced, i3, Addr.add]
  have HM := Lib.hid hm
  clear h hm
  generalize nth L m = x at *
  go_enter Try.func39, Try.ntmps39
  go_upto_region 3 with fail
  have hbx := heap_alloc_new w (.cells #[.int .i64 x.1, .int .i64 x.2] 56)
  have e0 : Ext w (w.alloc (.cells #[.int .i64 x.1, .int .i64 x.2] 56)) := Ext.alloc _ _
  generalize w.alloc (.cells #[.int .i64 x.1, .int .i64 x.2] 56) = W at *
  have P0 := e0.cell p0
  have F0 := (e0.frozen p0).trans f0
  have X0 : W.cell? ⟨w.heap.size, 0, none⟩ = some (.int .i64 x.1) := by simp [World.cell?, hbx]
  have X1 : W.cell? ⟨w.heap.size, 1, none⟩ = some (.int .i64 x.2) := by simp [World.cell?, hbx]
  have n1 : ¬ pb = w.heap.size := by have := H.out.lt; omega
  have n2 : ¬ w.heap.size = pb := by omega
  clear hbx
  go_wp2
  go_ret
  refine ⟨rfl, _, ((H.out.ext e0).newRow (by have := e0.size; omega) (Nat.le_refl _) (Turn.refl _ _) (dropLast_row (H.out.ext e0).ent HM.out) (fun y hy => .inl hy)).1, ?_⟩
  exact (PStep.of_ext e0 pb _).trans ((H.out.ext e0).newRow (by have := e0.size; omega) (Nat.le_refl _) (Turn.refl _ _) (dropLast_row (H.out.ext e0).ent HM.out) (fun y hy => .inl hy)).2
theorem swap_far {L : List Ent} {i j n : Nat} (hi : i < n) (hj : j < n) (hn : n ≤ L.length) : ∀ c, n ≤ c → nth (swap L i j) c = nth L c := fun c hc => by
  rw [nth_swap (by omega) (by omega), if_neg (by omega), if_neg (by omega)]
theorem up_is {w : World} {B pb : Nat} {v : Value} {L : List Ent} {j n : Nat} (h : PileAt w B pb v L) (hup : UpAt L n j) (hj : j < n) (hn : n ≤ L.length) (hl : L.length ≤ 1000) :
    Calls Try.prog 19 #[.iface 46 (.pointer (some ⟨pb, 0, none⟩)), .int .i64 j] w fun e w' => e = .returned (.tuple #[]) ∧ ∃ L', L'.length = L.length ∧ L'.Perm L ∧ HeapN L' n ∧ (∀ c, n ≤ c → nth L' c = nth L c) ∧ PileAt w' B pb v L' ∧ Turn (fp v) w w' := by
  obtain ⟨b, c, rfl, hb1, hb2, hb3, hb4⟩ := h.form (by omega)
  have H := Lib.hid h
  have HU := Lib.hid hup
  clear h hup
  go_enter Try.func19, Try.ntmps19
  go_wp2_with fail
  go_loopw [1] (fun i wr => ∃ (jj : Nat) (L' : List Ent), i = .int .i64 jj ∧ jj < n ∧ L'.length = L.length ∧ L'.Perm L ∧ UpAt L' n jj ∧ (∀ c, n ≤ c → nth L' c = nth L c) ∧ PileAt wr B pb (.slice (some ⟨b, 0, none⟩) L.length c) L' ∧ Turn [b] w wr) (fun i _ => (intOf i).toNat)
  case atStart => exact ⟨j, L, rfl, hj, rfl, List.Perm.refl _, HU.out, fun _ _ => rfl, H.out, Turn.refl _ _⟩
  case round =>
    obtain ⟨jj, L', rfl, hjj, hll, hp, hu, hfar, hP, hT⟩ := hrel
    have HFR := Lib.hid hfar
    clear hfar
    obtain ⟨p0, _⟩ := hP.cell
    have HP := Lib.hid hP; have HT := Lib.hid hT; have HUP := Lib.hid hu; have HPM := Lib.hid hp; have HLL := Lib.hid hll
    clear hP hT hu hp hll
    have hent : EntRow wr B (.slice (some ⟨b, 0, none⟩) L'.length c) L' := by rw [HLL.out]; exact HP.out.ent
    have HE := Lib.hid hent
    clear hent
    by_cases h0 : jj = 0
    · subst h0
      have q0 : ((0 : Int) - 1).tdiv 2 = 0 := by decide
      go_wp2_with fail
      go_end0
      exact ⟨rfl, L', HLL.out, HPM.out, HUP.out.done (.inl rfl), HFR.out, HP.out, HT.out⟩
    · have e1 : ((jj : Int) - 1) / 2 = (par jj : Int) := by unfold par; omega
      have hpl := par_lt (Nat.pos_of_ne_zero h0)
      have t1 : ((par jj : Int) == (jj : Int)) = false := beq_false_of_ne (by omega)
      have t2 : (par jj == jj) = false := beq_false_of_ne (by omega)
      have hpar : par jj < L'.length := by have := HLL.out; omega
      have hml : (method 215 46 (.pointer (some ⟨pb, 0, none⟩)) "Less").run Try.prog wr = .ok (38, .slice (some ⟨b, 0, none⟩) L.length c) wr := m_less p0 214
      have hLS := less_is HE.out (i := jj) (j := par jj) (by have := HLL.out; omega) hpar
      rw [HLL.out] at hLS
      have HLS := Lib.hid hLS
      clear hLS
      by_cases hlt : lt (nth L' jj) (nth L' (par jj))
      · rw [decide_eq_true hlt] at HLS
        go_wp2_with fail
        refine HLS.out.mono ?_; rintro e w1 ⟨rfl, x1⟩
        have hmw : (method 215 46 (.pointer (some ⟨pb, 0, none⟩)) "Swap").run Try.prog w1 = .ok (41, .slice (some ⟨b, 0, none⟩) L.length c) w1 := m_swap (x1.cell p0) 214
        have hSW := swap_is (HE.out.turn (Turn.of_ext (bs := []) x1) (by simp)) (i := par jj) (j := jj) hpar (by have := HLL.out; omega) (by omega)
        rw [HLL.out] at hSW
        have HSW := Lib.hid hSW
        have HX1 := Lib.hid x1
        have HLT := Lib.hid hlt
        clear hSW x1 hlt
        go_wp2_with fail
        refine HSW.out.mono ?_; rintro e w2 ⟨rfl, hE2, hT2⟩
        have hsl : (swap L' (par jj) jj).length = L.length := by rw [swap_length]; exact HLL.out
        have hP2 := (HP.out.ext HX1.out).ent
        have HN := Lib.hid (show PileAt w2 B pb (.slice (some ⟨b, 0, none⟩) L.length c) (swap L' (par jj) jj) ∧ Turn [b] w w2 from
          ⟨⟨by rw [hT2.block pb (HP.out.ext HX1.out).lt (by have := HP.out.ne b rfl; simp; omega)]; exact (HP.out.ext HX1.out).row, by rw [← HLL.out]; rw [← HLL.out] at hE2; exact hE2, HP.out.ne⟩, (HT.out.trans (Turn.of_ext HX1.out)).trans hT2⟩)
        clear hE2 hT2 hP2
        go_wp2_with fail
        exact ⟨⟨par jj, swap L' (par jj) jj, rfl, by omega, hsl, (swap_perm hpar (by have := HLL.out; omega)).trans HPM.out, HUP.out.step (by rw [HLL.out]; exact hn) (by omega) hjj HLT.out, fun c hc => (swap_far (n := n) (by omega) hjj (by rw [HLL.out]; exact hn) c hc).trans (HFR.out c hc), HN.out.1, HN.out.2⟩, by simp [intOf]; omega⟩
      · rw [decide_eq_false hlt] at HLS
        go_wp2_with fail
        refine HLS.out.mono ?_; rintro e w1 ⟨rfl, x1⟩
        have HLT := Lib.hid hlt
        clear hlt
        go_wp2_with fail
        go_end0
        exact ⟨rfl, L', HLL.out, HPM.out, HUP.out.done (.inr HLT.out), HFR.out, HP.out.ext x1, HT.out.trans (Turn.of_ext x1)⟩
end Go.Proofs.Ytgapjglijpdkmaa
