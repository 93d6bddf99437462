/- The heap's way down over a pile. -/
import Derived.Test.YtgapjglijpdkmaaOrdC
namespace Go.Proofs.Ytgapjglijpdkmaa
open Go.RowKit Go.Maps Heap Go.Sort
set_option maxHeartbeats 8000000
set_option maxRecDepth 100000
attribute [local go_sem ↓] Go.wp_at_zero Go.wp_at_succ
/-- what the way down leaves -/
def DownSaid (w : World) (B pb n i0 : Nat) (b : Nat) (v : Value) (L : List Ent) (moved : Bool) (w' : World) : Prop :=
  ∃ L', L'.length = L.length ∧ L'.Perm L ∧ (∀ c, n ≤ c → nth L' c = nth L c) ∧ (moved = true → HeapN L' n) ∧ (moved = false → UpAt L' n i0) ∧ PileAt w' B pb v L' ∧ Turn [b] w w'
theorem kids {c k : Nat} (h0 : 0 < c) (h : par c = k) : c = 2 * k + 1 ∨ c = 2 * k + 2 := by unfold par at h; omega
theorem down_is {w : World} {B pb n i0 : Nat} {v : Value} {L : List Ent} (h : PileAt w B pb v L) (hd : DownAt L n i0 i0) (hn : n ≤ L.length) (h1 : 0 < L.length) (hl : L.length ≤ 1000) (hi : i0 ≤ 1000) :
    Calls Try.prog 20 #[.iface 46 (.pointer (some ⟨pb, 0, none⟩)), .int .i64 i0, .int .i64 n] w fun e w' => ∃ (moved : Bool) (b : Nat), e = .returned (.bool moved) ∧ v.ownBlock = some b ∧ DownSaid w B pb n i0 b v L moved w' := by
  obtain ⟨b, c, rfl, hb1, hb2, hb3, hb4⟩ := h.form h1
  have H := Lib.hid h
  have HD := Lib.hid hd
  clear h hd
  go_enter Try.func20, Try.ntmps20
  go_wp2_with fail
  go_loopw [7] (fun i wr => ∃ (k : Nat) (L' : List Ent), i = .int .i64 k ∧ i0 ≤ k ∧ k ≤ 1000 ∧ L'.length = L.length ∧ L'.Perm L ∧ (∀ c, n ≤ c → nth L' c = nth L c) ∧ DownAt L' n i0 k ∧ PileAt wr B pb (.slice (some ⟨b, 0, none⟩) L.length c) L' ∧ Turn [b] w wr) (fun i _ => 1001 - (intOf i).toNat)
  case atStart => exact ⟨i0, L, rfl, Nat.le_refl _, hi, rfl, List.Perm.refl _, fun _ _ => rfl, HD.out, H.out, Turn.refl _ _⟩
  case round =>
    obtain ⟨k, L', rfl, hik, hk, hll, hp, hfar, hdn, hP, hT⟩ := hrel
    obtain ⟨p0, _⟩ := hP.cell
    have HP := Lib.hid hP; have HT := Lib.hid hT; have HDN := Lib.hid hdn; have HPM := Lib.hid hp; have HLL := Lib.hid hll; have HFR := Lib.hid hfar
    clear hP hT hdn hp hll hfar
    have hent : EntRow wr B (.slice (some ⟨b, 0, none⟩) L'.length c) L' := by rw [HLL.out]; exact HP.out.ent
    have HE := Lib.hid hent
    clear hent
    obtain ⟨j1, hj1⟩ : ∃ j1, j1 = 2 * k + 1 := ⟨_, rfl⟩
    have e1 : 2 * (k : Int) + 1 = (j1 : Int) := by omega
    have HJ1 := Lib.hid hj1
    -- how it ends where it stops here
    have HEND := Lib.hid (fun (W : World) (hx : Ext wr W) (hk' : ∀ c, 0 < c → c < n → par c = k → ¬ lt (nth L' c) (nth L' k)) => show DownSaid w B pb n i0 b (.slice (some ⟨b, 0, none⟩) L.length c) L (decide (i0 < k)) W from
      ⟨L', HLL.out, HPM.out, HFR.out, fun hm => (HDN.out.done hk').1 (by have := of_decide_eq_true hm; omega), fun hm => (HDN.out.done hk').2 (by have := of_decide_eq_false hm; omega), HP.out.ext hx, HT.out.trans (Turn.of_ext hx)⟩)
    by_cases hin : n ≤ j1
    · have t1 : decide (n ≤ j1) = true := decide_eq_true hin
      have t1' : decide ((n : Int) ≤ (j1 : Int)) = true := decide_eq_true (by omega)
      have HW := Lib.hid (HEND.out wr (Ext.refl _) (fun c h0 hc hpc => by rcases kids h0 hpc with h | h <;> omega))
      clear hj1
      go_wp2_with fail
      go_ret
      exact ⟨_, b, rfl, rfl, HW.out⟩
    have t1 : decide (n ≤ j1) = false := decide_eq_false hin
    have t1' : decide ((n : Int) ≤ (j1 : Int)) = false := decide_eq_false (by omega)
    have t2 : decide ((j1 : Int) < 0) = false := decide_eq_false (by omega)
    obtain ⟨j2, hj2⟩ : ∃ j2, j2 = j1 + 1 := ⟨_, rfl⟩
    have e2 : (j1 : Int) + 1 = (j2 : Int) := by omega
    have HJ2 := Lib.hid hj2
    have hkn : k < L'.length := by have := HLL.out; omega
    have hj1n : j1 < L'.length := by have := HLL.out; omega
    have hml : (method 215 46 (.pointer (some ⟨pb, 0, none⟩)) "Less").run Try.prog wr = .ok (38, .slice (some ⟨b, 0, none⟩) L.length c) wr := m_less p0 214
    by_cases h2n : j2 < n
    · have t3 : decide (j2 < n) = true := decide_eq_true h2n
      have t3' : decide ((j2 : Int) < (n : Int)) = true := decide_eq_true (by omega)
      have i5 : (j2 : Int) < (n : Int) := by omega
      have hLS := less_is HE.out (i := j2) (j := j1) (by have := HLL.out; omega) hj1n
      rw [HLL.out] at hLS
      have HLS := Lib.hid hLS
      clear hLS hj1 hj2
      by_cases hl2 : lt (nth L' j2) (nth L' j1)
      · rw [decide_eq_true hl2] at HLS
        have HL2 := Lib.hid hl2
        clear hl2
        go_wp2_with fail
        refine HLS.out.mono ?_; rintro e wA ⟨rfl, xA⟩
        have HXA := Lib.hid xA
        clear xA
        have hLS2 := less_is (HE.out.turn (Turn.of_ext (bs := []) HXA.out) (by simp)) (i := j2) (j := k) (by have := HLL.out; omega) hkn
        rw [HLL.out] at hLS2
        have HLS2 := Lib.hid hLS2
        have HMIN := Lib.hid (show ∀ c, 0 < c → c < n → par c = k → ¬ lt (nth L' c) (nth L' j2) from fun c h0 hc hpc => by
          have h5 := HJ1.out; have h6 := HJ2.out
          rcases kids h0 hpc with rfl | rfl
          · rw [show 2 * k + 1 = j1 by omega]; exact lt_asymm HL2.out
          · rw [show 2 * k + 2 = j2 by omega]; exact lt_irrefl _)
        have hmlA : (method 215 46 (.pointer (some ⟨pb, 0, none⟩)) "Less").run Try.prog wA = .ok (38, .slice (some ⟨b, 0, none⟩) L.length c) wA := m_less (HXA.out.cell p0) 214
        clear hLS2
        by_cases hlt : lt (nth L' j2) (nth L' k)
        · rw [decide_eq_true hlt] at HLS2
          have HLT := Lib.hid hlt
          clear hlt
          go_wp2_with fail
          refine HLS2.out.mono ?_; rintro e wB ⟨rfl, xB⟩
          have HXB := Lib.hid (HXA.out.trans xB)
          have hmw : (method 215 46 (.pointer (some ⟨pb, 0, none⟩)) "Swap").run Try.prog wB = .ok (41, .slice (some ⟨b, 0, none⟩) L.length c) wB := m_swap (HXB.out.cell p0) 214
          have hSW := swap_is (HE.out.turn (Turn.of_ext (bs := []) HXB.out) (by simp)) (i := k) (j := j2) hkn (by have := HLL.out; omega) (by have := HJ1.out; have := HJ2.out; omega)
          rw [HLL.out] at hSW
          have HSW := Lib.hid hSW
          clear hSW xB
          go_wp2_with fail
          refine HSW.out.mono ?_; rintro e wC ⟨rfl, hE2, hT2⟩
          have HN := Lib.hid (show PileAt wC B pb (.slice (some ⟨b, 0, none⟩) L.length c) (swap L' k j2) ∧ Turn [b] w wC from
            ⟨⟨by rw [hT2.block pb (HP.out.ext HXB.out).lt (by have := HP.out.ne b rfl; simp; omega)]; exact (HP.out.ext HXB.out).row, by rw [← HLL.out]; rw [← HLL.out] at hE2; exact hE2, HP.out.ne⟩, (HT.out.trans (Turn.of_ext HXB.out)).trans hT2⟩)
          have HS := Lib.hid (HDN.out.step (j := j2) (by have := HLL.out; omega) (by have := HJ1.out; have := HJ2.out; omega) (by omega) (by have := HJ1.out; have := HJ2.out; unfold par; omega) hik HLT.out HMIN.out)
          clear hE2 hT2
          go_wp2_with fail
          exact ⟨⟨j2, swap L' k j2, rfl, by have := HJ1.out; have := HJ2.out; omega, by omega, by rw [swap_length]; exact HLL.out, (swap_perm hkn (by have := HLL.out; omega)).trans HPM.out, fun c hc => (swap_far (n := n) (by have := HJ1.out; omega) (by omega) (by have := HLL.out; omega) c hc).trans (HFR.out c hc), HS.out, HN.out.1, HN.out.2⟩, by have := HJ1.out; have := HJ2.out; simp [intOf]; omega⟩
        · rw [decide_eq_false hlt] at HLS2
          have HLT := Lib.hid hlt
          clear hlt
          go_wp2_with fail
          refine HLS2.out.mono ?_; rintro e wB ⟨rfl, xB⟩
          have HW := Lib.hid (HEND.out wB (HXA.out.trans xB) (fun c h0 hc hpc => le_trans HLT.out (HMIN.out c h0 hc hpc)))
          clear xB
          go_wp2_with fail
          go_ret
          exact ⟨_, b, rfl, rfl, HW.out⟩
      · rw [decide_eq_false hl2] at HLS
        have HL2 := Lib.hid hl2
        clear hl2
        go_wp2_with fail
        refine HLS.out.mono ?_; rintro e wA ⟨rfl, xA⟩
        have HXA := Lib.hid xA
        clear xA
        have hLS2 := less_is (HE.out.turn (Turn.of_ext (bs := []) HXA.out) (by simp)) (i := j1) (j := k) (by have := HLL.out; omega) hkn
        rw [HLL.out] at hLS2
        have HLS2 := Lib.hid hLS2
        have HMIN := Lib.hid (show ∀ c, 0 < c → c < n → par c = k → ¬ lt (nth L' c) (nth L' j1) from fun c h0 hc hpc => by
          have h5 := HJ1.out; have h6 := HJ2.out
          rcases kids h0 hpc with rfl | rfl
          · rw [show 2 * k + 1 = j1 by omega]; exact lt_irrefl _
          · rw [show 2 * k + 2 = j2 by omega]; exact HL2.out)
        have hmlA : (method 215 46 (.pointer (some ⟨pb, 0, none⟩)) "Less").run Try.prog wA = .ok (38, .slice (some ⟨b, 0, none⟩) L.length c) wA := m_less (HXA.out.cell p0) 214
        clear hLS2
        by_cases hlt : lt (nth L' j1) (nth L' k)
        · rw [decide_eq_true hlt] at HLS2
          have HLT := Lib.hid hlt
          clear hlt
          go_wp2_with fail
          refine HLS2.out.mono ?_; rintro e wB ⟨rfl, xB⟩
          have HXB := Lib.hid (HXA.out.trans xB)
          have hmw : (method 215 46 (.pointer (some ⟨pb, 0, none⟩)) "Swap").run Try.prog wB = .ok (41, .slice (some ⟨b, 0, none⟩) L.length c) wB := m_swap (HXB.out.cell p0) 214
          have hSW := swap_is (HE.out.turn (Turn.of_ext (bs := []) HXB.out) (by simp)) (i := k) (j := j1) hkn (by have := HLL.out; omega) (by have := HJ1.out; have := HJ2.out; omega)
          rw [HLL.out] at hSW
          have HSW := Lib.hid hSW
          clear hSW xB
          go_wp2_with fail
          refine HSW.out.mono ?_; rintro e wC ⟨rfl, hE2, hT2⟩
          have HN := Lib.hid (show PileAt wC B pb (.slice (some ⟨b, 0, none⟩) L.length c) (swap L' k j1) ∧ Turn [b] w wC from
            ⟨⟨by rw [hT2.block pb (HP.out.ext HXB.out).lt (by have := HP.out.ne b rfl; simp; omega)]; exact (HP.out.ext HXB.out).row, by rw [← HLL.out]; rw [← HLL.out] at hE2; exact hE2, HP.out.ne⟩, (HT.out.trans (Turn.of_ext HXB.out)).trans hT2⟩)
          have HS := Lib.hid (HDN.out.step (j := j1) (by have := HLL.out; omega) (by have := HJ1.out; have := HJ2.out; omega) (by omega) (by have := HJ1.out; have := HJ2.out; unfold par; omega) hik HLT.out HMIN.out)
          clear hE2 hT2
          go_wp2_with fail
          exact ⟨⟨j1, swap L' k j1, rfl, by have := HJ1.out; have := HJ2.out; omega, by omega, by rw [swap_length]; exact HLL.out, (swap_perm hkn (by have := HLL.out; omega)).trans HPM.out, fun c hc => (swap_far (n := n) (by have := HJ1.out; omega) (by omega) (by have := HLL.out; omega) c hc).trans (HFR.out c hc), HS.out, HN.out.1, HN.out.2⟩, by have := HJ1.out; have := HJ2.out; simp [intOf]; omega⟩
        · rw [decide_eq_false hlt] at HLS2
          have HLT := Lib.hid hlt
          clear hlt
          go_wp2_with fail
          refine HLS2.out.mono ?_; rintro e wB ⟨rfl, xB⟩
          have HW := Lib.hid (HEND.out wB (HXA.out.trans xB) (fun c h0 hc hpc => le_trans HLT.out (HMIN.out c h0 hc hpc)))
          clear xB
          go_wp2_with fail
          go_ret
          exact ⟨_, b, rfl, rfl, HW.out⟩
    · have t3 : decide (j2 < n) = false := decide_eq_false h2n
      have t3' : decide ((j2 : Int) < (n : Int)) = false := decide_eq_false (by omega)
      have hn2 : ¬ j2 < n := h2n
      have HXA := Lib.hid (Ext.refl wr)
      clear hj1 hj2 h2n
      have hLS2 := less_is (HE.out.turn (Turn.of_ext (bs := []) HXA.out) (by simp)) (i := j1) (j := k) (by have := HLL.out; omega) hkn
      rw [HLL.out] at hLS2
      have HLS2 := Lib.hid hLS2
      have HMIN := Lib.hid (show ∀ c, 0 < c → c < n → par c = k → ¬ lt (nth L' c) (nth L' j1) from fun c h0 hc hpc => by
        have h5 := HJ1.out; have h6 := HJ2.out
        rcases kids h0 hpc with rfl | rfl
        · rw [show 2 * k + 1 = j1 by omega]; exact lt_irrefl _
        · omega)
      have hmlA : (method 215 46 (.pointer (some ⟨pb, 0, none⟩)) "Less").run Try.prog wr = .ok (38, .slice (some ⟨b, 0, none⟩) L.length c) wr := m_less (HXA.out.cell p0) 214
      clear hLS2
      by_cases hlt : lt (nth L' j1) (nth L' k)
      · rw [decide_eq_true hlt] at HLS2
        have HLT := Lib.hid hlt
        clear hlt
        go_wp2_with fail
        refine HLS2.out.mono ?_; rintro e wB ⟨rfl, xB⟩
        have HXB := Lib.hid (HXA.out.trans xB)
        have hmw : (method 215 46 (.pointer (some ⟨pb, 0, none⟩)) "Swap").run Try.prog wB = .ok (41, .slice (some ⟨b, 0, none⟩) L.length c) wB := m_swap (HXB.out.cell p0) 214
        have hSW := swap_is (HE.out.turn (Turn.of_ext (bs := []) HXB.out) (by simp)) (i := k) (j := j1) hkn (by have := HLL.out; omega) (by have := HJ1.out; have := HJ2.out; omega)
        rw [HLL.out] at hSW
        have HSW := Lib.hid hSW
        clear hSW xB
        go_wp2_with fail
        refine HSW.out.mono ?_; rintro e wC ⟨rfl, hE2, hT2⟩
        have HN := Lib.hid (show PileAt wC B pb (.slice (some ⟨b, 0, none⟩) L.length c) (swap L' k j1) ∧ Turn [b] w wC from
          ⟨⟨by rw [hT2.block pb (HP.out.ext HXB.out).lt (by have := HP.out.ne b rfl; simp; omega)]; exact (HP.out.ext HXB.out).row, by rw [← HLL.out]; rw [← HLL.out] at hE2; exact hE2, HP.out.ne⟩, (HT.out.trans (Turn.of_ext HXB.out)).trans hT2⟩)
        have HS := Lib.hid (HDN.out.step (j := j1) (by have := HLL.out; omega) (by have := HJ1.out; have := HJ2.out; omega) (by omega) (by have := HJ1.out; have := HJ2.out; unfold par; omega) hik HLT.out HMIN.out)
        clear hE2 hT2
        go_wp2_with fail
        exact ⟨⟨j1, swap L' k j1, rfl, by have := HJ1.out; have := HJ2.out; omega, by omega, by rw [swap_length]; exact HLL.out, (swap_perm hkn (by have := HLL.out; omega)).trans HPM.out, fun c hc => (swap_far (n := n) (by have := HJ1.out; omega) (by omega) (by have := HLL.out; omega) c hc).trans (HFR.out c hc), HS.out, HN.out.1, HN.out.2⟩, by have := HJ1.out; have := HJ2.out; simp [intOf]; omega⟩
      · rw [decide_eq_false hlt] at HLS2
        have HLT := Lib.hid hlt
        clear hlt
        go_wp2_with fail
        refine HLS2.out.mono ?_; rintro e wB ⟨rfl, xB⟩
        have HW := Lib.hid (HEND.out wB (HXA.out.trans xB) (fun c h0 hc hpc => le_trans HLT.out (HMIN.out c h0 hc hpc)))
        clear xB
        go_wp2_with fail
        go_ret
        exact ⟨_, b, rfl, rfl, HW.out⟩
end Go.Proofs.Ytgapjglijpdkmaa
