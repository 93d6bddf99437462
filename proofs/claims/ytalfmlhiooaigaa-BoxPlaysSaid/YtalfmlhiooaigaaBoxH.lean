/- Small helpers of the statements: a message's size, its copy; are two alike; the list of 1 and a text. -/
import Derived.Test.YtalfmlhiooaigaaBoxG
import Derived.Test.YtalfmlhiooaigaaSli
import Derived.Test.YtalfmlhiooaigaaTurn
namespace Go.Proofs.Ytalfmlhiooaigaa
open Go.RowKit
set_option maxHeartbeats 4000000
set_option maxRecDepth 100000
theorem ECel : ElemT Try.prog 29 41 4 40 := ⟨Try.underlying29, ⟨.agg #[.int .i64 0, .int .i64 0, .int .i64 0, .string ByteArray.empty], by kernel_rfl, rfl⟩, by decide⟩
theorem celC_rows (M : List Cl) : Rows1 4 (M.map celC) := by
  intro l hl
  obtain ⟨x, _, rfl⟩ := List.mem_map.1 hl
  refine ⟨rfl, fun u hu => ?_⟩
  simp [celC] at hu
  rcases hu with rfl | rfl | rfl | rfl <;> rfl
theorem own_empty (W : World) (T : TypeId) : OwnP (W.alloc (.cells #[] T)) W.heap.size T (.slice (some ⟨W.heap.size, 0, none⟩) 0 0) 4 [] :=
  OwnP.of_form (l := []) (cap := 0) (cur := #[]) (Rows1.nil 4) (Nat.le_refl _) (heap_alloc_new _ _) (Nat.le_refl _) (Nat.zero_le _) rfl rfl
theorem own_msg {w : World} {v : Value} {M : List Cl} (h : MsgP w v M) (hl : M.length ≤ 6000) : Calls Try.prog 12 #[v] w fun e w' => ∃ v', e = .returned v' ∧ OwnP w' w.heap.size 41 v' 4 (M.map celC) ∧ Ext w w' := by
  have HV := Lib.hid h
  obtain ⟨q, c, rfl, h1, h2, hc⟩ := RowsP.at h
  rw [List.length_map] at h1 HV ⊢
  clear h hc
  go_enter Try.func12, Try.ntmps12
  go_wp2_with (refine wpList_append_rows ECel (by rfl) _ _ (by rfl) w.heap.size (.slice (some ⟨w.heap.size, 0, none⟩) 0 0) (.slice q M.length c) [] (M.map celC) (by rfl) (own_empty w _) (by rfl) (RowsP.ext HV.out (Ext.alloc _ _)) (by simp; unfold maxLen; omega) (by simp; omega) (by simp) ?_)
  intro v2 w2 ho2 hg2 hb2 _
  have hx2 : Ext w w2 := Below.grown (Below.alloc (Ext.refl w) (by omega) _) hg2 (by simp) (fun b hb => by simp [Value.ownBlock] at hb; omega)
  have HO2 := Lib.hid ho2
  have HX2 := Lib.hid hx2
  clear ho2 hg2 hb2 hx2
  go_wp2
  go_ret
  exact ⟨v2, rfl, HO2.out, HX2.out⟩
theorem large_msg {w : World} {v : Value} {M : List Cl} (h : MsgP w v M) : Calls Try.prog 8 #[v] w fun e w' => ∃ b, e = .returned (.bool b) ∧ (b = false → M.length ≤ 3000) ∧ w' = w := by
  obtain ⟨q, c, rfl, h1, h2, hc⟩ := RowsP.at h
  rw [List.length_map] at h1 ⊢
  have HC := Lib.hid hc
  clear h hc
  unfold maxLen at h2
  go_enter Try.func8, Try.ntmps8
  go_wp2_with fail
  go_loopw [3, 4] (fun n i wr => ∃ k m : Nat, k ≤ M.length ∧ i = .int .i64 k ∧ n = .int .i64 m ∧ k ≤ m ∧ m ≤ 6001 ∧ wr = w) (fun _ i _ => M.length - (intOf i).toNat)
  case atStart => exact ⟨0, 0, by omega, rfl, rfl, by omega, by omega, rfl⟩
  case round =>
    obtain ⟨k, m, hk, rfl, rfl, hm, hm2, rfl⟩ := hrel
    by_cases hlt : k < M.length
    · have i1 : (k : Int) < (M.length : Int) := by omega
      by_cases hs : m ≤ 3000
      · have hxk := List.getElem?_eq_getElem hlt
        generalize M[k] = x at hxk
        obtain ⟨b, off, rfl, hcell⟩ := HC.out k (celC x) (by rw [List.getElem?_map, hxk]; rfl)
        have y3 := hcell 3 _ rfl
        clear hcell hxk
        obtain ⟨xk, xt, xn, xs⟩ := x
        dsimp only at y3
        have b1 : decide ((m : Int) ≤ 3000) = true := decide_eq_true (by omega)
        by_cases ht : xs.size ≤ 3000
        · have hmin : min (xs.size : Int) 3000 = xs.size := by omega
          go_wp2_with fail
          refine ⟨⟨k + 1, m + (1 + xs.size), by omega, by go_num, by go_num, by omega, by omega, by first | rfl | trivial⟩, by simp [intOf]; omega⟩
        · have hmin : min (xs.size : Int) 3000 = 3000 := by omega
          go_wp2_with fail
          refine ⟨⟨k + 1, m + (1 + 3000), by omega, by go_num, by go_num, by omega, by omega, by first | rfl | trivial⟩, by simp [intOf]; omega⟩
      · have b1 : decide ((m : Int) ≤ 3000) = false := decide_eq_false (by omega)
        go_wp2_with fail
        go_ret
        exact ⟨_, rfl, fun hb => absurd (of_decide_eq_false hb) (by omega), rfl⟩
    · obtain rfl : k = M.length := by omega
      go_wp2_with fail
      go_ret
      exact ⟨_, rfl, fun hb => by have := of_decide_eq_false hb; omega, rfl⟩
theorem one_is (w : World) : Calls Try.prog 17 #[] w fun e w' => ∃ v', e = .returned v' ∧ OwnP w' w.heap.size 41 v' 4 ([⟨1, 1, 2, ByteArray.empty⟩, ⟨0, 0, 1, ByteArray.empty⟩, ⟨1, 1, 2, ByteArray.empty⟩, ⟨2, 0, 0, ⟨#[97, 98]⟩⟩, ⟨0, 0, 0, ByteArray.empty⟩].map celC) ∧ Ext w w' := by
  go_enter Try.func17, Try.ntmps17
  go_wp2
  go_ret
  refine ⟨_, rfl, OwnP.of_form (l := List.map celC _) (cap := 5) (celC_rows _) (Nat.le_refl _) (heap_alloc_new _ _) (by simp) (by unfold maxLen; omega) (by rfl) (by rfl), Ext.alloc _ _⟩
theorem msg_true {w : World} {va vb : Value} {M : List Cl} (ha : MsgP w va M) (hb : MsgP w vb M) : Calls Try.prog 14 #[va, vb] w fun e w' => e = .returned (.bool true) ∧ Ext w w' := by
  obtain ⟨q, c, rfl, h1, h2, hc⟩ := RowsP.at ha
  obtain ⟨q', c', rfl, h1', h2', hc'⟩ := RowsP.at hb
  rw [List.length_map] at h1 h1' ⊢
  have HC := Lib.hid hc
  have HC' := Lib.hid hc'
  clear ha hb hc hc'
  unfold maxLen at h2 h2'
  go_enter Try.func14, Try.ntmps14
  go_wp2_with fail
  go_loopw [5] (fun i wr => ∃ k : Nat, k ≤ M.length ∧ i = .int .i64 k ∧ Ext w wr) (fun i _ => M.length - (intOf i).toNat)
  case atStart => exact ⟨0, by omega, rfl, Ext.refl _⟩
  case round =>
    obtain ⟨k, hk, rfl, hx⟩ := hrel
    have HX := Lib.hid hx
    clear hx
    by_cases hlt : k < M.length
    · have hxk := List.getElem?_eq_getElem hlt
      generalize M[k] = x at hxk
      obtain ⟨b, off, rfl, hcell⟩ := HC.out k (celC x) (by rw [List.getElem?_map, hxk]; rfl)
      obtain ⟨b', off', rfl, hcell'⟩ := HC'.out k (celC x) (by rw [List.getElem?_map, hxk]; rfl)
      have y0 := HX.out.cell (hcell 0 _ rfl); have y1 := HX.out.cell (hcell 1 _ rfl); have y2 := HX.out.cell (hcell 2 _ rfl); have y3 := HX.out.cell (hcell 3 _ rfl)
      have z0 := HX.out.cell (hcell' 0 _ rfl); have z1 := HX.out.cell (hcell' 1 _ rfl); have z2 := HX.out.cell (hcell' 2 _ rfl); have z3 := HX.out.cell (hcell' 3 _ rfl)
      rw [Nat.add_zero] at y0 z0
      have i1 : (k : Int) < (M.length : Int) := by omega
      clear hcell hcell' hxk
      obtain ⟨xk, xt, xn, xs⟩ := x
      dsimp only at y0 y1 y2 y3 z0 z1 z2 z3
      go_wp2
      go_quiet (fail)
      go_wp2
      exact ⟨⟨k + 1, by omega, by go_num, HX.out.trans (Ext.drewN _ _)⟩, by simp [intOf]; omega⟩
    · obtain rfl : k = M.length := by omega
      go_wp2
      go_ret
      exact ⟨rfl, HX.out⟩
end Go.Proofs.Ytalfmlhiooaigaa
