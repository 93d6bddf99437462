/- The walk of an arena's Regions. -/
import Derived.Test.YtibpnhaamdelmaaArenaD
namespace Go.Proofs.Ytibpnhaamdelmaa
open Go.RowKit Go.Maps Arena
set_option maxHeartbeats 2000000
set_option maxRecDepth 100000
theorem regions_is {w : World} {p g bm n : Nat} {ws : List Int} {R : List (Nat × Nat)} (h : ArenaAt w p g bm n ws R) :
    Calls Try.prog 23 #[.pointer (some ⟨p, 0, none⟩)] w fun e w' => ∃ v, e = .returned v ∧ PairRow w' w.heap.size v R ∧ Ext w w' := by
  have hn := h.least
  have hrl := good_len h.good
  have HA := Lib.hid h
  clear h
  go_enter Try.func23, Try.ntmps23
  go_wp2_with fail
  refine (bases_is HA.out).mono ?_; rintro e w1 ⟨v, rfl, hrow, hx⟩
  obtain ⟨q, c, rfl, hc1, hc2, hcell⟩ := row_any hrow
  have h1 := HA.out.ext hx
  have HX := Lib.hid hx; have H1 := Lib.hid h1; have HC := Lib.hid hcell
  clear hx h1 hcell hrow
  unfold maxLen at hc2
  go_wp2_with fail
  go_loopw [3, 11] (fun o i wr => ∃ j : Nat, j ≤ R.length ∧ i = .int .i64 j ∧ PairRow wr w1.heap.size o (R.take j) ∧ Ext w1 wr) (fun _ i _ => R.length - (intOf i).toNat)
  case atStart => exact ⟨0, by omega, rfl, PairRow.nil _ _, Ext.refl _⟩
  case round =>
    obtain ⟨j, hj, rfl, hpr, hxr⟩ := hrel
    obtain ⟨va, vc, rfl, hvc, hvm⟩ := hpr.len
    have htl : (R.take j).length = j := by rw [List.length_take]; omega
    rw [htl] at hvc hpr ⊢
    by_cases hlt : j < R.length
    · have hxj : R[j]? = some R[j] := List.getElem?_eq_getElem hlt
      have hmem : R[j] ∈ R := List.getElem_mem hlt
      have htk : R.take (j + 1) = R.take j ++ [R[j]] := by rw [List.take_succ_eq_append_getElem hlt]
      obtain ⟨s, rfl, hcj⟩ := HC.out j _ hxj
      have hcr := hxr.cell hcj
      have hAr := H1.out.ext hxr
      obtain ⟨c0, c1⟩ := hAr.cells
      have hb := H1.out.good.2 R[j] hmem
      have hlk := look_len (k := (R[j].1 : Int)) hAr (WalkArith.wf_i64 (by omega))
      rw [lenAt_mem H1.out.good hmem] at hlk
      generalize R[j] = x at *
      obtain ⟨xb, xl⟩ := x
      dsimp only at hcr hlk hb
      have i1 : (j : Int) < (R.length : Int) := by omega
      have HTK := Lib.hid htk
      have hown := hpr.own
      have hsz := hxr.size
      clear hxj hmem htk hcj hAr
      go_wp2_with (at_builtin; refine wpList_append_pair (w := wr) (by rfl) _ _ (by rfl) w1.heap.size (.slice va j vc) (R.take j) (by rfl) hpr xb xl wr.heap.size (by rfl) rfl (by omega) (by omega) ?_; intro v' w2 hown' hgrow)
      refine ⟨⟨j + 1, by omega, by go_num, ?_, ?_⟩, by simp [intOf]; omega⟩
      · rw [HTK.out]; exact hown'
      · exact (Below.alloc hxr hsz _).grown hgrow (by simp; omega) (fun b hb => by have := hown b hb; omega)
    · obtain rfl : j = R.length := by omega
      rw [List.take_length] at hpr
      clear htl
      go_wp2_with fail
      go_ret
      have hsz := HX.out.size
      exact ⟨_, rfl, hpr.mono hsz, HX.out.trans hxr⟩
end Go.Proofs.Ytibpnhaamdelmaa
