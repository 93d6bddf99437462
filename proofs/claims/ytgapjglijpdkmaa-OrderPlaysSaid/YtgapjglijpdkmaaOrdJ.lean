/- A queue's List. -/
import Derived.Test.YtgapjglijpdkmaaOrdI
import Derived.Test.YtgapjglijpdkmaaPairsI
namespace Go.Proofs.Ytgapjglijpdkmaa
open Go.RowKit Go.Maps Heap Go.Sort Go.Shelf
set_option maxHeartbeats 8000000
set_option maxRecDepth 100000
theorem EntRow.cellsAny {w : World} {B : Nat} {v : Value} {L : List Ent} (h : EntRow w B v L) : ∃ q c, v = .slice q L.length c ∧ L.length ≤ c ∧ c ≤ maxLen ∧ ∀ i, i < L.length → ∃ b, q = some ⟨b, 0, none⟩ ∧ w.cell? ⟨b, i * 2, none⟩ = some (.int .i64 (nth L i).1) ∧ w.cell? ⟨b, i * 2 + 1, none⟩ = some (.int .i64 (nth L i).2) := by
  rcases h.2 with ⟨h1, h2⟩ | ⟨b, c, cur, h1, hb, hg, h2, h3, h4⟩
  · exact ⟨none, 0, by rw [h1, h2], by omega, Nat.zero_le _, fun i hi => by omega⟩
  · refine ⟨_, c, h1, h2, h3, fun i hi => ⟨b, rfl, ?_⟩⟩
    subst h1
    obtain ⟨x0, x1, _, _⟩ := EntRow.cells h hi
    exact ⟨x0, x1⟩
theorem qlist_none (w : World) : Calls Try.prog 14 #[.pointer none] w fun e w' => e = .returned (.slice none 0 0) ∧ w = w' := by
  go_enter Try.func14, Try.ntmps14
  go_wp2
  go_ret
  exact ⟨rfl, rfl⟩
theorem qlist_is {w : World} {qb pb B : Nat} {v : Value} {L : List Ent} (h : QAt w qb pb B v L) (hl : L.length ≤ 900) :
    Calls Try.prog 14 #[.pointer (some ⟨qb, 0, none⟩)] w fun e w' => ∃ vo, e = .returned vo ∧ PairRow w' w.heap.size vo (sortE L) ∧ Ext w w' := by
  have q0 := h.cell
  have p0 := h.pile.cell.1
  obtain ⟨q, c, hv, hc1, hc2⟩ := h.pile.ent.nilOr
  have hma : (method 215 46 (.pointer (some ⟨pb, 0, none⟩)) "stockpot/order.all").run Try.prog w = .ok (42, v) w := by rw [hv] at p0 ⊢; exact m_all p0 214
  have HA := Lib.hid (all_is h.pile (by omega))
  have hSl : (sortE L).length = L.length := (sortE_perm L).length_eq
  clear h hv
  generalize sortE L = S at *
  go_enter Try.func14, Try.ntmps14
  go_wp2_with fail
  refine HA.out.mono ?_; rintro e w1 ⟨ve, rfl, hE, hx1⟩
  obtain ⟨qe, ce, rfl, hce1, hce2, hce⟩ := hE.cellsAny
  have HC := Lib.hid hce
  have HX := Lib.hid hx1
  clear hE hce hx1
  unfold maxLen at hce2
  go_wp2_with fail
  go_loopw [3, 14] (fun o i wr => ∃ j : Nat, j ≤ S.length ∧ i = .int .i64 j ∧ PairRow wr w1.heap.size o (S.take j) ∧ Ext w1 wr) (fun _ i _ => S.length - (intOf i).toNat)
  case atStart => exact ⟨0, by omega, rfl, PairRow.nil _ _, Ext.refl _⟩
  case round =>
    obtain ⟨j, hj, rfl, hpr, hxr⟩ := hrel
    obtain ⟨va, vc, rfl, hvc, hvm⟩ := hpr.len
    have htl : (S.take j).length = j := by rw [List.length_take]; omega
    rw [htl] at hvc hpr ⊢
    by_cases hlt : j < S.length
    · have htk : S.take (j + 1) = S.take j ++ [nth S j] := by rw [List.take_succ_eq_append_getElem hlt, nth_ge hlt]
      obtain ⟨be, rfl, y0, y1⟩ := HC.out j hlt
      have Y0 := hxr.cell y0
      have Y1 := hxr.cell y1
      generalize nth S j = x at *
      obtain ⟨xb, xl⟩ := x
      dsimp only at Y0 Y1
      have i1 : (j : Int) < (S.length : Int) := by omega
      have HTK := Lib.hid htk
      have hown := hpr.own
      have hsz := hxr.size
      clear htk y0 y1
      go_wp2_with (at_builtin; refine wpList_append_pair (w := wr.alloc (.cells #[.int .i64 xb, .int .i64 xl] 56)) (by rfl) _ _ (by rfl) w1.heap.size (.slice va j vc) (S.take j) (by rfl) (hpr.alloc _) xb xl (wr.heap.size + 1) (by rfl) (by simp) (by omega) (by simp; omega) ?_; intro v' w2 hown' hgrow)
      refine ⟨⟨j + 1, by omega, by go_num, ?_, ?_⟩, by simp [intOf]; omega⟩
      · rw [HTK.out]; exact hown'
      · exact (Below.alloc (Below.alloc hxr hsz _) (by simp; omega) _).grown hgrow (by simp; omega) (fun b hb => by have := hown b hb; omega)
    · obtain rfl : j = S.length := by omega
      rw [List.take_length] at hpr
      clear htl
      go_wp2_with fail
      go_ret
      have hsz := HX.out.size
      exact ⟨_, rfl, hpr.mono hsz, HX.out.trans hxr⟩
end Go.Proofs.Ytgapjglijpdkmaa
