/- The heap's calls over a pile; what is found; all entries. -/
import Derived.Test.YtgapjglijpdkmaaOrdD
import Derived.Lib.SlBy
namespace Go.Proofs.Ytgapjglijpdkmaa
open Go.RowKit Go.Maps Heap Go.Sort Go.Shelf
set_option maxHeartbeats 8000000
set_option maxRecDepth 100000
attribute [local go_sem ↓] Go.wp_at_zero Go.wp_at_succ
theorem nth_append_left {L : List Ent} {x : Ent} {i : Nat} (h : i < L.length) : nth (L ++ [x]) i = nth L i := by
  simp [nth, List.getD_eq_getElem?_getD, List.getElem?_append_left h]
theorem up_start {L : List Ent} {x : Ent} (h : HeapN L L.length) : UpAt (L ++ [x]) (L.length + 1) L.length := by
  refine ⟨fun c h0 hc hne => ?_, fun _ c h0 hc hp => ?_⟩
  · have := par_lt h0
    rw [nth_append_left (by omega), nth_append_left (by omega)]
    exact h c h0 (by omega)
  · have := par_lt h0
    omega
theorem hpush_is {w : World} {B pb : Nat} {v : Value} {L : List Ent} (h : PileAt w B pb v L) (hB : B ≤ w.heap.size) (hH : HeapN L L.length) (hl : L.length ≤ 900) (k r : Int) :
    Calls Try.prog 16 #[.iface 46 (.pointer (some ⟨pb, 0, none⟩)), .iface 56 (.agg #[.int .i64 k, .int .i64 r])] w fun e w' => e = .returned (.tuple #[]) ∧ ∃ v' L', L'.Perm (L ++ [(k, r)]) ∧ HeapN L' L'.length ∧ PileAt w' B pb v' L' ∧ PStep w w' pb v v' := by
  have H := Lib.hid h
  have HH := Lib.hid hH
  have hmp : (method 215 46 (.pointer (some ⟨pb, 0, none⟩)) "Push").run Try.prog w = .ok (40, .pointer (some ⟨pb, 0, none⟩)) w := m_push 214
  clear h hH
  go_enter Try.func16, Try.ntmps16
  go_wp2_with fail
  refine (push_is H.out hB (by omega) k r).mono ?_; rintro e w1 ⟨rfl, v1, hP1, hS1⟩
  obtain ⟨b, c, rfl, hb1, hb2, hb3, hb4⟩ := hP1.form (by simp)
  have hml : (method 215 46 (.pointer (some ⟨pb, 0, none⟩)) "Len").run Try.prog w1 = .ok (37, .slice (some ⟨b, 0, none⟩) (L ++ [(k, r)]).length c) w1 := m_len hP1.cell.1 214
  have HP1 := Lib.hid hP1; have HS1 := Lib.hid hS1
  clear hP1 hS1
  go_wp2_with fail
  refine len_pile.mono ?_; rintro e w' ⟨rfl, rfl⟩
  rw [show ((L.length + 1 : Nat) : Int) = (L.length : Int) + 1 by omega]
  have HUP := Lib.hid (up_is (j := L.length) (n := L.length + 1) HP1.out (up_start HH.out) (by omega) (by simp) (by simp; omega))
  have e1 : (L.length : Int) + 1 - 1 = (L.length : Int) := by omega
  go_wp2_with fail
  refine HUP.out.mono ?_; rintro e w2 ⟨rfl, L', hl1, hp, hh, _, hP2, hT2⟩
  have HR := Lib.hid (show ∃ v' L', L'.Perm (L ++ [(k, r)]) ∧ HeapN L' L'.length ∧ PileAt w2 B pb v' L' ∧ PStep w w2 pb v v' from
    ⟨_, L', hp, by rw [hl1]; simpa using hh, hP2, HS1.out.trans ⟨hT2.mono fun b hb => .tail _ hb, fun b hb => .inl hb⟩⟩)
  clear hp hh hP2 hT2 hl1
  go_wp2_with fail
  go_end0
  exact ⟨rfl, HR.out⟩
/-- the first and the last exchanged: a heap but at the first -/
theorem down_first {L : List Ent} {m : Nat} (hm : L.length = m + 1) (h : HeapN L L.length) : DownAt (swap L 0 m) m 0 0 := by
  refine ⟨fun c h0 hc hp hcc => ?_, fun h => absurd h (by omega)⟩
  have := par_lt h0
  rw [nth_swap (by omega) (by omega), nth_swap (by omega) (by omega), if_neg (by omega), if_neg (by omega), if_neg (by omega), if_neg hp]
  exact h c h0 (by omega)
theorem swap_self {L : List Ent} {i : Nat} (h : i < L.length) : swap L i i = L := by
  unfold swap
  rw [nth_ge h, List.set_getElem_self, List.set_getElem_self]
/-- what is left when the last is taken -/
theorem last_off {L : List Ent} {m : Nat} (hm : L.length = m + 1) (h : HeapN L m) : L.dropLast.length = m ∧ HeapN L.dropLast L.dropLast.length ∧ (nth L m :: L.dropLast).Perm L := by
  have hl : L.dropLast.length = m := by rw [List.length_dropLast]; omega
  have hne : L ≠ [] := by intro e; rw [e] at hm; simp at hm
  have hcat : L = L.dropLast ++ [nth L m] := by
    conv => lhs; rw [← List.dropLast_concat_getLast hne]
    congr 2
    rw [nth_ge (by omega), List.getLast_eq_getElem]
    simp [hm]
  refine ⟨hl, fun c h0 hc => ?_, ?_⟩
  · have := par_lt h0
    have e1 : ∀ i, i < m → nth L.dropLast i = nth L i := fun i hi => by
      conv => rhs; rw [hcat]
      rw [nth_append_left (by omega)]
    rw [e1 c (by omega), e1 _ (by omega)]
    exact h c h0 (by omega)
  · conv => rhs; rw [hcat]
    exact (List.perm_append_comm (l₁ := [nth L m]) (l₂ := L.dropLast))
theorem hpop_is {w : World} {B pb m : Nat} {v : Value} {L : List Ent} (h : PileAt w B pb v L) (hm : L.length = m + 1) (hH : HeapN L L.length) (hl : L.length ≤ 900) :
    Calls Try.prog 17 #[.iface 46 (.pointer (some ⟨pb, 0, none⟩))] w fun e w' => e = .returned (.iface 56 (.agg #[.int .i64 (nth L 0).1, .int .i64 (nth L 0).2])) ∧ ∃ v' L', (nth L 0 :: L').Perm L ∧ HeapN L' L'.length ∧ PileAt w' B pb v' L' ∧ PStep w w' pb v v' := by
  obtain ⟨b, c, rfl, hb1, hb2, hb3, hb4⟩ := h.form (by omega)
  have H := Lib.hid h
  have p0 := h.cell.1
  have HH := Lib.hid hH
  have HM := Lib.hid hm
  have HDF := Lib.hid (down_first hm hH)
  have hml : (method 215 46 (.pointer (some ⟨pb, 0, none⟩)) "Len").run Try.prog w = .ok (37, .slice (some ⟨b, 0, none⟩) L.length c) w := m_len p0 214
  have hms : (method 215 46 (.pointer (some ⟨pb, 0, none⟩)) "Swap").run Try.prog w = .ok (41, .slice (some ⟨b, 0, none⟩) L.length c) w := m_swap p0 214
  have e1 : (L.length : Int) - 1 = (m : Int) := by omega
  have hsw : Calls Try.prog 41 #[.slice (some ⟨b, 0, none⟩) L.length c, .int .i64 (0 : Nat), .int .i64 m] w fun e w' => e = .returned (.tuple #[]) ∧ EntRow w' B (.slice (some ⟨b, 0, none⟩) L.length c) (swap L 0 m) ∧ Turn [b] w w' := by
    by_cases h0 : m = 0
    · subst h0
      rw [swap_self (by omega)]
      exact swap_same h.ent (by omega)
    · exact swap_is h.ent (by omega) (by omega) (by omega)
  have HSW := Lib.hid hsw
  clear h hH hm hsw
  go_enter Try.func17, Try.ntmps17
  go_wp2_with fail
  refine len_pile.mono ?_; rintro e w' ⟨rfl, rfl⟩
  go_wp2_with fail
  refine HSW.out.mono ?_; rintro e w1 ⟨rfl, hE1, hT1⟩
  have hP1 := H.out.rewritten (by rw [swap_length]) hE1 hT1
  have HP1 := Lib.hid hP1; have HT1 := Lib.hid hT1
  have HDN := Lib.hid (down_is (i0 := 0) (n := m) (L := swap L 0 m) hP1 HDF.out (by rw [swap_length]; have := HM.out; omega) (by rw [swap_length]; have := HM.out; omega) (by rw [swap_length]; omega) (by omega))
  clear hE1 hT1 hP1
  go_wp2_with fail
  refine HDN.out.mono ?_; rintro e w2 ⟨moved, b', rfl, hb', L2, hl2, hp2, hfar2, hmt, hmf, hP2, hT2⟩
  obtain rfl : b = b' := by simpa [Value.ownBlock] using hb'
  have hl2' : L2.length = L.length := by rw [hl2, swap_length]
  have hh2 : HeapN L2 m := by
    cases moved with
    | true => exact hmt rfl
    | false => exact (hmf rfl).done (.inl rfl)
  have hlast : nth L2 m = nth L 0 := by
    rw [hfar2 m (Nat.le_refl _), nth_swap (by have := HM.out; omega) (by have := HM.out; omega), if_pos rfl]
  obtain ⟨o1, o2, o3⟩ := last_off (m := m) (by rw [hl2']; exact HM.out) hh2
  rw [hlast] at o3
  have HPO := Lib.hid (pop_is (m := m) hP2 (by rw [hl2']; exact HM.out) (by rw [hl2']; omega))
  have HFIN := Lib.hid (show HeapN L2.dropLast L2.dropLast.length ∧ (nth L 0 :: L2.dropLast).Perm L from ⟨o2, o3.trans (hp2.trans (swap_perm (by have := HM.out; omega) (by have := HM.out; omega)))⟩)
  have HLA := Lib.hid hlast
  have hmp : (method 215 46 (.pointer (some ⟨pb, 0, none⟩)) "Pop").run Try.prog w2 = .ok (39, .pointer (some ⟨pb, 0, none⟩)) w2 := m_pop 214
  have HT2 := Lib.hid hT2
  clear hfar2 hmt hmf hP2 hT2 hh2 hlast o1 o2 o3 hp2 hb'
  go_wp2_with fail
  refine HPO.out.mono ?_; rintro e w3 ⟨rfl, v3, hP3, hS3⟩
  rw [HLA.out]
  have HR := Lib.hid (show ∃ v' L', (nth L 0 :: L').Perm L ∧ HeapN L' L'.length ∧ PileAt w3 B pb v' L' ∧ PStep w w3 pb (.slice (some ⟨b, 0, none⟩) L.length c) v' from
    ⟨v3, L2.dropLast, HFIN.out.2, HFIN.out.1, hP3, (PStep.trans (v' := .slice (some ⟨b, 0, none⟩) L.length c) ⟨(HT1.out.trans HT2.out).mono (fun x hx => by simp [fp, Value.ownBlock] at hx ⊢; exact .inr hx), fun y hy => .inl hy⟩ hS3)⟩)
  clear hP3 hS3
  go_wp2
  go_ret
  exact ⟨rfl, HR.out⟩
end Go.Proofs.Ytgapjglijpdkmaa
