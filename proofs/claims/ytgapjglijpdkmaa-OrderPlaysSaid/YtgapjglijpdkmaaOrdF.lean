/- heap.Remove; what is found; all entries. -/
import Derived.Test.YtgapjglijpdkmaaOrdE
import Derived.Lib.SliceRun
namespace Go.Proofs.Ytgapjglijpdkmaa
open Go.RowKit Go.Maps Heap Go.Sort Go.Shelf
set_option maxHeartbeats 8000000
set_option maxRecDepth 100000
attribute [local go_sem ↓] Go.wp_at_zero Go.wp_at_succ
theorem down_mid {L : List Ent} {m i : Nat} (hm : L.length = m + 1) (hi : i < m) (h : HeapN L L.length) : DownAt (swap L i m) m i i := by
  refine ⟨fun c h0 hc hp hcc => ?_, fun h0' c h0 hc hp => ?_⟩
  · have := par_lt h0
    have hci : c ≠ i := by omega
    rw [nth_swap (by omega) (by omega), nth_swap (by omega) (by omega), if_neg (by omega), if_neg hci, if_neg (by omega), if_neg hp]
    exact h c h0 (by omega)
  · have := par_lt h0
    have := par_lt h0'
    rw [nth_swap (by omega) (by omega), nth_swap (by omega) (by omega), if_neg (by omega), if_neg (by omega), if_neg (by omega), if_neg (by omega)]
    have h1 := h c h0 (by omega)
    rw [hp] at h1
    exact le_trans (h i h0' (by omega)) h1
theorem hremove_is {w : World} {B pb m i : Nat} {v : Value} {L : List Ent} (h : PileAt w B pb v L) (hm : L.length = m + 1) (hi : i ≤ m) (hH : HeapN L L.length) (hl : L.length ≤ 900) :
    Calls Try.prog 18 #[.iface 46 (.pointer (some ⟨pb, 0, none⟩)), .int .i64 i] w fun e w' => (∃ x, e = .returned x) ∧ ∃ v' L', (nth L i :: L').Perm L ∧ HeapN L' L'.length ∧ PileAt w' B pb v' L' ∧ PStep w w' pb v v' := by
  obtain ⟨b, c, rfl, hb1, hb2, hb3, hb4⟩ := h.form (by omega)
  have H := Lib.hid h
  have p0 := h.cell.1
  have HH := Lib.hid hH
  have HM := Lib.hid hm
  have hml : (method 215 46 (.pointer (some ⟨pb, 0, none⟩)) "Len").run Try.prog w = .ok (37, .slice (some ⟨b, 0, none⟩) L.length c) w := m_len p0 214
  have hms : (method 215 46 (.pointer (some ⟨pb, 0, none⟩)) "Swap").run Try.prog w = .ok (41, .slice (some ⟨b, 0, none⟩) L.length c) w := m_swap p0 214
  have hmp : ∀ W, (method 215 46 (.pointer (some ⟨pb, 0, none⟩)) "Pop").run Try.prog W = .ok (39, .pointer (some ⟨pb, 0, none⟩)) W := fun W => m_pop 214
  have e1 : (L.length : Int) - 1 = (m : Int) := by omega
  by_cases him : i = m
  · have t1 : ((m : Int) != (i : Int)) = false := by simp [him]
    have t2 : (m != i) = false := by simp [him]
    have HPO := Lib.hid (pop_is (m := m) h hm (by omega))
    obtain ⟨o1, o2, o3⟩ := last_off hm (fun c h0 hc => hH c h0 (by omega))
    have HO := Lib.hid (show HeapN L.dropLast L.dropLast.length ∧ (nth L i :: L.dropLast).Perm L from ⟨o2, by rw [him]; exact o3⟩)
    clear h hH hm him o1 o2 o3
    go_enter Try.func18, Try.ntmps18
    go_wp2_with fail
    refine len_pile.mono ?_; rintro e w' ⟨rfl, rfl⟩
    go_wp2_with fail
    refine HPO.out.mono ?_; rintro e w3 ⟨rfl, v3, hP3, hS3⟩
    go_wp2
    go_ret
    exact ⟨⟨_, rfl⟩, v3, _, HO.out.2, HO.out.1, hP3, hS3⟩
  · have him' : i < m := by omega
    have t1 : ((m : Int) != (i : Int)) = true := by simp; omega
    have t2 : (m != i) = true := by simp; omega
    have HDF := Lib.hid (down_mid hm him' hH)
    have HSW := Lib.hid (swap_is h.ent (i := i) (j := m) (by omega) (by omega) him)
    clear h hH hm him
    go_enter Try.func18, Try.ntmps18
    go_wp2_with fail
    refine len_pile.mono ?_; rintro e w' ⟨rfl, rfl⟩
    go_wp2_with fail
    refine HSW.out.mono ?_; rintro e w1 ⟨rfl, hE1, hT1⟩
    have hP1 := H.out.rewritten (by rw [swap_length]) hE1 hT1
    have HT1 := Lib.hid hT1
    have HDN := Lib.hid (down_is (i0 := i) (n := m) (L := swap L i m) hP1 HDF.out (by rw [swap_length]; have := HM.out; omega) (by rw [swap_length]; have := HM.out; omega) (by rw [swap_length]; omega) (by have := HM.out; omega))
    clear hE1 hT1 hP1
    go_wp2_with fail
    refine HDN.out.mono ?_; rintro e w2 ⟨moved, b', rfl, hb', L2, hl2, hp2, hfar2, hmt, hmf, hP2, hT2⟩
    obtain rfl : b = b' := by simpa [Value.ownBlock] using hb'
    have hl2' : L2.length = L.length := by rw [hl2, swap_length]
    have hfar : nth L2 m = nth L i := by
      rw [hfar2 m (Nat.le_refl _), nth_swap (by have := HM.out; omega) (by have := HM.out; omega), if_pos rfl]
    have HP2 := Lib.hid hP2; have HT2 := Lib.hid (HT1.out.trans hT2)
    have HPM := Lib.hid (hp2.trans (swap_perm (by have := HM.out; omega) (by have := HM.out; omega)))
    have HL2 := Lib.hid hl2'
    have HFA := Lib.hid hfar
    clear hP2 hT2 hp2 hl2' hfar hfar2 hl2 hb'
    cases moved with
    | true =>
      have hh2 := hmt rfl
      obtain ⟨o1, o2, o3⟩ := last_off (m := m) (by rw [HL2.out]; exact HM.out) hh2
      rw [HFA.out] at o3
      have HO := Lib.hid (show HeapN L2.dropLast L2.dropLast.length ∧ (nth L i :: L2.dropLast).Perm L from ⟨o2, o3.trans HPM.out⟩)
      have HPO := Lib.hid (pop_is (m := m) HP2.out (by rw [HL2.out]; exact HM.out) (by rw [HL2.out]; omega))
      clear hmt hmf hh2 o1 o2 o3
      go_wp2_with fail
      refine HPO.out.mono ?_; rintro e w3 ⟨rfl, v3, hP3, hS3⟩
      have HR := Lib.hid (PStep.trans (v' := .slice (some ⟨b, 0, none⟩) L.length c) ⟨HT2.out.mono (fun x hx => by simp [fp, Value.ownBlock] at hx ⊢; exact .inr hx), fun y hy => .inl hy⟩ hS3)
      go_wp2
      go_ret
      exact ⟨⟨_, rfl⟩, v3, _, HO.out.2, HO.out.1, hP3, HR.out⟩
    | false =>
      have hu2 := hmf rfl
      have hUP := up_is (j := i) (n := m) HP2.out hu2 him' (by rw [HL2.out]; have := HM.out; omega) (by rw [HL2.out]; omega)
      have HUP := Lib.hid hUP
      clear hmt hmf hu2 hUP
      go_wp2_with fail
      refine HUP.out.mono ?_; rintro e w3 ⟨rfl, L3, hl3, hp3, hh3, hfar3, hP3, hT3⟩
      obtain ⟨o1, o2, o3⟩ := last_off (m := m) (L := L3) (by rw [hl3, HL2.out]; exact HM.out) hh3
      rw [hfar3 m (Nat.le_refl _), HFA.out] at o3
      have HO := Lib.hid (show HeapN L3.dropLast L3.dropLast.length ∧ (nth L i :: L3.dropLast).Perm L from ⟨o2, o3.trans (hp3.trans HPM.out)⟩)
      have HPO := Lib.hid (pop_is (m := m) hP3 (by rw [hl3, HL2.out]; exact HM.out) (by rw [hl3, HL2.out]; omega))
      have HT3 := Lib.hid (HT2.out.trans (hT3.mono (cs := [b]) (by intro x hx; simp [fp, Value.ownBlock] at hx ⊢; exact hx)))
      clear o1 o2 o3 hl3 hp3 hh3 hfar3 hP3 hT3
      go_wp2_with fail
      refine HPO.out.mono ?_; rintro e w4 ⟨rfl, v4, hP4, hS4⟩
      have HR := Lib.hid (PStep.trans (v' := .slice (some ⟨b, 0, none⟩) L.length c) ⟨HT3.out.mono (fun x hx => by simp [fp, Value.ownBlock] at hx ⊢; exact .inr hx), fun y hy => .inl hy⟩ hS4)
      go_wp2
      go_ret
      exact ⟨⟨_, rfl⟩, v4, _, HO.out.2, HO.out.1, hP4, HR.out⟩
/-- where a key's entry is; below 0: nowhere -/
def findI (L : List Ent) (key : Int) : Int := Lib.idxBy (fun (_ y : Ent) => y.1 == key) (L.take L.length) default
theorem idxFrom_spec (key : Int) (d : Ent) : ∀ (l : List Ent) (i : Nat), (Lib.idxByFrom (fun (_ y : Ent) => y.1 == key) d l i = -1 ∧ ∀ e ∈ l, e.1 ≠ key) ∨ ∃ k, k < l.length ∧ Lib.idxByFrom (fun (_ y : Ent) => y.1 == key) d l i = ((i + k : Nat) : Int) ∧ (nth l k).1 = key
  | [], i => .inl ⟨rfl, fun e h => by cases h⟩
  | y :: l, i => by
    by_cases h : y.1 = key
    · refine .inr ⟨0, by simp, ?_, h⟩
      simp [Lib.idxByFrom, h]
    · have hb : (y.1 == key) = false := beq_false_of_ne h
      rcases idxFrom_spec key d l (i + 1) with ⟨h1, h2⟩ | ⟨k, h1, h2, h3⟩
      · refine .inl ⟨by simp [Lib.idxByFrom, hb, h1], fun e he => ?_⟩
        rcases List.mem_cons.1 he with rfl | he
        · exact h
        · exact h2 e he
      · refine .inr ⟨k + 1, by simp; omega, ?_, ?_⟩
        · simp only [Lib.idxByFrom, hb, Bool.false_eq_true, if_false]
          rw [h2]
          omega
        · simpa [nth] using h3
theorem find_spec (L : List Ent) (key : Int) : (findI L key = -1 ∧ ∀ e ∈ L, e.1 ≠ key) ∨ ∃ k, k < L.length ∧ findI L key = (k : Int) ∧ (nth L k).1 = key := by
  have := idxFrom_spec key default (L.take L.length) 0
  rw [List.take_length] at this
  unfold findI Lib.idxBy
  rw [List.take_length]
  simpa using this
theorem pred_is (key : Int) (B : Nat) (w : World) (hB : B < w.heap.size) (hcell : w.cell? ⟨B, 0, none⟩ = some (.int .i64 key)) :
    PredBelow Try.prog 48 #[.pointer (some ⟨B, 0, none⟩)] (fun x => .agg (entC x).toArray) (fun x => x.1 == key) w := fun W x hb => by
  have hc : W.cell? ⟨B, 0, none⟩ = some (.int .i64 key) := (hb.cell (p := ⟨B, 0, none⟩) hB).trans hcell
  have hBW : B < W.heap.size := Nat.lt_of_lt_of_le hB hb.size
  have hne : B ≠ W.heap.size := by omega
  show Calls Try.prog 48 #[.agg #[.int .i64 x.1, .int .i64 x.2], .pointer (some ⟨B, 0, none⟩)] W _
  go_enter Try.func48, Try.ntmps48
  go_wp2
  go_ret
  exact ⟨rfl, hb.alloc hb.size _⟩
theorem getBang (L : List Ent) (j : Nat) : L[j]! = nth L j := by
  rw [List.getElem!_eq_getElem?_getD]
  simp [nth, List.getD_eq_getElem?_getD]
  rfl
theorem index_nil (fv : Value) (w : World) : Calls Try.prog 47 #[.slice none 0 0, fv] w fun e w' => e = .returned (.int .i64 (-1)) ∧ w = w' := by
  go_enter Try.func47, Try.ntmps47
  go_wp2
  go_loop [5, 8] (fun s i => i = .int .i64 0) (fun _ _ => 0)
  case atStart => rfl
  case round =>
    obtain rfl := hrel
    go_wp2
    go_ret
    exact ⟨rfl, rfl⟩
theorem find_is {w : World} {B pb : Nat} {v : Value} {L : List Ent} (h : PileAt w B pb v L) (key : Int) (hl : L.length ≤ 1000) :
    Calls Try.prog 43 #[v, .int .i64 key] w fun e w' => e = .returned (.int .i64 (findI L key)) ∧ Ext w w' := by
  rcases h.ent.2 with ⟨hv, hl0⟩ | ⟨b, c, cur, hv, hb, hg, h2, h3, h4, h5⟩
  · have hnil : L = [] := List.length_eq_zero_iff.1 hl0
    subst hv; subst hnil
    have HF := Lib.hid (show findI [] key = -1 from rfl)
    clear h
    go_enter Try.func43, Try.ntmps43
    go_wp2_with fail
    refine (index_nil _ _).mono ?_; rintro e w1 ⟨rfl, rfl⟩
    go_wp2
    go_ret
    exact ⟨by rw [HF.out]; rfl, Ext.alloc _ _⟩
  · subst hv
    have eg : ∀ args w, (callFunc 48 args).run Try.prog w = .ok (.enter 48 args) w := enters_of Try.func48 (by kernel_rfl) rfl
    have hbs := (Array.getElem?_eq_some_iff.1 hg).1
    have hcon := AnyQ.slices_IndexFunc Try.indexA 2 (fun w => by kernel_rfl) (fun w => by kernel_rfl) entC (fun _ => rfl) (fun x => x.1 == key) 48 #[.pointer (some ⟨w.heap.size, 0, none⟩)] eg b 0 L.length c L (w.alloc (.cells #[.int .i64 key] 3))
      (pred_is key w.heap.size _ (by simp) (by simp)) (Nat.le_refl _) (by omega) (by simp; omega) (fun j hj i u hi => by
        refine Lib.cell?_alloc_some _ ?_
        obtain ⟨x0, x1, _, _⟩ := EntRow.cells h.ent hj
        rw [getBang] at hi
        rw [Nat.zero_add]
        match i, hi with
        | 0, hi => simp [entC] at hi; rw [← hi]; exact x0
        | 1, hi => simp [entC] at hi; rw [← hi]; exact x1
        | i + 2, hi => simp [entC] at hi)
    change Calls Try.prog 47 _ _ _ at hcon
    have HF := Lib.hid (show findI L key = Lib.idxBy (fun (_ y : Ent) => y.1 == key) (L.take L.length) default from rfl)
    rw [← HF.out] at hcon
    have HCON := Lib.hid hcon
    clear hcon h hg h5
    go_enter Try.func43, Try.ntmps43
    go_wp2_with fail
    refine HCON.out.mono ?_; rintro e w1 ⟨rfl, hb1⟩
    go_wp2
    go_ret
    exact ⟨rfl, ((Below.refl _ w).alloc (Nat.le_refl _) _).trans (hb1.mono (by simp))⟩
end Go.Proofs.Ytgapjglijpdkmaa
