/- All entries of a pile, as they come. -/
import Derived.Test.YtgapjglijpdkmaaOrdF
namespace Go.Proofs.Ytgapjglijpdkmaa
open Go.RowKit Go.Maps Heap Go.Sort Go.Shelf
set_option maxHeartbeats 8000000
set_option maxRecDepth 100000
/-- entries as they come -/
def sortE (L : List Ent) : List Ent := L.mergeSort fun x y => !decide (lt y x)
theorem lt_tot (a b : Ent) : (!decide (lt b a) || !decide (lt a b)) = true := by
  by_cases h : lt b a
  · simp [lt_asymm h]
  · simp [h]
theorem sortE_perm (L : List Ent) : (sortE L).Perm L := List.mergeSort_perm L _
theorem sortE_sorted (L : List Ent) : (sortE L).Pairwise fun a b => ¬ lt b a := by
  have := List.pairwise_mergeSort (le := fun x y : Ent => !decide (lt y x)) (fun a b c h1 h2 => by simp at *; exact le_trans h1 h2) (fun a b => lt_tot a b) L
  exact this.imp fun h => by simpa using h
/-- a sorted row of the same entries is that one -/
theorem sortE_eq {L S : List Ent} (hp : S.Perm L) (hs : S.Pairwise fun a b => ¬ lt b a) : sortE L = S :=
  List.Perm.eq_of_pairwise (fun a b _ _ h1 h2 => (le_antisymm h2 h1)) (sortE_sorted L) hs ((sortE_perm L).trans hp.symm)
theorem ltOf_cf : (ltOf cf) = fun a b => decide (lt a b) := by
  funext a b
  unfold ltOf
  rw [decide_eq_decide]
  exact cf_lt a b
theorem swo_cf : SWO (ltOf cf) := by
  rw [ltOf_cf]
  refine ⟨fun x => by simp [lt_irrefl], fun x y z h1 h2 => ?_, fun x y z h1 h2 => ?_⟩
  · simp at *; exact lt_trans h1 h2
  · simp at *; exact le_trans h2 h1
theorem cf_parts (x y : Ent) (h1 : ltOf cf x y = false) (h2 : ltOf cf y x = false) : x = y := by
  rw [ltOf_cf] at h1 h2
  simp at h1 h2
  exact le_antisymm h1 h2
theorem flatK_at (d : List Ent) (j : Nat) (hj : j < d.length * 2) : (d.flatMap entC)[j]? = some (flatK entC 2 d.toArray)[j]! := by
  rw [get_flatK entC 2 d.toArray j (by simpa using hj)]
  obtain ⟨h0, h1⟩ := entC_at d (j / 2) (by omega)
  have hb : d.toArray[j / 2]! = nth d (j / 2) := by
    rw [nth_ge (show j / 2 < d.length by omega)]
    simp [show j / 2 < d.length by omega]
  rw [hb]
  rcases Nat.mod_two_eq_zero_or_one j with e | e
  · rw [e]
    rw [show j / 2 * 2 = j by omega] at h0
    rw [h0]; rfl
  · rw [e]
    rw [show j / 2 * 2 + 1 = j by omega] at h1
    rw [h1]; rfl
theorem holdsK_of {w : World} {B b c : Nat} {L : List Ent} (h : EntRow w B (.slice (some ⟨b, 0, none⟩) L.length c) L) : HoldsK entC 2 w b 0 L.toArray := by
  intro j hj
  rw [size_flatK] at hj
  simp at hj
  rw [Nat.zero_add]
  exact ⟨by rw [World.ownsRow.cellAt h j hj, flatK_at L j hj]; rfl, World.ownsRow.frozenAt h j⟩
theorem sorted_row {w : World} {B b c n : Nat} {os : Array Obj} {L S : List Ent} (h : EntRow w B (.slice (some ⟨b, 0, none⟩) L.length c) L) (hl : S.length = L.length) :
    EntRow (sortWorldK entC 2 w b 0 n S.toArray os) B (.slice (some ⟨b, 0, none⟩) S.length c) S ∧ Turn [b] w (sortWorldK entC 2 w b 0 n S.toArray os) := by
  have hw : ∀ k, k < w.heap.size → (sortWorldK entC 2 w b 0 n S.toArray os).heap[k]? = (putRow id (Sort.ahead w n) b 0 (flatK entC 2 S.toArray)).heap[k]? := fun k hk => heap_grow_old _ _ (by simpa [putRowK] using hk)
  rcases h.2 with ⟨h1, _⟩ | ⟨b', c', cur, h1, hb, hg, h2, h3, h4, h5⟩
  · simp at h1
  · simp only [Value.slice.injEq, Option.some.injEq, Addr.mk.injEq, and_true, true_and] at h1
    obtain ⟨rfl, rfl⟩ := h1
    have hbs := (Array.getElem?_eq_some_iff.1 hg).1
    refine ⟨⟨entC_length S, .inr ⟨b, c, putCells id 0 (flatK entC 2 S.toArray) cur, rfl, hb, ?_, by omega, h3, by simp [putCells, h4], ?_⟩⟩, ⟨rfl, rfl, rfl, by simp [sortWorldK, grow, putRowK], fun k hk hm => ?_⟩⟩
    · rw [hw b hbs]
      simp [putRow, mapBlock, Sort.ahead, Array.getElem?_modify, hg, onCells]
    · apply List.ext_getElem?
      intro j
      by_cases hj : j < S.length * 2
      · rw [List.getElem?_take_of_lt hj, Array.getElem?_toList, flatK_at S j hj]
        have hjc : j < cur.size := by rw [h4]; omega
        simp [putCells, hjc, hj]
      · rw [List.getElem?_take_eq_none (by omega), List.getElem?_eq_none (by rw [entC_length]; omega)]
    · rw [hw k hk]
      have : b ≠ k := fun e => hm (by simp [e])
      simp [putRow, mapBlock, Sort.ahead, Array.getElem?_modify, this]
theorem all_is {w : World} {B pb : Nat} {v : Value} {L : List Ent} (h : PileAt w B pb v L) (hl : L.length ≤ 1000) :
    Calls Try.prog 42 #[v] w fun e w' => ∃ v', e = .returned v' ∧ EntRow w' w.heap.size v' (sortE L) ∧ Ext w w' := by
  rcases h.ent.2 with ⟨hv, hl0⟩ | ⟨b, c, cur, hv, hb, hg, h2, h3, h4, h5⟩
  · have hnil : L = [] := List.length_eq_zero_iff.1 hl0
    subst hv; subst hnil
    have hcl : ∀ W, Calls Try.prog 45 #[.slice none 0 0] W fun e w' => e = .returned (.slice none 0 0) ∧ w' = W := fun W => AnyE.slices_Clone_nil Try.cloneA 0 0 W
    have hso : ∀ W fv, Calls Try.prog 46 #[.slice none 0 0, fv] W fun e w' => e = .returned (.tuple #[]) ∧ w' = W := fun W fv => AnyF.slices_SortFunc_none Try.sortA none 0 fv W
    have HF := Lib.hid (show sortE [] = [] by simp [sortE])
    clear h
    go_enter Try.func42, Try.ntmps42
    go_wp2_with fail
    refine (hcl _).mono ?_; rintro e w' ⟨rfl, rfl⟩
    go_wp2_with fail
    refine (hso _ _).mono ?_; rintro e w' ⟨rfl, rfl⟩
    go_wp2
    go_ret
    refine ⟨_, rfl, ?_, Ext.refl _⟩
    rw [HF.out]
    exact World.ownsRow_nil _ _ _ _
  · subst hv
    obtain ⟨i0, hi, hz0, hz1, hz2⟩ := info_parts info_ent
    have hcl : Calls Try.prog 45 #[.slice (some ⟨b, 0, none⟩) L.length c] w fun e w' => ∃ v', e = .returned v' ∧ w'.ownsRow w.heap.size 56 2 v' L.length (L.flatMap entC) ∧ v' ≠ .slice none 0 0 ∧ Below w.heap.size w w' :=
      AnyE.slices_Clone Try.cloneA i0 (.agg #[.int .i64 0, .int .i64 0]) 2 16 hi hz0 hz1 hz2 rfl (by decide) (fun W => by kernel_rfl) b 0 L.length c (L.flatMap entC) w (entC_length L) (by unfold maxLen; omega) (by omega)
        (fun j u hj => by
          have hjl : j < (L.flatMap entC).length := (List.getElem?_eq_some_iff.1 hj).1
          rw [entC_length] at hjl
          rw [Nat.zero_add, World.ownsRow.cellAt h.ent j hjl]; exact hj)
        (fun u hu => by
          obtain ⟨e, _, he⟩ := List.mem_flatMap.1 hu
          simp [entC] at he
          rcases he with rfl | rfl <;> rfl)
    have HCL := Lib.hid hcl
    have eg : ∀ args w, (callFunc 44 args).run Try.prog w = .ok (.enter 44 args) w := enters_of Try.func44 (by kernel_rfl) rfl
    have HEG := Lib.hid eg
    clear hcl hi hz0 hz1 hz2 h hg h5 eg
    go_enter Try.func42, Try.ntmps42
    go_wp2_with fail
    refine HCL.out.mono ?_; rintro e w1 ⟨v1, rfl, hrow, hne, hx⟩
    have hx1 : Ext w w1 := hx
    rcases hrow.2 with ⟨h9, _⟩ | ⟨b1, c1, cur1, rfl, hb1, hg1, k2, k3, k4, k5⟩
    · exact absurd h9 hne
    have hent : EntRow w1 w.heap.size (.slice (some ⟨b1, 0, none⟩) L.length c1) L := hrow
    have hso := AnyQ.slices_SortFunc_total Try.sortA 2 (fun w => by kernel_rfl) (fun w => by kernel_rfl) entC (fun _ => rfl) (fun x u hu => by simp [entC] at hu; rcases hu with rfl | rfl <;> rfl) cf swo_cf 44 #[] b1 0 c1 L.toArray w1 HEG.out
      (fun m os dk _ x y => compare_is x y _) (holdsK_of hent) (Array.getElem?_eq_some_iff.1 hg1).1 (by simp; omega) cf_parts
    change Calls Try.prog 46 _ _ _ at hso
    have hsz : L.toArray.size = L.length := by simp
    rw [hsz] at hso
    have HSO := Lib.hid hso
    have HENT := Lib.hid hent
    have HX1 := Lib.hid hx1
    clear hso hent hrow hne hx hx1 hg1 k4 k5 hsz
    go_wp2_with fail
    refine HSO.out.mono ?_; rintro e w2 ⟨rfl, n, os, rfl⟩
    have hS : (L.toArray.toList.mergeSort fun x y => !(ltOf cf) y x) = sortE L := by rw [ltOf_cf]; rfl
    rw [hS]
    obtain ⟨r1, r2⟩ := sorted_row (n := n) (os := os) HENT.out (S := sortE L) (sortE_perm L).length_eq
    have hlen : (sortE L).length = L.length := (sortE_perm L).length_eq
    rw [hlen] at r1
    have HR1 := Lib.hid r1; have HR2 := Lib.hid r2
    clear r1 r2 hlen
    generalize sortWorldK entC 2 w1 b1 0 n (sortE L).toArray os = W at *
    go_wp2
    go_ret
    exact ⟨_, rfl, HR1.out, Below.trans HX1.out (HR2.out.below HX1.out.size (by intro x hx; simp at hx; omega))⟩
end Go.Proofs.Ytgapjglijpdkmaa
