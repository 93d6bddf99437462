/- The walk of lex.Quote. -/
import Derived.Test.YtdkmakdlojlacaaDoorLexV
namespace Go.Proofs.YtdkmakdlojlacaaDoor
open Go.RowKit Lex
/-- what Quote answers -/
def QuoteAns (r : Option (List UInt8)) (w : World) (e : Ending) (w' : World) : Prop := e = .returned (.tuple #[.string (strOf (r.getD [])), .bool r.isSome]) ∧ Ext w w'
theorem all_take' {l : List UInt8} {p : UInt8 → Bool} (k : Nat) (h : (l.take k).all p = false) : l.all p = false := by
  rw [← List.take_append_drop k l, List.all_append, h]; rfl
theorem take_snoc' (s : ByteArray) (k : Nat) (h : k < s.size) : s.data.toList.take (k + 1) = s.data.toList.take k ++ [s[k]] := by
  rw [List.take_succ_eq_append_getElem (by simpa using h)]; rfl
theorem esc_le (c : UInt8) : (esc c).length ≤ 2 := by unfold esc; (repeat' split) <;> simp
theorem flat_le (l : List UInt8) : (l.flatMap esc).length ≤ 2 * l.length := by
  induction l with
  | nil => simp
  | cons c l ih => rw [List.flatMap_cons, List.length_append, List.length_cons]; have := esc_le c; omega
set_option maxHeartbeats 2000000
theorem quote_any (s : ByteArray) (w : World) (hs : s.size ≤ maxLen) : Calls Tryd.prog 12 #[.string s] w (QuoteAns (quoteOf s.data.toList) w) := by
  have hs' := hs
  unfold maxLen at hs'
  have HL := Lib.hid (str_length s)
  by_cases hbig : 60 < s.size
  · have hr : quoteOf s.data.toList = none := by unfold quoteOf; rw [HL.out, if_pos hbig]
    rw [hr]; clear hr
    go_enter Tryd.func12, Tryd.ntmps12
    go_wp2
    go_ret2
    exact ⟨rfl, Ext.refl _⟩
  · obtain ⟨R, hR⟩ : ∃ R, quoteOf s.data.toList = R := ⟨_, rfl⟩
    have hR2 : R = if s.data.toList.all mayQuote then some (34 :: (s.data.toList.flatMap esc ++ [34])) else none := by rw [← hR]; unfold quoteOf; rw [HL.out, if_neg hbig]
    rw [hR]
    have HR2 := Lib.hid hR2
    clear hR hR2
    go_enter Tryd.func12, Tryd.ntmps12
    go_wp2
    go_loopw [4, 13] (fun v i wr => ∃ k : Nat, k ≤ s.size ∧ i = .int .i64 k ∧ BytesRow wr w.heap.size v (34 :: (s.data.toList.take k).flatMap esc) ∧ Ext w wr ∧ (s.data.toList.take k).all mayQuote = true) (fun _ i _ => s.size - (intOf i).toNat)
    case atStart => exact ⟨0, by omega, rfl, BytesRow.lit w [34] (by simp), Ext.alloc _ _, rfl⟩
    case round =>
      obtain ⟨k, hk, rfl, hrow, hx, hall⟩ := hrel
      have hfl := flat_le (s.data.toList.take k)
      have htl : (s.data.toList.take k).length ≤ k := List.length_take_le _ _
      obtain ⟨va, vc, rfl, hvc, hvm⟩ := hrow.len
      have hz := hx.size
      by_cases hlt : k < s.size
      · have hsn := take_snoc' s k hlt
        have hall2 : (s.data.toList.take (k + 1)).all mayQuote = mayQuote s[k] := by rw [hsn, List.all_append, hall]; simp
        have hfm : (s.data.toList.take (k + 1)).flatMap esc = (s.data.toList.take k).flatMap esc ++ esc s[k] := by rw [hsn, List.flatMap_append]; simp
        have HF := Lib.hid hfm
        have HA := Lib.hid hall2
        clear hfm hall2 hsn hall
        generalize hbs : 34 :: (s.data.toList.take k).flatMap esc = bs at *
        have hbl : bs.length ≤ 1 + 2 * k := by rw [← hbs, List.length_cons]; omega
        have HB := Lib.hid hbs
        clear hbs hfl htl
        by_cases h10 : s[k].toNat = 10
        · have b10 : ((s[k].toNat : Int) == 10) = true := by simp; omega
          have he : esc s[k] = [92, 110] := by simp [esc, h10]
          have hm : mayQuote s[k] = true := by simp [mayQuote, h10]
          have HE := Lib.hid he; have HM := Lib.hid hm
          clear he hm h10
          go_wp2_with (at_builtin; refine wpList_append_bytes (by rfl) _ _ (by rfl) w.heap.size (.slice va bs.length vc) bs (by rfl) (hrow.alloc _) [92, 110] wr.heap.size 2 (by rfl) cell_new2 (by simp; omega) (by simp; omega) ?_; intro v' w1 hown' hgrow)
          have hx2 : Ext w w1 := below_append (hx.below.alloc (Nat.le_trans (Nat.le_refl _) hz) _) (by simp; omega) (fun b hb => hrow.own b hb) hgrow
          exact ⟨⟨k + 1, by omega, by go_num, by rw [HF.out, HE.out]; have := HB.out; rw [← List.cons_append, this]; exact hown', hx2, by rw [HA.out, HM.out]⟩, by simp [intOf]; omega⟩
        · have b10 : ((s[k].toNat : Int) == 10) = false := by simp; omega
          by_cases hmay : 32 ≤ s[k].toNat ∧ s[k].toNat ≤ 126
          · obtain ⟨hm1, hm2⟩ := hmay
            have i1 : ¬ ((s[k].toNat : Int) < 32) := by omega
            have i2 : ¬ (126 < (s[k].toNat : Int)) := by omega
            have hm : mayQuote s[k] = true := by simp [mayQuote, hm1, hm2]
            have HM := Lib.hid hm
            clear hm
            by_cases h34 : s[k].toNat = 34 ∨ s[k].toNat = 92
            · have he : esc s[k] = [92, s[k]] := by simp [esc, h10, h34]
              have HE := Lib.hid he
              clear he
              rcases h34 with h34 | h34
              · have b34 : ((s[k].toNat : Int) == 34) = true := by simp; omega
                clear h34 h10
                go_wp2_with (at_builtin; refine wpList_append_bytes (by rfl) _ _ (by rfl) w.heap.size (.slice va bs.length vc) bs (by rfl) (hrow.alloc _) [92, s[k]] wr.heap.size 2 (by rfl) cell_new2 (by simp; omega) (by simp; omega) ?_; intro v' w1 hown' hgrow)
                have hx2 : Ext w w1 := below_append (hx.below.alloc (Nat.le_trans (Nat.le_refl _) hz) _) (by simp; omega) (fun b hb => hrow.own b hb) hgrow
                exact ⟨⟨k + 1, by omega, by go_num, by rw [HF.out, HE.out]; have := HB.out; rw [← List.cons_append, this]; exact hown', hx2, by rw [HA.out, HM.out]⟩, by simp [intOf]; omega⟩
              · have b34 : ((s[k].toNat : Int) == 34) = false := by simp; omega
                have b92 : ((s[k].toNat : Int) == 92) = true := by simp; omega
                clear h34 h10
                go_wp2_with (at_builtin; refine wpList_append_bytes (by rfl) _ _ (by rfl) w.heap.size (.slice va bs.length vc) bs (by rfl) (hrow.alloc _) [92, s[k]] wr.heap.size 2 (by rfl) cell_new2 (by simp; omega) (by simp; omega) ?_; intro v' w1 hown' hgrow)
                have hx2 : Ext w w1 := below_append (hx.below.alloc (Nat.le_trans (Nat.le_refl _) hz) _) (by simp; omega) (fun b hb => hrow.own b hb) hgrow
                exact ⟨⟨k + 1, by omega, by go_num, by rw [HF.out, HE.out]; have := HB.out; rw [← List.cons_append, this]; exact hown', hx2, by rw [HA.out, HM.out]⟩, by simp [intOf]; omega⟩
            · have he : esc s[k] = [s[k]] := by simp [esc, h10, h34]
              have b34 : ((s[k].toNat : Int) == 34) = false := by simp; omega
              have b92 : ((s[k].toNat : Int) == 92) = false := by simp; omega
              have HE := Lib.hid he
              clear he h34 h10
              go_wp2_with (at_builtin; refine wpList_append_bytes (by rfl) _ _ (by rfl) w.heap.size (.slice va bs.length vc) bs (by rfl) (hrow.alloc _) [s[k]] wr.heap.size 1 (by rfl) (cell_one_new _ _ _) (by simp; omega) (by simp; omega) ?_; intro v' w1 hown' hgrow)
              have hx2 : Ext w w1 := below_append (hx.below.alloc (Nat.le_trans (Nat.le_refl _) hz) _) (by simp; omega) (fun b hb => hrow.own b hb) hgrow
              exact ⟨⟨k + 1, by omega, by go_num, by rw [HF.out, HE.out]; have := HB.out; rw [← List.cons_append, this]; exact hown', hx2, by rw [HA.out, HM.out]⟩, by simp [intOf]; omega⟩
          · have hm : mayQuote s[k] = false := by simp only [mayQuote, Bool.or_eq_false_iff, Bool.and_eq_false_iff, decide_eq_false_iff_not]; omega
            have hr : R = none := by
              rw [HR2.out, if_neg]
              have := all_take' (k + 1) (HA.out.trans hm)
              simp [this]
            have HRN := Lib.hid hr
            clear hm hr h10
            by_cases h32 : 32 ≤ s[k].toNat
            · have i1 : ¬ ((s[k].toNat : Int) < 32) := by omega
              have i2 : 126 < (s[k].toNat : Int) := by omega
              clear hmay h32
              go_wp2
              go_ret2
              rw [HRN.out]
              exact ⟨rfl, hx⟩
            · have i1 : (s[k].toNat : Int) < 32 := by omega
              clear hmay h32
              go_wp2
              go_ret2
              rw [HRN.out]
              exact ⟨rfl, hx⟩
      · have ht : s.data.toList.take k = s.data.toList := List.take_of_length_le (by rw [HL.out]; omega)
        rw [ht] at hrow hall hfl ⊢
        have hr : R = some (34 :: (s.data.toList.flatMap esc ++ [34])) := by rw [HR2.out, if_pos hall]
        have HRN := Lib.hid hr
        have hsl := HL.out
        rw [ht] at hvc
        generalize hbs : 34 :: s.data.toList.flatMap esc = bs at *
        have hbl : bs.length ≤ 1 + 2 * s.data.toList.length := by rw [← hbs, List.length_cons]; omega
        have hbl2 : bs.length ≤ 121 := by rw [hsl] at hbl; omega
        have HB := Lib.hid hbs
        clear hbs hr hall ht hsl hfl hbl htl
        go_wp2_with (at_builtin; refine wpList_append_bytes (by rfl) _ _ (by rfl) w.heap.size (.slice va bs.length vc) bs (by rfl) (hrow.alloc _) [34] wr.heap.size 1 (by rfl) (cell_one_new _ _ _) (by simp; omega) (by simp; omega) ?_; intro v' w1 hown' hgrow; have hcv := hown'.string)
        go_ret2
        refine ⟨?_, below_append (hx.below.alloc (Nat.le_trans (Nat.le_refl _) hz) _) (by simp; omega) (fun b hb => hrow.own b hb) hgrow⟩
        rw [HRN.out, ← List.cons_append, HB.out]
        rfl
end Go.Proofs.YtdkmakdlojlacaaDoor
