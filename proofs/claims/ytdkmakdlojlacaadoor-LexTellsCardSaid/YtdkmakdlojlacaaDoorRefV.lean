/- The walks of the document's text of a token, and of its Quote. -/
import Derived.Test.YtdkmakdlojlacaaDoorRefW
import Derived.Test.YtdkmakdlojlacaaDoorLexR2
namespace Go.Proofs.YtdkmakdlojlacaaDoor
open Go.RowKit Lex
set_option maxHeartbeats 1000000
set_option maxRecDepth 100000
def zeroText : Array Value := #[.string ⟨#[]⟩, .int .i64 0]
theorem text_cells {w : World} {B : Nat} (h : w.heap[B]? = some (.cells zeroText 49 (0, 0))) :
    w.cell? ⟨B, 0, none⟩ = some (.string ⟨#[]⟩) ∧ w.cell? ⟨B, 1, none⟩ = some (.int .i64 0) ∧ w.frozen? ⟨B, 0, none⟩ = false ∧ w.frozen? ⟨B, 1, none⟩ = false := by
  refine ⟨?_, ?_, ?_, ?_⟩
  all_goals first | (simp [World.cell?, h, zeroText]; done) | (simp [World.frozen?, h]; done)
def TextRel2 (s : ByteArray) (R : Option (List UInt8 × Nat)) (w : World) (k : Nat) (bs : List UInt8) (wr : World) : Prop :=
  bs.length ≤ k ∧ wr.heap[w.heap.size]? = some (.cells zeroText 49 (0, 0)) ∧ Below w.heap.size w wr ∧ refGo (s.data.toList.drop k) bs k = R
theorem TextRel2.size {s : ByteArray} {R : Option (List UInt8 × Nat)} {w wr : World} {k : Nat} {bs : List UInt8} (h : TextRel2 s R w k bs wr) : w.heap.size < wr.heap.size := (Array.getElem?_eq_some_iff.1 h.2.1).1
theorem TextRel2.next {s : ByteArray} {R : Option (List UInt8 × Nat)} {w wr w1 : World} {k j : Nat} {bs bs' : List UInt8} {v : Value} {o : Obj} (h : TextRel2 s R w k bs wr) (hv : BytesRow wr (w.heap.size + 1) v bs) (hg : (wr.alloc o).grownBy w1 v.ownBlock)
    (hl : bs'.length ≤ j) (hr : refGo (s.data.toList.drop j) bs' j = R) : TextRel2 s R w j bs' w1 := by
  have hz := h.size
  have hne : ∀ b, v.ownBlock = some b → w.heap.size + 1 ≤ b := by
    intro b hb
    rcases hv.2 with ⟨h1, _⟩ | ⟨g, cap, cur, h1, hb1, _⟩
    · subst h1; simp [Value.ownBlock] at hb
    · subst h1; simp only [Value.ownBlock, Option.some.injEq] at hb; omega
  refine ⟨hl, ?_, ?_, hr⟩
  · rw [hg.block w.heap.size (by simp; omega) (fun e => by have := hne _ e.symm; omega), ← h.2.1]
    exact Below.heap_alloc wr o _ hz
  · exact (h.2.2.1.alloc (by omega) _).grown hg (by simp; omega) (fun b hb => by have := hne b hb; omega)
def textV : Option (List UInt8 × Nat) → Value
  | none => .agg #[.string ⟨#[]⟩, .int .i64 0]
  | some (t, n) => .agg #[.string (strOf t), .int .i64 n]
theorem ext_cells2 {w wr : World} (h : Below w.heap.size w wr) (u0 u1 : Value) : Ext w ((wr.setCell ⟨w.heap.size, 0, none⟩ u0).setCell ⟨w.heap.size, 1, none⟩ u1) :=
  (Below.setCell h (p := ⟨w.heap.size, 0, none⟩) (Nat.le_refl _) u0).setCell (p := ⟨w.heap.size, 1, none⟩) (Nat.le_refl _) u1
theorem textRef_is {s : ByteArray} {R : Option (List UInt8 × Nat)} (w : World) (hs : s.size ≤ 2500) (h0 : 0 < s.size) (h : textGo (s.data.toList.drop 1) [] 1 = R) : Calls Tryd.prog 27 #[.string s] w fun e w' => e = .returned (textV R) ∧ Ext w w' := by
  have hR : refGo (s.data.toList.drop 1) [] 1 = R := by rw [refGo_is]; exact h
  have HR := Lib.hid hR
  clear hR h
  go_enter Tryd.func27, Tryd.ntmps27
  go_wp2
  go_loopw [3, 4] (fun v i wr => ∃ (k : Nat) (bs : List UInt8), 1 ≤ k ∧ k ≤ s.size ∧ i = .int .i64 k ∧ BytesRow wr (w.heap.size + 1) v bs ∧ TextRel2 s R w k bs wr) (fun _ i _ => s.size - (intOf i).toNat)
  case atStart => exact ⟨1, [], by omega, by omega, rfl, BytesRow.nil _ _, Nat.zero_le _, heap_alloc_new _ _, Below.alloc (Below.refl _ _) (Nat.le_refl _) _, HR.out⟩
  case round =>
    obtain ⟨k, bs, hk1, hk, rfl, hrow, hrel⟩ := hrel
    obtain ⟨va, vc, rfl, hvc, hvm⟩ := hrow.len
    obtain ⟨hc0, hc1, hf0, hf1⟩ := text_cells hrel.2.1
    have hz := hrel.size
    have hbl := hrel.1
    by_cases hlt : k < s.size
    · have hgo := hrel.2.2.2
      rw [str_drop s k hlt, refGo.eq_def] at hgo
      dsimp only at hgo
      by_cases h34 : s[k].toNat = 34
      · rw [if_pos h34] at hgo
        have b34 : ((s[k].toNat : Int) == 34) = true := by simp; omega
        by_cases h60 : 60 < bs.length
        · rw [if_pos h60] at hgo
          have HG := Lib.hid hgo
          clear hgo h34
          go_wp2
          refine bodyPost_ret (v := textV none) (by simp [results, Tryd.results27, go_sem, textV, hc0, hc1]) rfl ⟨by rw [HG.out], ext_cells2 hrel.2.2.1 _ _⟩
        · rw [if_neg h60] at hgo
          have hcv := hrow.string
          have HG := Lib.hid hgo
          clear hgo h34
          go_wp2
          refine bodyPost_ret (v := textV (some (bs, k + 1))) (by simp [results, Tryd.results27, go_sem, textV, hc0, hc1]) rfl ⟨by rw [HG.out], ext_cells2 hrel.2.2.1 _ _⟩
      · rw [if_neg h34] at hgo
        have b34 : ((s[k].toNat : Int) == 34) = false := by simp; omega
        by_cases h92 : s[k].toNat = 92
        · rw [if_pos h92] at hgo
          have b92 : ((s[k].toNat : Int) == 92) = true := by simp; omega
          by_cases hl2 : k + 1 < s.size
          · rw [str_drop s (k + 1) hl2] at hgo
            dsimp only at hgo
            have hne : ((k : Int) + 1 == (s.size : Int)) = false := by simp; omega
            by_cases hn : s[k + 1].toNat = 110
            · rw [if_pos hn] at hgo
              have bn : ((s[k + 1].toNat : Int) == 110) = true := by simp; omega
              have HG := Lib.hid hgo
              clear hgo h34 h92 hn
              go_wp2_with (at_builtin; refine wpList_append_byte rfl _ _ rfl (w.heap.size + 1) _ bs rfl hrow 10 rfl (by omega) (by omega) ?_; intro v' w1 hown' hgrow)
              have R2 := hrel.next hrow hgrow (j := k + 2) (by simp; have := hrel.1; omega) HG.out
              exact ⟨⟨k + 2, bs ++ [10], by omega, by omega, by go_num, hown', R2⟩, by simp [intOf]; omega⟩
            · rw [if_neg hn] at hgo
              have bn : ((s[k + 1].toNat : Int) == 110) = false := by simp; omega
              by_cases hq : s[k + 1].toNat = 34
              · rw [if_pos (.inl hq)] at hgo
                have bq : ((s[k + 1].toNat : Int) == 34) = true := by simp; omega
                have HG := Lib.hid hgo
                clear hgo h34 h92 hn hq
                go_wp2_with (at_builtin; refine wpList_append_byte rfl _ _ rfl (w.heap.size + 1) _ bs rfl hrow s[k + 1] rfl (by omega) (by omega) ?_; intro v' w1 hown' hgrow)
                have R2 := hrel.next hrow hgrow (j := k + 2) (by simp; have := hrel.1; omega) HG.out
                exact ⟨⟨k + 2, bs ++ [s[k + 1]], by omega, by omega, by go_num, hown', R2⟩, by simp [intOf]; omega⟩
              · have bq : ((s[k + 1].toNat : Int) == 34) = false := by simp; omega
                by_cases hr : s[k + 1].toNat = 92
                · rw [if_pos (.inr hr)] at hgo
                  have br : ((s[k + 1].toNat : Int) == 92) = true := by simp; omega
                  have HG := Lib.hid hgo
                  clear hgo h34 h92 hn hq hr
                  go_wp2_with (at_builtin; refine wpList_append_byte rfl _ _ rfl (w.heap.size + 1) _ bs rfl hrow s[k + 1] rfl (by omega) (by omega) ?_; intro v' w1 hown' hgrow)
                  have R2 := hrel.next hrow hgrow (j := k + 2) (by simp; have := hrel.1; omega) HG.out
                  exact ⟨⟨k + 2, bs ++ [s[k + 1]], by omega, by omega, by go_num, hown', R2⟩, by simp [intOf]; omega⟩
                · rw [if_neg (by omega)] at hgo
                  have br : ((s[k + 1].toNat : Int) == 92) = false := by simp; omega
                  have HG := Lib.hid hgo
                  clear hgo h34 h92 hn hq hr
                  go_wp2
                  refine bodyPost_ret (v := textV none) (by simp [results, Tryd.results27, go_sem, textV, hc0, hc1]) rfl ⟨by rw [HG.out], ext_cells2 hrel.2.2.1 _ _⟩
          · obtain hend : k + 1 = s.size := by omega
            rw [List.drop_eq_nil_of_le (by rw [str_length]; omega)] at hgo
            have hne : ((k : Int) + 1 == (s.size : Int)) = true := by simp; omega
            have HG := Lib.hid hgo
            clear hgo h34 h92 hend
            go_wp2
            refine bodyPost_ret (v := textV none) (by simp [results, Tryd.results27, go_sem, textV, hc0, hc1]) rfl ⟨by first | rw [← HG.out] | (rw [← HG.out]; rfl), ext_cells2 hrel.2.2.1 _ _⟩
        · rw [if_neg h92] at hgo
          have b92 : ((s[k].toNat : Int) == 92) = false := by simp; omega
          by_cases hm1 : s[k].toNat < 32
          · rw [if_pos (.inl hm1)] at hgo
            have i1 : (s[k].toNat : Int) < 32 := by omega
            have HG := Lib.hid hgo
            clear hgo h34 h92
            go_wp2
            refine bodyPost_ret (v := textV none) (by simp [results, Tryd.results27, go_sem, textV, hc0, hc1]) rfl ⟨by rw [HG.out], ext_cells2 hrel.2.2.1 _ _⟩
          · have i1 : ¬ ((s[k].toNat : Int) < 32) := by omega
            by_cases hm2 : 126 < s[k].toNat
            · rw [if_pos (.inr hm2)] at hgo
              have i2 : 126 < (s[k].toNat : Int) := by omega
              have HG := Lib.hid hgo
              clear hgo h34 h92
              go_wp2
              refine bodyPost_ret (v := textV none) (by simp [results, Tryd.results27, go_sem, textV, hc0, hc1]) rfl ⟨by rw [HG.out], ext_cells2 hrel.2.2.1 _ _⟩
            · rw [if_neg (by omega)] at hgo
              have i2 : ¬ (126 < (s[k].toNat : Int)) := by omega
              have HG := Lib.hid hgo
              clear hgo h34 h92
              go_wp2_with (at_builtin; refine wpList_append_byte rfl _ _ rfl (w.heap.size + 1) _ bs rfl hrow s[k] rfl (by omega) (by omega) ?_; intro v' w1 hown' hgrow)
              have R2 := hrel.next hrow hgrow (j := k + 1) (by simp; have := hrel.1; omega) HG.out
              exact ⟨⟨k + 1, bs ++ [s[k]], by omega, by omega, by go_num, hown', R2⟩, by simp [intOf]; omega⟩
    · have hgo := hrel.2.2.2
      rw [List.drop_eq_nil_of_le (by rw [str_length]; omega)] at hgo
      have HG := Lib.hid hgo
      clear hgo
      go_wp2
      refine bodyPost_ret (v := textV none) (by simp [results, Tryd.results27, go_sem, textV, hc0, hc1]) rfl ⟨by rw [← HG.out]; rfl, ext_cells2 hrel.2.2.1 _ _⟩
/-- the document's Quote: a text's token, or nothing -/
theorem quoteRef_is {s : ByteArray} {t : ByteArray} (w : World) (hs : s.size ≤ 2500) (h : strOf ((quoteOf s.data.toList).getD []) = t) : Calls Tryd.prog 13 #[.string s] w fun e w' => e = .returned (.string t) ∧ w = w' := by
  have HL := Lib.hid (str_length s)
  have HH := Lib.hid h
  clear h
  go_enter Tryd.func13, Tryd.ntmps13
  go_wp2
  go_loop [3, 4] (fun v i => ∃ (k : Nat) (x : ByteArray), k ≤ s.size ∧ i = .int .i64 k ∧ v = .string x ∧ x.data.toList = 34 :: (s.data.toList.take k).flatMap esc ∧ (s.data.toList.take k).all mayQuote = true) (fun _ i => s.size - (intOf i).toNat)
  case atStart => exact ⟨0, ⟨#[34]⟩, by omega, rfl, rfl, rfl, rfl⟩
  case round =>
    obtain ⟨k, x, hk, rfl, rfl, hx, hall⟩ := hrel
    have hxs : x.size ≤ 1 + 2 * k := by
      have h1 := flat_le (s.data.toList.take k)
      have h2 : (s.data.toList.take k).length ≤ k := List.length_take_le _ _
      rw [← str_length, hx, List.length_cons]; omega
    have HX := Lib.hid hx
    clear hx
    by_cases hlt : k < s.size
    · have hsn := take_snoc' s k hlt
      have hall2 : (s.data.toList.take (k + 1)).all mayQuote = mayQuote s[k] := by rw [hsn, List.all_append, hall]; simp
      have hfm : (s.data.toList.take (k + 1)).flatMap esc = (s.data.toList.take k).flatMap esc ++ esc s[k] := by rw [hsn, List.flatMap_append]; simp
      have HF := Lib.hid hfm
      have HA := Lib.hid hall2
      have HEX := Lib.hid (extract_one s k hlt)
      clear hfm hall2 hsn hall
      by_cases h10 : s[k].toNat = 10
      · have b10 : ((s[k].toNat : Int) == 10) = true := by simp; omega
        have he : esc s[k] = [92, 110] := by simp [esc, h10]
        have hm : mayQuote s[k] = true := by simp [mayQuote, h10]
        have HE := Lib.hid he; have HM := Lib.hid hm
        clear he hm h10
        go_wp2
        refine ⟨⟨k + 1, _, by omega, by go_num, rfl, ?_, by rw [HA.out, HM.out]⟩, by simp [intOf]; omega⟩
        rw [HF.out, HE.out]
        simp [HX.out]
      · have b10 : ((s[k].toNat : Int) == 10) = false := by simp; omega
        by_cases h34 : s[k].toNat = 34
        · have b34 : ((s[k].toNat : Int) == 34) = true := by simp; omega
          have he : esc s[k] = [92, s[k]] := by simp [esc, h34]
          have hm : mayQuote s[k] = true := by simp [mayQuote, h34]
          have HE := Lib.hid he; have HM := Lib.hid hm
          clear he hm h10 h34
          go_wp2
          refine ⟨⟨k + 1, _, by omega, by go_num, rfl, ?_, by rw [HA.out, HM.out]⟩, by simp [intOf]; omega⟩
          rw [HF.out, HE.out, HEX.out]
          simp [HX.out]
        · have b34 : ((s[k].toNat : Int) == 34) = false := by simp; omega
          by_cases h92 : s[k].toNat = 92
          · have b92 : ((s[k].toNat : Int) == 92) = true := by simp; omega
            have he : esc s[k] = [92, s[k]] := by simp [esc, h92]
            have hm : mayQuote s[k] = true := by simp [mayQuote, h92]
            have HE := Lib.hid he; have HM := Lib.hid hm
            clear he hm h10 h34 h92
            go_wp2
            refine ⟨⟨k + 1, _, by omega, by go_num, rfl, ?_, by rw [HA.out, HM.out]⟩, by simp [intOf]; omega⟩
            rw [HF.out, HE.out, HEX.out]
            simp [HX.out]
          · have b92 : ((s[k].toNat : Int) == 92) = false := by simp; omega
            by_cases hmay : mayQuote s[k] = true
            · have he : esc s[k] = [s[k]] := by simp [esc, h10, h34, h92]
              have hm2 : 32 ≤ s[k].toNat ∧ s[k].toNat ≤ 126 := by simpa [mayQuote, h10] using hmay
              have i1 : ¬ ((s[k].toNat : Int) < 32) := by omega
              have i2 : ¬ (126 < (s[k].toNat : Int)) := by omega
              have HE := Lib.hid he; have HM := Lib.hid hmay
              clear he h10 h34 h92 hmay hm2
              go_wp2
              refine ⟨⟨k + 1, _, by omega, by go_num, rfl, ?_, by rw [HA.out, HM.out]⟩, by simp [intOf]; omega⟩
              rw [HF.out, HE.out, HEX.out]
              simp [HX.out]
            · have hm3 : mayQuote s[k] = false := by simpa using hmay
              have hq : quoteOf s.data.toList = none := by
                unfold quoteOf
                split
                · rfl
                · rw [if_neg]
                  intro hc
                  rw [all_take' (k + 1) (by rw [HA.out]; exact hm3)] at hc
                  exact Bool.noConfusion hc
              have HQ := Lib.hid hq
              have hm2 : s[k].toNat < 32 ∨ (32 ≤ s[k].toNat ∧ 126 < s[k].toNat) := by
                simp [mayQuote, h10] at hm3; omega
              clear h10 h34 h92 hmay hm3 hq
              rcases hm2 with hm2 | ⟨hm1, hm2⟩
              · have i1 : (s[k].toNat : Int) < 32 := by omega
                go_wp2
                go_ret
                exact ⟨by rw [← HH.out, HQ.out]; rfl, rfl⟩
              · have i1 : ¬ ((s[k].toNat : Int) < 32) := by omega
                have i2 : 126 < (s[k].toNat : Int) := by omega
                go_wp2
                go_ret
                exact ⟨by rw [← HH.out, HQ.out]; rfl, rfl⟩
    · obtain rfl : k = s.size := by omega
      have ht : s.data.toList.take s.size = s.data.toList := List.take_of_length_le (by rw [HL.out]; exact Nat.le_refl _)
      rw [ht] at hall
      have HX2 := Lib.hid (ht ▸ HX.out)
      by_cases h60 : 60 < s.size
      · have hq : quoteOf s.data.toList = none := by unfold quoteOf; rw [HL.out, if_pos h60]
        have HQ := Lib.hid hq
        clear hq hall ht
        go_wp2
        go_ret
        exact ⟨by rw [← HH.out, HQ.out]; rfl, rfl⟩
      · have hq : quoteOf s.data.toList = some (34 :: (s.data.toList.flatMap esc ++ [34])) := by unfold quoteOf; rw [HL.out, if_neg h60, if_pos hall]
        have HQ := Lib.hid hq
        clear hq hall ht
        go_wp2
        go_ret
        refine ⟨?_, rfl⟩
        rw [← HH.out, HQ.out]
        refine congrArg Ending.returned (congrArg Value.string (str_eq ?_))
        have h2 := HX2.out
        show (x ++ ⟨#[34]⟩).data.toList = 34 :: (s.data.toList.flatMap esc ++ [34])
        simp [h2]
end Go.Proofs.YtdkmakdlojlacaaDoor
