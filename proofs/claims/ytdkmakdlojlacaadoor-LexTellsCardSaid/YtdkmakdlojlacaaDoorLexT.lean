/- The walk of lex.textToken. -/
import Derived.Test.YtdkmakdlojlacaaDoorLexU
namespace Go.Proofs.YtdkmakdlojlacaaDoor
open Go.RowKit Lex
/-- a token's row as it is made -/
def zeroTok : Array Value := #[.int .i64 0, .string ⟨#[]⟩, .int .i64 0]
theorem row_cells {w : World} {B : Nat} (h : w.heap[B]? = some (.cells zeroTok 39 (0, 0))) :
    w.cell? ⟨B, 0, none⟩ = some (.int .i64 0) ∧ w.cell? ⟨B, 1, none⟩ = some (.string ⟨#[]⟩) ∧ w.cell? ⟨B, 2, none⟩ = some (.int .i64 0) ∧ w.frozen? ⟨B, 0, none⟩ = false ∧ w.frozen? ⟨B, 1, none⟩ = false ∧ w.frozen? ⟨B, 2, none⟩ = false := by
  refine ⟨?_, ?_, ?_, ?_, ?_, ?_⟩
  all_goals first | (simp [World.cell?, h, zeroTok]; done) | (simp [World.frozen?, h]; done)
def TextRel (s : ByteArray) (R : Option (List UInt8 × Nat)) (w : World) (k : Nat) (bs : List UInt8) (wr : World) : Prop :=
  bs.length ≤ k ∧ wr.heap[w.heap.size]? = some (.cells zeroTok 39 (0, 0)) ∧ Below w.heap.size w wr ∧ textGo (s.data.toList.drop k) bs k = R
theorem TextRel.size {s : ByteArray} {R : Option (List UInt8 × Nat)} {w wr : World} {k : Nat} {bs : List UInt8} (h : TextRel s R w k bs wr) : w.heap.size < wr.heap.size := (Array.getElem?_eq_some_iff.1 h.2.1).1
theorem TextRel.next {s : ByteArray} {R : Option (List UInt8 × Nat)} {w wr w1 : World} {k j : Nat} {bs bs' : List UInt8} {v : Value} {o : Obj} (h : TextRel s R w k bs wr) (hv : BytesRow wr (w.heap.size + 1) v bs) (hg : (wr.alloc o).grownBy w1 v.ownBlock)
    (hl : bs'.length ≤ j) (hr : textGo (s.data.toList.drop j) bs' j = R) : TextRel s R w j bs' w1 := by
  have hz := h.size
  have hne : ∀ b, v.ownBlock = some b → w.heap.size + 1 ≤ b := by
    intro b hb
    rcases hv.2 with ⟨h1, _⟩ | ⟨g, cap, cur, h1, hb1, _⟩
    · subst h1; simp [Value.ownBlock] at hb
    · subst h1; simp only [Value.ownBlock, Option.some.injEq] at hb; omega
  refine ⟨hl, ?_, ?_, hr⟩
  · rw [hg.block w.heap.size (by simp; omega) (fun e => by have := hne _ e.symm; omega), ← h.2.1]
    exact Below.heap_alloc wr o _ hz
  · exact (h.2.2.1.alloc (by omega) _).grown hg (by simp; omega) (fun b hb => by have := hne b hb; omega)
set_option maxHeartbeats 1000000
theorem extract_one (s : ByteArray) (k : Nat) (h : k < s.size) : s.extract k (k + 1) = ⟨#[s[k]]⟩ := by
  have : (s.extract k (k + 1)).data.toList = [s[k]] := by
    rw [extract_list, List.drop_take, str_drop s k h]
    have : k + 1 - k = 1 := by omega
    rw [this]; rfl
  exact str_eq this
theorem byte_at (d : UInt8) : decide (0 ≤ Lib.indexByte [110, 34, 92] d) = (decide (d.toNat = 110) || (decide (d.toNat = 34) || decide (d.toNat = 92))) := by
  by_cases h1 : d = 110
  · subst h1; decide
  by_cases h2 : d = 34
  · subst h2; decide
  by_cases h3 : d = 92
  · subst h3; decide
  have n1 : ¬ d.toNat = 110 := fun h => h1 (UInt8.toNat_inj.1 h)
  have n2 : ¬ d.toNat = 34 := fun h => h2 (UInt8.toNat_inj.1 h)
  have n3 : ¬ d.toNat = 92 := fun h => h3 (UInt8.toNat_inj.1 h)
  have b1 : ((110 : UInt8) == d) = false := beq_false_of_ne (fun h => h1 h.symm)
  have b2 : ((34 : UInt8) == d) = false := beq_false_of_ne (fun h => h2 h.symm)
  have b3 : ((92 : UInt8) == d) = false := beq_false_of_ne (fun h => h3 h.symm)
  simp [Lib.indexByte, b1, b2, b3, n1, n2, n3]
theorem tokAns_none {w wr : World} {r : Option (Nat × List UInt8 × Nat)} (h : r = none) (hb : Ext w wr) : TokAns r w (.returned (tokAns none)) wr := ⟨by rw [h], hb⟩
theorem ext_cells {w wr : World} (h : Below w.heap.size w wr) (u0 u1 u2 : Value) : Ext w (((wr.setCell ⟨w.heap.size, 0, none⟩ u0).setCell ⟨w.heap.size, 1, none⟩ u1).setCell ⟨w.heap.size, 2, none⟩ u2) :=
  ((Below.setCell h (p := ⟨w.heap.size, 0, none⟩) (Nat.le_refl _) u0).setCell (p := ⟨w.heap.size, 1, none⟩) (Nat.le_refl _) u1).setCell (p := ⟨w.heap.size, 2, none⟩) (Nat.le_refl _) u2
theorem textTok_any (s : ByteArray) (w : World) (hs : s.size ≤ maxLen) (h0 : 0 < s.size) : Calls Tryd.prog 37 #[.string s] w (TokAns ((textGo (s.data.toList.drop 1) [] 1).map fun x => (4, x.1, x.2)) w) := by
  have hs' := hs
  unfold maxLen at hs'
  obtain ⟨R, hR⟩ : ∃ R, textGo (s.data.toList.drop 1) [] 1 = R := ⟨_, rfl⟩
  rw [hR]
  have HR := Lib.hid hR
  clear hR
  go_enter Tryd.func37, Tryd.ntmps37
  go_wp2
  go_loopw [4, 5] (fun v i wr => ∃ (k : Nat) (bs : List UInt8), 1 ≤ k ∧ k ≤ s.size ∧ i = .int .i64 k ∧ BytesRow wr (w.heap.size + 1) v bs ∧ TextRel s R w k bs wr) (fun _ i _ => s.size - (intOf i).toNat)
  case atStart => exact ⟨1, [], by omega, by omega, rfl, BytesRow.nil _ _, Nat.zero_le _, heap_alloc_new _ _, Below.alloc (Below.refl _ _) (Nat.le_refl _) _, HR.out⟩
  case round =>
    obtain ⟨k, bs, hk1, hk, rfl, hrow, hrel⟩ := hrel
    obtain ⟨va, vc, rfl, hvc, hvm⟩ := hrow.len
    obtain ⟨hc0, hc1, hc2, hf0, hf1, hf2⟩ := row_cells hrel.2.1
    have hz := hrel.size
    by_cases hlt : k < s.size
    · have hgo := hrel.2.2.2
      rw [str_drop s k hlt, textGo.eq_def] at hgo
      dsimp only at hgo
      by_cases h60 : bs.length ≤ 60
      · rw [if_neg (by omega)] at hgo
        by_cases h34 : s[k].toNat = 34
        · rw [if_pos h34] at hgo
          have b34 : ((s[k].toNat : Int) == 34) = true := by simp; omega
          have hcv := hrow.string
          have HG := Lib.hid hgo
          clear hgo h34
          go_wp2
          refine bodyPost_ret (v := tokAns (some (4, bs, k + 1))) (by simp [results, Tryd.results37, go_sem, tokAns, tokV, hc0, hc1, hc2]) rfl ⟨?_, ext_cells hrel.2.2.1 _ _ _⟩
          rw [← HG.out]; rfl
        · rw [if_neg h34] at hgo
          by_cases hmay : 32 ≤ s[k].toNat ∧ s[k].toNat ≤ 126
          · obtain ⟨hm1, hm2⟩ := hmay
            rw [if_neg (by omega)] at hgo
            by_cases h92 : s[k].toNat = 92
            · rw [if_pos h92] at hgo
              have i1 : ¬ ((s[k].toNat : Int) < 32) := by omega
              have i2 : ¬ (126 < (s[k].toNat : Int)) := by omega
              have b34 : ((s[k].toNat : Int) == 34) = false := by simp; omega
              have b92 : ((s[k].toNat : Int) == 92) = true := by simp; omega
              by_cases hl2 : k + 1 < s.size
              · rw [str_drop s (k + 1) hl2] at hgo
                dsimp only at hgo
                have hne : ((k : Int) + 1 == (s.size : Int)) = false := by simp; omega
                have hex := extract_one s (k + 1) hl2
                have HX := Lib.hid hex
                by_cases hn : s[k + 1].toNat = 110
                · rw [if_pos hn] at hgo
                  have bn : ((s[k + 1].toNat : Int) == 110) = true := by simp; omega
                  have hcon : decide (0 ≤ Lib.indexByte [110, 34, 92] s[k + 1]) = true := by rw [byte_at, hn]; rfl
                  have HG := Lib.hid hgo; have HN := Lib.hid hcon
                  clear hgo h34 h92 hn hex hcon
                  go_wp2_with (first | (go_at_call 43; rw [HX.out]; refine (Tryd.strings_Contains_one _ _ _).mono ?_; rintro e w' ⟨rfl, rfl⟩; rw [HN.out]) | (at_builtin; refine wpList_append_byte rfl _ _ rfl (w.heap.size + 1) _ bs rfl hrow 10 rfl (by omega) (by omega) ?_; intro v' w1 hown' hgrow))
                  have R2 := hrel.next hrow hgrow (j := k + 2) (by simp; have := hrel.1; omega) HG.out
                  exact ⟨⟨k + 2, bs ++ [10], by omega, by omega, by go_num, hown', R2⟩, by simp [intOf]; omega⟩
                · rw [if_neg hn] at hgo
                  have bn : ((s[k + 1].toNat : Int) == 110) = false := by simp; omega
                  by_cases hq : s[k + 1].toNat = 34 ∨ s[k + 1].toNat = 92
                  · rw [if_pos hq] at hgo
                    have hcon : decide (0 ≤ Lib.indexByte [110, 34, 92] s[k + 1]) = true := by rw [byte_at]; simp [hn]; omega
                    have HG := Lib.hid hgo; have HN := Lib.hid hcon
                    clear hgo h34 h92 hn hex hcon hq
                    go_wp2_with (first | (go_at_call 43; rw [HX.out]; refine (Tryd.strings_Contains_one _ _ _).mono ?_; rintro e w' ⟨rfl, rfl⟩; rw [HN.out]) | (at_builtin; refine wpList_append_byte rfl _ _ rfl (w.heap.size + 1) _ bs rfl hrow s[k + 1] rfl (by omega) (by omega) ?_; intro v' w1 hown' hgrow))
                    have R2 := hrel.next hrow hgrow (j := k + 2) (by simp; have := hrel.1; omega) HG.out
                    exact ⟨⟨k + 2, bs ++ [s[k + 1]], by omega, by omega, by go_num, hown', R2⟩, by simp [intOf]; omega⟩
                  · rw [if_neg hq] at hgo
                    have hcon : decide (0 ≤ Lib.indexByte [110, 34, 92] s[k + 1]) = false := by rw [byte_at]; simp [hn]; omega
                    have HG := Lib.hid hgo; have HN := Lib.hid hcon
                    clear hgo h34 h92 hn hex hcon hq
                    go_wp2_with (first | (go_at_call 43; rw [HX.out]; refine (Tryd.strings_Contains_one _ _ _).mono ?_; rintro e w' ⟨rfl, rfl⟩; rw [HN.out]))
                    refine bodyPost_ret (v := tokAns none) (by simp [results, Tryd.results37, go_sem, tokAns, tokV, hc0, hc1, hc2, strOf]) rfl (tokAns_none (by rw [← HG.out]; rfl) (ext_cells hrel.2.2.1 _ _ _))
              · obtain hend : k + 1 = s.size := by omega
                rw [List.drop_eq_nil_of_le (by rw [str_length]; omega)] at hgo
                have hne : ((k : Int) + 1 == (s.size : Int)) = true := by simp; omega
                have HG := Lib.hid hgo
                clear hgo h34 h92 hend
                go_wp2
                refine bodyPost_ret (v := tokAns none) (by simp [results, Tryd.results37, go_sem, tokAns, tokV, hc0, hc1, hc2, strOf]) rfl (tokAns_none (by rw [← HG.out]; rfl) (ext_cells hrel.2.2.1 _ _ _))
            · rw [if_neg h92] at hgo
              have i1 : ¬ ((s[k].toNat : Int) < 32) := by omega
              have i2 : ¬ (126 < (s[k].toNat : Int)) := by omega
              have b34 : ((s[k].toNat : Int) == 34) = false := by simp; omega
              have b92 : ((s[k].toNat : Int) == 92) = false := by simp; omega
              have HG := Lib.hid hgo
              clear hgo h34 h92
              go_wp2_with (at_builtin; refine wpList_append_byte rfl _ _ rfl (w.heap.size + 1) _ bs rfl hrow s[k] rfl (by omega) (by omega) ?_; intro v' w1 hown' hgrow)
              have R2 := hrel.next hrow hgrow (j := k + 1) (by simp; have := hrel.1; omega) HG.out
              exact ⟨⟨k + 1, bs ++ [s[k]], by omega, by omega, by go_num, hown', R2⟩, by simp [intOf]; omega⟩
          · rw [if_pos (by omega)] at hgo
            have b34 : ((s[k].toNat : Int) == 34) = false := by simp; omega
            have HG := Lib.hid hgo
            clear hgo h34
            by_cases h32 : 32 ≤ s[k].toNat
            · have i1 : ¬ ((s[k].toNat : Int) < 32) := by omega
              have i2 : 126 < (s[k].toNat : Int) := by omega
              go_wp2
              refine bodyPost_ret (v := tokAns none) (by simp [results, Tryd.results37, go_sem, tokAns, tokV, hc0, hc1, hc2, strOf]) rfl (tokAns_none (by rw [← HG.out]; rfl) (ext_cells hrel.2.2.1 _ _ _))
            · have i1 : (s[k].toNat : Int) < 32 := by omega
              go_wp2
              refine bodyPost_ret (v := tokAns none) (by simp [results, Tryd.results37, go_sem, tokAns, tokV, hc0, hc1, hc2, strOf]) rfl (tokAns_none (by rw [← HG.out]; rfl) (ext_cells hrel.2.2.1 _ _ _))
      · rw [if_pos (by omega)] at hgo
        have HG := Lib.hid hgo
        clear hgo
        go_wp2
        refine bodyPost_ret (v := tokAns none) (by simp [results, Tryd.results37, go_sem, tokAns, tokV, hc0, hc1, hc2, strOf]) rfl (tokAns_none (by rw [← HG.out]; rfl) (ext_cells hrel.2.2.1 _ _ _))
    · have hgo := hrel.2.2.2
      rw [List.drop_eq_nil_of_le (by rw [str_length]; omega)] at hgo
      have HG := Lib.hid hgo
      clear hgo
      go_wp2
      refine bodyPost_ret (v := tokAns none) (by simp [results, Tryd.results37, go_sem, tokAns, tokV, hc0, hc1, hc2, strOf]) rfl (tokAns_none (by rw [← HG.out]; rfl) (ext_cells hrel.2.2.1 _ _ _))
end Go.Proofs.YtdkmakdlojlacaaDoor
