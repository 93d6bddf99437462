/- LexWords: the walk. -/
import Derived.Test.YtdkmakdlojlacaaDoorLexX
import Derived.Test.YtdkmakdlojlacaaDoorLexR2
namespace Go.Proofs.YtdkmakdlojlacaaDoor
open Go.RowKit Lex
set_option maxHeartbeats 4000000
set_option maxRecDepth 100000
def wordUpto (l : List UInt8) (k : Nat) : Bool := (l.take k).all inWord && (decide (k = 0) || isLetter (l.headD 0))
theorem wordUpto_zero (l : List UInt8) : wordUpto l 0 = true := by simp [wordUpto]
theorem wordUpto_all (l : List UInt8) (h : 1 ≤ l.length) : wordUpto l l.length = isWord l := by
  have : decide (l.length = 0) = false := by simp; intro e; subst e; simp at h
  rw [wordUpto, isWord, List.take_length, this, Bool.false_or, Bool.and_comm]
theorem wordUpto_succ (s : ByteArray) (k : Nat) (h : k < s.size) : wordUpto s.data.toList (k + 1) = (wordUpto s.data.toList k && (isLetter s[k] || (decide (0 < k) && isDigit s[k]))) := by
  have hh := str_head s (by omega)
  unfold wordUpto
  rw [take_snoc' s k h, List.all_append, hh]
  have e1 : decide (k + 1 = 0) = false := by simp
  rw [e1, Bool.false_or]
  rcases Nat.eq_zero_or_pos k with h0 | h0
  · subst h0
    cases hl : isLetter s[0] <;> simp [inWord, hl]
  · have e2 : decide (k = 0) = false := by simp; omega
    have e3 : decide (0 < k) = true := by simp; omega
    rw [e2, e3]
    cases isLetter s[0] <;> cases hl : isLetter s[k] <;> cases hd : isDigit s[k] <;> simp [inWord, hl, hd]
theorem words_walk (s : ByteArray) (w : World) (hs : s.size ≤ maxLen) (hw : LexLie w) : Calls Tryd.prog 6 #[.string s] w (TrueExt w) := by
  have hs' := hs
  unfold maxLen at hs'
  have HL := Lib.hid (str_length s)
  by_cases h0 : 0 < s.size ∧ s.size ≤ 100
  · obtain ⟨h0, h100⟩ := h0
    have n0 : ((s.size : Int) == 0) = false := beq_false_of_ne (by omega)
    have hne := str_isEmpty s h0
    go_enter Tryd.func6, Tryd.ntmps6
    go_wp2
    go_loop [3, 4] (fun m i => ∃ k : Nat, k ≤ s.size ∧ i = .int .i64 k ∧ m = .bool (wordUpto s.data.toList k)) (fun _ i => s.size - (intOf i).toNat)
    case atStart => exact ⟨0, by omega, rfl, by rw [wordUpto_zero]⟩
    case round =>
      obtain ⟨k, hk, rfl, rfl⟩ := hrel
      by_cases hlt : k < s.size
      · have hu := wordUpto_succ s k hlt
        generalize hm : wordUpto s.data.toList k = m at *
        have HU := Lib.hid hu
        clear hu hm
        cases m
        · go_wp2
          exact ⟨⟨k + 1, by omega, by go_num, by rw [HU.out]; rfl⟩, by simp [intOf]; omega⟩
        · go_wp2
          all_goals
            refine ⟨⟨k + 1, by omega, by go_num, ?_⟩, by simp [intOf]; omega⟩
            rw [HU.out]
            congr 1
            rw [Bool.eq_iff_iff]
            simp [isLetter, isGreat, isDigit]
            omega
      · obtain rfl : k = s.size := by omega
        have hwu := wordUpto_all s.data.toList (by rw [HL.out]; omega)
        rw [HL.out] at hwu
        rw [hwu]
        clear hwu
        have hb := str_beq_lit s [95]
        cases hwd : isWord s.data.toList
        · have k1 : isKind s.data.toList 1 = false := isKind_no hwd
          have k2 : isKind s.data.toList 2 = false := isKind_no hwd
          have K1 := Lib.hid k1; have K2 := Lib.hid k2
          clear k1 k2 hwd hb
          go_wp2_with fail
          refine (isName_is hs hw K1.out).mono ?_; rintro e w' ⟨rfl, rfl⟩
          go_wp2_with fail
          refine (isCon_is hs hw K2.out).mono ?_; rintro e w' ⟨rfl, rfl⟩
          go_wp2_with fail
          refine (lex_wakes w hw).mono ?_; rintro e w1 ⟨rfl, hx⟩
          go_wp2
          go_ret
          exact ⟨rfl, hx⟩
        · by_cases h95 : s.data.toList = [95]
          · have hb' : (s.toList == [95]) = true := by rw [hb]; exact decide_eq_true h95
            have k1 : isKind s.data.toList 1 = false := by rw [h95]; decide
            have k2 : isKind s.data.toList 2 = false := by rw [h95]; decide
            have K1 := Lib.hid k1; have K2 := Lib.hid k2
            clear k1 k2 hwd hb h95
            go_wp2_with fail
            refine (isName_is hs hw K1.out).mono ?_; rintro e w' ⟨rfl, rfl⟩
            go_wp2_with fail
            refine (isCon_is hs hw K2.out).mono ?_; rintro e w' ⟨rfl, rfl⟩
            go_wp2_with fail
            refine (lex_wakes w hw).mono ?_; rintro e w1 ⟨rfl, hx⟩
            go_wp2
            go_ret
            exact ⟨rfl, hx⟩
          · have hb' : (s.toList == [95]) = false := by rw [hb]; exact decide_eq_false h95
            have htok := tokensOf_word hwd (by rw [HL.out]; omega)
            rw [HL.out] at htok
            by_cases h12 : 12 < s.size
            · have k1 : isKind s.data.toList 1 = false := isKind_long (by rw [HL.out]; exact h12)
              have k2 : isKind s.data.toList 2 = false := isKind_long (by rw [HL.out]; exact h12)
              have hres : tokensRes s.data.toList = (11, 0, []) := by
                unfold tokensRes; rw [HL.out, if_neg (by omega), htok, if_pos h12]
              have K1 := Lib.hid k1; have K2 := Lib.hid k2; have HR := Lib.hid hres
              clear k1 k2 hwd hb h95 htok hres
              go_wp2_with fail
              refine (tokens_is hs hw HR.out).mono ?_; rintro e w1 ⟨v, rfl, hx1, hr1⟩
              obtain ⟨_, _, rfl, _, _⟩ := hr1.len
              clear hr1
              have hl1 := hw.ext (hx1.trans (Ext.alloc w1 (.cells #[.int .i64 11, .int .i64 0] 26)))
              have hxx := (hx1.trans (Ext.alloc w1 (.cells #[.int .i64 11, .int .i64 0] 26)))
              have HXX := Lib.hid hxx
              clear hx1 hxx
              go_wp2_with fail
              refine (isName_is hs hl1 K1.out).mono ?_; rintro e w' ⟨rfl, rfl⟩
              go_wp2_with fail
              refine (isCon_is hs hl1 K2.out).mono ?_; rintro e w' ⟨rfl, rfl⟩
              go_wp2_with fail
              refine (lex_wakes _ hl1).mono ?_; rintro e w2 ⟨rfl, hx2⟩
              go_wp2
              go_ret
              exact ⟨rfl, HXX.out.trans hx2⟩
            · have hres : tokensRes s.data.toList = (0, 0, [(kindOf s.data.toList, s.data.toList, 0)]) := by
                unfold tokensRes; rw [HL.out, if_neg (by omega), htok, if_neg h12]
              have k1 := isKind_word (k := 1) hwd (by rw [HL.out]; omega) (by rw [HL.out]; omega)
              have k2 := isKind_word (k := 2) hwd (by rw [HL.out]; omega) (by rw [HL.out]; omega)
              have kk := kindOf_word h95
              rw [str_head s h0] at kk
              have hself : strOf s.data.toList = s := (str_eq rfl).symm
              generalize hkd : kindOf s.data.toList = kd at *
              have K1 := Lib.hid k1; have K2 := Lib.hid k2; have HR := Lib.hid hres; have HS := Lib.hid hself
              clear k1 k2 hwd hb h95 htok hres hself hkd
              have kk2 : (65 ≤ s[0].toNat ∧ s[0].toNat ≤ 90 ∧ kd = 2) ∨ ((s[0].toNat < 65 ∨ 90 < s[0].toNat) ∧ (kd = 1 ∨ kd = 5)) := by
                simp only [isGreat, Bool.and_eq_true, Bool.and_eq_false_iff, decide_eq_true_eq, decide_eq_false_iff_not] at kk
                omega
              clear kk
              go_wp2_with fail
              refine (tokens_is hs hw HR.out).mono ?_; rintro e w1 ⟨v, rfl, hx1, hr1⟩
              obtain ⟨g, c, rfl, hg, hc, hm, hcell⟩ := hr1.shape (by simp)
              have c0 := (hcell 0 _ rfl).1
              have c1 := (hcell 0 _ rfl).2.1
              rw [HS.out] at c1
              simp only [Nat.reduceMul, Nat.reduceAdd] at c0 c1
              clear hr1 hcell
              have hl1 := hw.ext (hx1.trans (Ext.alloc w1 (.cells #[.int .i64 0, .int .i64 0] 26)))
              have hxx := (hx1.trans (Ext.alloc w1 (.cells #[.int .i64 0, .int .i64 0] 26)))
              have HXX := Lib.hid hxx
              clear hx1 hxx
              have e0 := (Ext.alloc w1 (.cells #[.int .i64 0, .int .i64 0] 26)).cell c0
              have e1 := (Ext.alloc w1 (.cells #[.int .i64 0, .int .i64 0] 26)).cell c1
              clear c0 c1
              rcases kk2 with ⟨g1, g2, rfl⟩ | ⟨g1, rfl | rfl⟩
              · have i1 : 65 ≤ (s[0].toNat : Int) := by omega
                have i2 : (s[0].toNat : Int) ≤ 90 := by omega
                clear g1 g2
                go_wp2_with fail
                generalize hW1 : w1.alloc (.cells #[.int .i64 0, .int .i64 0] 26) = W1 at *
                have r0 := fun d os => cell_regrown e0 d os
                have cC := fun d os => quiet_same (isCon_is hs (hl1.ext (Ext.regrown W1 d os)) K2.out)
                have cN := fun d os => quiet_same (isName_is hs (hl1.ext (Ext.regrown W1 d os)) K1.out)
                have cW := fun d os => quiet_ext (lex_wakes _ (hl1.ext (Ext.regrown W1 d os)))
                have CC := Lib.hid cC; have CN := Lib.hid cN; have CW := Lib.hid cW
                clear cC cN cW hW1
                refine wp_region_quiet_below (by kernel_rfl) (by kernel_rfl) ?_
                repeat (first | go_big_quiet_step (first | exact CC.out _ _ | exact CN.out _ _ | exact CW.out _ _) | quiet_step (first | exact CC.out _ _ | exact CN.out _ _ | exact CW.out _ _))
                refine wpQuiet_nil ?_
                intro _ hw'
                obtain ⟨⟨dq, osq⟩, hw''⟩ := hw'
                subst hw''
                go_wp2
                go_ret
                exact ⟨rfl, HXX.out.trans (Ext.regrown _ _ _)⟩
              · by_cases g2 : s[0].toNat < 65
                · have i1 : (s[0].toNat : Int) < 65 := by omega
                  clear g1 g2
                  go_wp2_with fail
                  generalize hW1 : w1.alloc (.cells #[.int .i64 0, .int .i64 0] 26) = W1 at *
                  have r0 := fun d os => cell_regrown e0 d os
                  have cC := fun d os => quiet_same (isCon_is hs (hl1.ext (Ext.regrown W1 d os)) K2.out)
                  have cN := fun d os => quiet_same (isName_is hs (hl1.ext (Ext.regrown W1 d os)) K1.out)
                  have cW := fun d os => quiet_ext (lex_wakes _ (hl1.ext (Ext.regrown W1 d os)))
                  have CC := Lib.hid cC; have CN := Lib.hid cN; have CW := Lib.hid cW
                  clear cC cN cW hW1
                  refine wp_region_quiet_below (by kernel_rfl) (by kernel_rfl) ?_
                  repeat (first | go_big_quiet_step (first | exact CC.out _ _ | exact CN.out _ _ | exact CW.out _ _) | quiet_step (first | exact CC.out _ _ | exact CN.out _ _ | exact CW.out _ _))
                  refine wpQuiet_nil ?_
                  intro _ hw'
                  obtain ⟨⟨dq, osq⟩, hw''⟩ := hw'
                  subst hw''
                  go_wp2
                  go_ret
                  exact ⟨rfl, HXX.out.trans (Ext.regrown _ _ _)⟩
                · have i1 : 65 ≤ (s[0].toNat : Int) := by omega
                  have i2 : decide ((s[0].toNat : Int) ≤ 90) = false := decide_eq_false (by omega)
                  clear g1 g2
                  go_wp2_with fail
                  generalize hW1 : w1.alloc (.cells #[.int .i64 0, .int .i64 0] 26) = W1 at *
                  have r0 := fun d os => cell_regrown e0 d os
                  have cC := fun d os => quiet_same (isCon_is hs (hl1.ext (Ext.regrown W1 d os)) K2.out)
                  have cN := fun d os => quiet_same (isName_is hs (hl1.ext (Ext.regrown W1 d os)) K1.out)
                  have cW := fun d os => quiet_ext (lex_wakes _ (hl1.ext (Ext.regrown W1 d os)))
                  have CC := Lib.hid cC; have CN := Lib.hid cN; have CW := Lib.hid cW
                  clear cC cN cW hW1
                  refine wp_region_quiet_below (by kernel_rfl) (by kernel_rfl) ?_
                  repeat (first | go_big_quiet_step (first | exact CC.out _ _ | exact CN.out _ _ | exact CW.out _ _) | quiet_step (first | exact CC.out _ _ | exact CN.out _ _ | exact CW.out _ _))
                  refine wpQuiet_nil ?_
                  intro _ hw'
                  obtain ⟨⟨dq, osq⟩, hw''⟩ := hw'
                  subst hw''
                  go_wp2
                  go_ret
                  exact ⟨rfl, HXX.out.trans (Ext.regrown _ _ _)⟩
              · by_cases g2 : s[0].toNat < 65
                · have i1 : (s[0].toNat : Int) < 65 := by omega
                  clear g1 g2
                  go_wp2_with fail
                  generalize hW1 : w1.alloc (.cells #[.int .i64 0, .int .i64 0] 26) = W1 at *
                  have r0 := fun d os => cell_regrown e0 d os
                  have cC := fun d os => quiet_same (isCon_is hs (hl1.ext (Ext.regrown W1 d os)) K2.out)
                  have cN := fun d os => quiet_same (isName_is hs (hl1.ext (Ext.regrown W1 d os)) K1.out)
                  have cW := fun d os => quiet_ext (lex_wakes _ (hl1.ext (Ext.regrown W1 d os)))
                  have CC := Lib.hid cC; have CN := Lib.hid cN; have CW := Lib.hid cW
                  clear cC cN cW hW1
                  refine wp_region_quiet_below (by kernel_rfl) (by kernel_rfl) ?_
                  repeat (first | go_big_quiet_step (first | exact CC.out _ _ | exact CN.out _ _ | exact CW.out _ _) | quiet_step (first | exact CC.out _ _ | exact CN.out _ _ | exact CW.out _ _))
                  refine wpQuiet_nil ?_
                  intro _ hw'
                  obtain ⟨⟨dq, osq⟩, hw''⟩ := hw'
                  subst hw''
                  go_wp2
                  go_ret
                  exact ⟨rfl, HXX.out.trans (Ext.regrown _ _ _)⟩
                · have i1 : 65 ≤ (s[0].toNat : Int) := by omega
                  have i2 : decide ((s[0].toNat : Int) ≤ 90) = false := decide_eq_false (by omega)
                  clear g1 g2
                  go_wp2_with fail
                  generalize hW1 : w1.alloc (.cells #[.int .i64 0, .int .i64 0] 26) = W1 at *
                  have r0 := fun d os => cell_regrown e0 d os
                  have cC := fun d os => quiet_same (isCon_is hs (hl1.ext (Ext.regrown W1 d os)) K2.out)
                  have cN := fun d os => quiet_same (isName_is hs (hl1.ext (Ext.regrown W1 d os)) K1.out)
                  have cW := fun d os => quiet_ext (lex_wakes _ (hl1.ext (Ext.regrown W1 d os)))
                  have CC := Lib.hid cC; have CN := Lib.hid cN; have CW := Lib.hid cW
                  clear cC cN cW hW1
                  refine wp_region_quiet_below (by kernel_rfl) (by kernel_rfl) ?_
                  repeat (first | go_big_quiet_step (first | exact CC.out _ _ | exact CN.out _ _ | exact CW.out _ _) | quiet_step (first | exact CC.out _ _ | exact CN.out _ _ | exact CW.out _ _))
                  refine wpQuiet_nil ?_
                  intro _ hw'
                  obtain ⟨⟨dq, osq⟩, hw''⟩ := hw'
                  subst hw''
                  go_wp2
                  go_ret
                  exact ⟨rfl, HXX.out.trans (Ext.regrown _ _ _)⟩
  · go_enter Tryd.func6, Tryd.ntmps6
    by_cases h1 : 100 < s.size
    · go_wp2_with fail
      refine (lex_wakes w hw).mono ?_; rintro e w1 ⟨rfl, hx⟩
      go_wp2
      go_ret
      exact ⟨rfl, hx⟩
    · have n0 : ((s.size : Int) == 0) = true := by
        have : s.size = 0 := by unfold maxLen at hs; omega
        simp [this]
      go_wp2_with fail
      refine (lex_wakes w hw).mono ?_; rintro e w1 ⟨rfl, hx⟩
      go_wp2
      go_ret
      exact ⟨rfl, hx⟩
end Go.Proofs.YtdkmakdlojlacaaDoor
