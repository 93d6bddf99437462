/- The walks of lex's kinds. -/
import Derived.Test.YtdkmakdlojlacaaDoorLexW
import Derived.Test.YtdkmakdlojlacaaDoorArithQ
namespace Go.Proofs.YtdkmakdlojlacaaDoor
open Go.RowKit Lex
set_option maxHeartbeats 400000
/-- the tables of lex lie where they were laid -/
def WordsLie (w : World) : Prop := ∀ j, j < words.length → w.cell? ⟨1, j, none⟩ = some (.string (strOf (words.getD j [])))
def SignsLie (w : World) : Prop := ∃ t fr, w.heap[0]? = some (.cells (signs.map fun l => Value.string (strOf l)).toArray t fr)
def LexLie (w : World) : Prop := WordsLie w ∧ SignsLie w
theorem gWords : Tryd.prog.globalNamed "stockpot/lex.words" = some 1 := by kernel_rfl
theorem gSigns : Tryd.prog.globalNamed "stockpot/lex.signs" = some 0 := by kernel_rfl
/-- from the row's list to what the walks read -/
theorem lexLie_of_laid {W : World} {l : List (String × DataW Unit)} (h : laidMetH Tryd.prog l W) (hh : (l.filter fun x => x.2.handleName?.isSome) = [])
    (h1 : ("stockpot/lex.words", strsData words) ∈ l) (h2 : ("stockpot/lex.signs", strsData signs) ∈ l) : LexLie W := by
  have hm := laidMet_of_H h hh
  refine ⟨fun j hj => ?_, ?_⟩
  · obtain ⟨tt, fr, hb⟩ := strsAre_of_mem (t := 60) (e := 9) (n := 34) gWords (by kernel_rfl) Tryd.underlying60 Tryd.underlying9 (by kernel_rfl) (by kernel_rfl) hm h1
    simp [World.cell?, hb, hj, List.getD, strOf]
  · obtain ⟨tt, fr, hb⟩ := strsAre_of_mem (t := 57) (e := 9) (n := 19) gSigns (by kernel_rfl) Tryd.underlying57 Tryd.underlying9 (by kernel_rfl) (by kernel_rfl) hm h2
    exact ⟨tt, fr, hb⟩
theorem words_len : words.length = 34 := by decide
theorem contains_words (s : ByteArray) : Lib.containsS ((words.map strOf).take 34) s = words.contains s.data.toList := by
  have e : (words.map strOf).take 34 = words.map strOf := List.take_of_length_le (by decide)
  rw [e, Bool.eq_iff_iff, Lib.containsS_iff, List.contains_iff_mem]
  constructor
  · intro h
    obtain ⟨l, hl, rfl⟩ := List.mem_map.1 h
    exact hl
  · intro h
    have e : s = strOf s.data.toList := str_eq rfl
    rw [e]
    exact List.mem_map_of_mem h
theorem kind_any (s : ByteArray) (w : World) (hs : 0 < s.size) (hw : WordsLie w) : Calls Tryd.prog 40 #[.string s] w fun e w' => e = .returned (.int .i64 (kindOf s.data.toList)) ∧ w = w' := by
  have hc := Tryd.slices_Contains_string 1 0 34 34 (words.map strOf) s w (by decide) (by decide) (fun j hj => by
    have := hw j (by simpa using hj)
    rw [Nat.zero_add, this]
    have hj' : j < words.length := by simpa using hj
    simp [List.getD, hj'])
  rw [contains_words] at hc
  have HC := Lib.hid hc
  clear hc
  have hne := str_isEmpty s hs
  have hb := str_beq_lit s [95]
  have hhd := str_head s hs
  have HH := Lib.hid hhd
  clear hhd
  cases h95 : decide (s.data.toList = [95])
  · rw [h95] at hb
    cases hcw : words.contains s.data.toList
    · rw [hcw] at HC
      cases hg : isGreat s[0]
      all_goals
        have h95' : ¬ s.data.toList = [95] := of_decide_eq_false h95
        have hk : kindOf s.data.toList = if isGreat s[0] then 2 else 1 := by unfold kindOf; rw [if_neg h95', hcw, HH.out]; rfl
        simp only [hg, if_true, Bool.false_eq_true, if_false] at hk
        have HK := Lib.hid hk; have HG := Lib.hid hg
        clear hk hg h95' h95 hcw
        go_enter Tryd.func40, Tryd.ntmps40
        go_wp2_with (first | (go_at_call 46; refine HC.out.mono ?_; rintro e w' ⟨rfl, rfl⟩) | (go_at_call 41; refine (great_any _ _).mono ?_; rintro e w' ⟨rfl, rfl⟩; rw [HG.out]))
        go_ret
        rw [HK.out]
        exact ⟨rfl, rfl⟩
    · rw [hcw] at HC
      have h95' : ¬ s.data.toList = [95] := of_decide_eq_false h95
      have hk : kindOf s.data.toList = 5 := by unfold kindOf; rw [if_neg h95', hcw]; rfl
      have HK := Lib.hid hk
      clear hk h95' h95 hcw
      go_enter Tryd.func40, Tryd.ntmps40
      go_wp2_with (first | (go_at_call 46; refine HC.out.mono ?_; rintro e w' ⟨rfl, rfl⟩))
      go_ret
      rw [HK.out]
      exact ⟨rfl, rfl⟩
  · rw [h95] at hb
    have h95' : s.data.toList = [95] := of_decide_eq_true h95
    have hk : kindOf s.data.toList = 6 := by unfold kindOf; rw [if_pos h95']
    have HK := Lib.hid hk
    clear hk h95' h95
    go_enter Tryd.func40, Tryd.ntmps40
    go_wp2
    go_ret
    rw [HK.out]
    exact ⟨rfl, rfl⟩
theorem word_any (s : ByteArray) (w : World) (hs : s.size ≤ maxLen) : Calls Tryd.prog 39 #[.string s] w fun e w' => e = .returned (.int .i64 (runLen inWord s.data.toList)) ∧ w = w' := by
  go_enter Tryd.func39, Tryd.ntmps39
  go_wp2_with (go_at_call 31; refine (run_word _ _ hs).mono ?_; rintro e w' ⟨rfl, rfl⟩)
  go_ret
  exact ⟨rfl, rfl⟩
theorem is_any (s : ByteArray) (k : Nat) (w : World) (hs : s.size ≤ maxLen) (hw : WordsLie w) : Calls Tryd.prog 29 #[.string s, .int .i64 k] w fun e w' => e = .returned (.bool (isKind s.data.toList k)) ∧ w = w' := by
  have hs' := hs
  unfold maxLen at hs'
  by_cases h0 : 0 < s.size
  · have hne := str_isEmpty s h0
    have HH := Lib.hid (str_head s h0)
    have HL := Lib.hid (str_length s)
    by_cases h12 : s.size ≤ 12
    · cases hl : isLetter s[0]
      · have hk : isKind s.data.toList k = false := by unfold isKind; rw [HH.out, hl]; simp
        have HK := Lib.hid hk; have HL := Lib.hid hl
        clear hk hl
        go_enter Tryd.func29, Tryd.ntmps29
        go_wp2_with (first | (go_at_call 33; refine (letter_any _ _).mono ?_; rintro e w' ⟨rfl, rfl⟩; rw [HL.out]))
        go_ret
        rw [HK.out]
        exact ⟨rfl, rfl⟩
      · have hk : isKind s.data.toList k = (decide (runLen inWord s.data.toList = s.size) && decide (kindOf s.data.toList = k)) := by
          unfold isKind; rw [HH.out, hl, HL.out]
          have e1 : decide (1 ≤ s.size) = true := decide_eq_true h0
          have e2 : decide (s.size ≤ 12) = true := decide_eq_true h12
          rw [e1, e2]; rfl
        have HK := Lib.hid hk; have HL := Lib.hid hl
        clear hk hl
        generalize hr : runLen inWord s.data.toList = r at *
        have HR := Lib.hid hr
        generalize hkd : kindOf s.data.toList = q at *
        have HD := Lib.hid hkd
        clear hr hkd
        by_cases hrs : r = s.size
        · subst hrs
          go_enter Tryd.func29, Tryd.ntmps29
          go_wp2_with (first | (go_at_call 33; refine (letter_any _ _).mono ?_; rintro e w' ⟨rfl, rfl⟩; rw [HL.out]) | (go_at_call 39; refine (word_any _ _ hs).mono ?_; rintro e w' ⟨rfl, rfl⟩; rw [HR.out]) | (go_at_call 40; refine (kind_any _ _ h0 hw).mono ?_; rintro e w' ⟨rfl, rfl⟩; rw [HD.out]))
          go_ret
          rw [HK.out]
          refine ⟨ret_bool ?_, rfl⟩
          rw [Bool.eq_iff_iff]; simp; omega
        · have hrs' : ((r : Int) == (s.size : Int)) = false := by simp; omega
          go_enter Tryd.func29, Tryd.ntmps29
          go_wp2_with (first | (go_at_call 33; refine (letter_any _ _).mono ?_; rintro e w' ⟨rfl, rfl⟩; rw [HL.out]) | (go_at_call 39; refine (word_any _ _ hs).mono ?_; rintro e w' ⟨rfl, rfl⟩; rw [HR.out]))
          go_ret
          rw [HK.out]
          refine ⟨ret_bool ?_, rfl⟩
          simp [hrs]
    · have hk : isKind s.data.toList k = false := by unfold isKind; rw [HL.out]; simp [h12]
      have HK := Lib.hid hk
      clear hk
      go_enter Tryd.func29, Tryd.ntmps29
      go_wp2
      go_ret
      rw [HK.out]
      exact ⟨rfl, rfl⟩
  · obtain rfl := str_empty s (by omega)
    go_enter Tryd.func29, Tryd.ntmps29
    go_wp2
    go_ret
    exact ⟨rfl, rfl⟩
theorem isName_any (s : ByteArray) (w : World) (hs : s.size ≤ maxLen) (hw : WordsLie w) : Calls Tryd.prog 15 #[.string s] w fun e w' => e = .returned (.bool (isKind s.data.toList 1)) ∧ w = w' := by
  go_enter Tryd.func15, Tryd.ntmps15
  go_wp2_with (go_at_call 29; refine (is_any _ 1 _ hs hw).mono ?_; rintro e w' ⟨rfl, rfl⟩)
  go_ret
  exact ⟨rfl, rfl⟩
theorem isCon_any (s : ByteArray) (w : World) (hs : s.size ≤ maxLen) (hw : WordsLie w) : Calls Tryd.prog 17 #[.string s] w fun e w' => e = .returned (.bool (isKind s.data.toList 2)) ∧ w = w' := by
  go_enter Tryd.func17, Tryd.ntmps17
  go_wp2_with (go_at_call 29; refine (is_any _ 2 _ hs hw).mono ?_; rintro e w' ⟨rfl, rfl⟩)
  go_ret
  exact ⟨rfl, rfl⟩
end Go.Proofs.YtdkmakdlojlacaaDoor
