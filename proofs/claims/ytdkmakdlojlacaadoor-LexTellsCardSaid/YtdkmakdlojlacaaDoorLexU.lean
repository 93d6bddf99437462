/- The walks of lex's tokens. -/
import Derived.Test.YtdkmakdlojlacaaDoorLexV
import Derived.Test.YtdkmakdlojlacaaDoorArithQ
import Derived.Deep.QuietTactic
import Derived.BigQuiet
import Derived.StillTailTactics
import Derived.Deep.RegionWith
namespace Go.Proofs.YtdkmakdlojlacaaDoor
open Go.RowKit Lex
set_option maxHeartbeats 400000
theorem WordsLie.ext {w w' : World} (h : WordsLie w) (e : Ext w w') : WordsLie w' := fun j hj => e.cell (h j hj)
/-- a token as a value -/
def tokV (k : Nat) (t : List UInt8) (p : Nat) : Array Value := #[.int .i64 k, .string (strOf t), .int .i64 p]
/-- what a function of a token answers: the token, and how many bytes it has; 0: there is none -/
def tokAns : Option (Nat × List UInt8 × Nat) → Value
  | some (k, t, n) => .tuple #[.agg (tokV k t 0), .int .i64 n]
  | none => .tuple #[.agg (tokV 0 [] 0), .int .i64 0]
def TokAns (r : Option (Nat × List UInt8 × Nat)) (w : World) (e : Ending) (w' : World) : Prop := e = .returned (tokAns r) ∧ Ext w w'
theorem wordTok_any (s : ByteArray) (w : World) (hs : s.size ≤ maxLen) (h0 : 0 < s.size) (hl : isLetter s[0] = true) (hw : WordsLie w) : Calls Tryd.prog 34 #[.string s] w (TokAns (wordTok s.data.toList) w) := by
  have hle := runLen_le inWord s.data.toList
  rw [str_length] at hle
  have h1 : 0 < runLen inWord s.data.toList := by
    have HH := str_head s h0
    have : s.data.toList = s[0] :: s.data.toList.drop 1 := List.drop_eq_getElem_cons (l := s.data.toList) (i := 0) (by rw [str_length]; exact h0)
    rw [this, runLen_cons, if_pos (by simp [inWord, hl])]; omega
  have hr : wordTok s.data.toList = if 12 < runLen inWord s.data.toList then none else some (kindOf (s.data.toList.take (runLen inWord s.data.toList)), s.data.toList.take (runLen inWord s.data.toList), runLen inWord s.data.toList) := rfl
  generalize hn : runLen inWord s.data.toList = n at *
  have HN := Lib.hid hn
  clear hn
  by_cases h12 : 12 < n
  · have HR := Lib.hid hr
    clear hr
    go_enter Tryd.func34, Tryd.ntmps34
    go_wp2_with (go_at_call 39; refine (word_any _ _ hs).mono ?_; rintro e w' ⟨rfl, rfl⟩; rw [HN.out])
    refine bodyPost_ret (v := tokAns none) (by simp [results, Tryd.results34, go_sem, tokAns, tokV]; rfl) rfl ⟨?_, Ext.alloc _ _⟩
    rw [HR.out, if_pos h12]
  · have HR := Lib.hid hr
    clear hr
    obtain ⟨q, hq⟩ : ∃ q, kindOf (s.extract 0 n).data.toList = q := ⟨_, rfl⟩
    have HQ := Lib.hid hq
    clear hq
    have hsz : 0 < (s.extract 0 n).size := by simp; omega
    have HK := fun wx hx => kind_any (s.extract 0 n) wx hsz hx
    have HKH := Lib.hid HK
    clear HK
    go_enter Tryd.func34, Tryd.ntmps34
    go_wp2_with (go_at_call 39; refine (word_any _ _ hs).mono ?_; rintro e w' ⟨rfl, rfl⟩; rw [HN.out])
    go_region_with (go_at_call 40; refine (HKH.out _ (hw.ext ((Ext.alloc _ _).trans (Ext.drew _)))).mono ?_; rintro e w' ⟨rfl, rfl⟩; rw [HQ.out])
    go_wp2
    refine bodyPost_ret (v := tokAns (some (q, s.data.toList.take n, n))) (by simp [results, Tryd.results34, go_sem, tokAns, tokV]; exact (extract_str s n).symm) rfl ⟨?_, (Ext.alloc _ _).trans (Ext.drew _)⟩
    rw [HR.out, if_neg h12, ← HQ.out, extract_zero_list]
theorem intTok_any (s : ByteArray) (w : World) (hs : s.size ≤ maxLen) : Calls Tryd.prog 36 #[.string s] w (TokAns (intTok s.data.toList) w) := by
  have hs' := hs
  unfold maxLen at hs'
  have hle := runLen_le isDigit s.data.toList
  rw [str_length] at hle
  have hr : intTok s.data.toList = if parseOK (s.data.toList.take (runLen isDigit s.data.toList)) && !startsLetter (s.data.toList.drop (runLen isDigit s.data.toList)) then some (3, s.data.toList.take (runLen isDigit s.data.toList), runLen isDigit s.data.toList) else none := rfl
  generalize hn : runLen isDigit s.data.toList = n at *
  have HN := Lib.hid hn
  clear hn
  have hp2 := fun (wx : World) => arith_parse (s.extract 0 n) wx (by simp; unfold maxLen; omega)
  unfold ParseAns at hp2
  rw [extract_zero_list] at hp2
  generalize hV : parseV (s.data.toList.take n) = V at *
  generalize hP : parseOK (s.data.toList.take n) = P at *
  clear hV hP
  have HP := Lib.hid hp2
  clear hp2
  cases P
  · have HR := Lib.hid hr
    clear hr
    go_enter Tryd.func36, Tryd.ntmps36
    go_wp2_with (first | (go_at_call 31; refine (run_digit _ _ hs).mono ?_; rintro e w' ⟨rfl, rfl⟩; rw [HN.out]) | (go_at_call 42; refine (HP.out _).mono ?_; rintro e w' ⟨rfl, rfl⟩))
    refine bodyPost_ret (v := tokAns none) (by simp [results, Tryd.results36, go_sem, tokAns, tokV]; rfl) rfl ⟨?_, Ext.alloc _ _⟩
    rw [HR.out]; rfl
  · by_cases hlt : n < s.size
    · have hd : s.data.toList.drop n = s[n] :: s.data.toList.drop (n + 1) := List.drop_eq_getElem_cons (by rw [str_length]; exact hlt)
      rw [hd] at hr
      cases hl : isLetter s[n]
      all_goals
        simp only [startsLetter, hl, Bool.not_false, Bool.not_true, Bool.and_true, Bool.and_false, if_true, Bool.false_eq_true, if_false] at hr
        have HR := Lib.hid hr
        have HL := Lib.hid hl
        clear hr hl hd
        go_enter Tryd.func36, Tryd.ntmps36
        go_wp2_with (first | (go_at_call 31; refine (run_digit _ _ hs).mono ?_; rintro e w' ⟨rfl, rfl⟩; rw [HN.out]) | (go_at_call 42; refine (HP.out _).mono ?_; rintro e w' ⟨rfl, rfl⟩) | (go_at_call 33; refine (letter_any _ _).mono ?_; rintro e w' ⟨rfl, rfl⟩; rw [HL.out]))
      · refine bodyPost_ret (v := tokAns (some (3, s.data.toList.take n, n))) (by simp [results, Tryd.results36, go_sem, tokAns, tokV]; exact (extract_str s n).symm) rfl ⟨?_, Ext.alloc _ _⟩
        rw [HR.out]
      · refine bodyPost_ret (v := tokAns none) (by simp [results, Tryd.results36, go_sem, tokAns, tokV]; rfl) rfl ⟨?_, Ext.alloc _ _⟩
        rw [HR.out]
    · have hd : s.data.toList.drop n = [] := List.drop_eq_nil_of_le (by rw [str_length]; omega)
      rw [hd] at hr
      simp only [startsLetter, Bool.not_false, Bool.and_true, if_true] at hr
      have HR := Lib.hid hr
      clear hr hd
      go_enter Tryd.func36, Tryd.ntmps36
      go_wp2_with (first | (go_at_call 31; refine (run_digit _ _ hs).mono ?_; rintro e w' ⟨rfl, rfl⟩; rw [HN.out]) | (go_at_call 42; refine (HP.out _).mono ?_; rintro e w' ⟨rfl, rfl⟩))
      refine bodyPost_ret (v := tokAns (some (3, s.data.toList.take n, n))) (by simp [results, Tryd.results36, go_sem, tokAns, tokV]; exact (extract_str s n).symm) rfl ⟨?_, Ext.alloc _ _⟩
      rw [HR.out]
end Go.Proofs.YtdkmakdlojlacaaDoor
