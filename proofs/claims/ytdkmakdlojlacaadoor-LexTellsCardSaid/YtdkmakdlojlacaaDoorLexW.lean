/- The walks of lex's small functions. -/
import Derived.Test.YtdkmakdlojlacaaDoorLexR
import Derived.Test.YtdkmakdlojlacaaDoorExt
import Derived.Test.YtdkmakdlojlacaaDoorRows
import Derived.Test.YtdkmakdlojlacaaDoorShelf
namespace Go.Proofs.YtdkmakdlojlacaaDoor
open Go.RowKit Lex
set_option maxHeartbeats 400000
theorem ret_bool {a b : Bool} (h : a = b) : Ending.returned (.bool a) = .returned (.bool b) := by rw [h]
theorem ret_int {k : IntKind} {a b : Int} (h : a = b) : Ending.returned (.int k a) = .returned (.int k b) := by rw [h]
theorem great_any (c : UInt8) (w : World) : Calls Tryd.prog 41 #[.int .u8 (c.toNat : Int)] w fun e w' => e = .returned (.bool (isGreat c)) ∧ w = w' := by
  go_enter Tryd.func41, Tryd.ntmps41
  go_wp2
  all_goals
    go_ret
    refine ⟨ret_bool ?_, rfl⟩
    rw [Bool.eq_iff_iff]; simp [isGreat]; try omega
theorem digit_any (c : UInt8) (w : World) : Calls Tryd.prog 35 #[.int .u8 (c.toNat : Int)] w fun e w' => e = .returned (.bool (isDigit c)) ∧ w = w' := by
  go_enter Tryd.func35, Tryd.ntmps35
  go_wp2
  all_goals
    go_ret
    refine ⟨ret_bool ?_, rfl⟩
    rw [Bool.eq_iff_iff]; simp [isDigit]; try omega
theorem letter_any (c : UInt8) (w : World) : Calls Tryd.prog 33 #[.int .u8 (c.toNat : Int)] w fun e w' => e = .returned (.bool (isLetter c)) ∧ w = w' := by
  cases hg : isGreat c
  all_goals
    have HG := Lib.hid hg
    have hg2 := hg
    simp only [isGreat, Bool.and_eq_true, Bool.and_eq_false_iff, decide_eq_true_eq, decide_eq_false_iff_not] at hg2
    have HG2 := Lib.hid hg2
    clear hg hg2
    go_enter Tryd.func33, Tryd.ntmps33
    go_wp2_with (go_at_call 41; refine (great_any _ _).mono ?_; rintro e w' ⟨rfl, rfl⟩; rw [HG.out])
    all_goals
      go_ret
      refine ⟨ret_bool ?_, rfl⟩
      have := HG2.out
      rw [Bool.eq_iff_iff]; simp [isLetter, HG.out]; try omega
theorem in_word_any (c : UInt8) (w : World) : Calls Tryd.prog 45 #[.int .u8 (c.toNat : Int)] w fun e w' => e = .returned (.bool (inWord c)) ∧ w = w' := by
  cases hg : isLetter c
  all_goals
    have HG := Lib.hid hg
    clear hg
    go_enter Tryd.func45, Tryd.ntmps45
    go_wp2_with (first | (go_at_call 33; refine (letter_any _ _).mono ?_; rintro e w' ⟨rfl, rfl⟩; rw [HG.out]) | (go_at_call 35; refine (digit_any _ _).mono ?_; rintro e w' ⟨rfl, rfl⟩))
    all_goals
      go_ret
      refine ⟨ret_bool ?_, rfl⟩
      simp [inWord, HG.out]
theorem not_line_any (c : UInt8) (w : World) : Calls Tryd.prog 32 #[.int .u8 (c.toNat : Int)] w fun e w' => e = .returned (.bool (notLine c)) ∧ w = w' := by
  go_enter Tryd.func32, Tryd.ntmps32
  go_wp2
  all_goals
    go_ret
    refine ⟨ret_bool ?_, rfl⟩
    rw [Bool.eq_iff_iff]; simp [notLine]; try omega
/-- what is known of a text behind a run of bytes of a kind -/
theorem runLen_at {p : UInt8 → Bool} {l : List UInt8} {k : Nat} (hk : k < l.length) (h : runLen p l = k + runLen p (l.drop k)) : if p l[k] then runLen p l = k + 1 + runLen p (l.drop (k + 1)) else runLen p l = k := by
  rw [List.drop_eq_getElem_cons hk, runLen_cons] at h
  split at h
  · rename_i hp; rw [if_pos hp]; omega
  · rename_i hp; rw [if_neg hp]; omega
theorem run_word (s : ByteArray) (w : World) (hs : s.size ≤ maxLen) : Calls Tryd.prog 31 #[.string s, .func (.func 45) #[] #[]] w fun e w' => e = .returned (.int .i64 (runLen inWord s.data.toList)) ∧ w = w' := by
  unfold maxLen at hs
  have hlen := Lib.hid (show s.data.toList.length = s.size by simp)
  have hle := runLen_le inWord s.data.toList
  go_enter Tryd.func31, Tryd.ntmps31
  go_wp2
  go_loop [5] (fun i => ∃ k : Nat, k ≤ s.size ∧ i = .int .i64 k ∧ runLen inWord s.data.toList = k + runLen inWord (s.data.toList.drop k)) (fun i => s.size - (intOf i).toNat)
  case atStart => exact ⟨0, Nat.zero_le _, rfl, by simp⟩
  case round =>
    obtain ⟨k, hk, rfl, hrun⟩ := hrel
    by_cases hlt : k < s.size
    · have hrun2 := runLen_at (by rw [hlen.out]; exact hlt) hrun
      have hge : s.data.toList[k]'(by rw [hlen.out]; exact hlt) = s[k] := rfl
      rw [hge] at hrun2
      have HR := Lib.hid hrun2
      clear hrun hrun2 hge
      cases hp : inWord s[k]
      all_goals
        have HP := Lib.hid hp
        clear hp
        go_wp2_with (go_at_call 45; refine (in_word_any _ _).mono ?_; rintro e w' ⟨rfl, rfl⟩; rw [HP.out])
      · go_ret
        have := HR.out
        rw [HP.out] at this
        exact ⟨ret_int (by simp at this; omega), rfl⟩
      · go_round
        case rel => have := HR.out; rw [HP.out] at this; exact ⟨k + 1, by omega, by go_num, by simpa using this⟩
        case measure => simp [intOf]; omega
    · have hend : runLen inWord s.data.toList = s.size := by
        obtain rfl : k = s.size := by omega
        rw [List.drop_eq_nil_of_le (by rw [hlen.out]; exact Nat.le_refl _)] at hrun
        simpa [runLen] using hrun
      obtain rfl : k = s.size := by omega
      have HE := Lib.hid hend
      clear hend hrun
      go_wp2
      go_ret
      rw [HE.out]
      exact ⟨rfl, rfl⟩
theorem run_digit (s : ByteArray) (w : World) (hs : s.size ≤ maxLen) : Calls Tryd.prog 31 #[.string s, .func (.func 35) #[] #[]] w fun e w' => e = .returned (.int .i64 (runLen isDigit s.data.toList)) ∧ w = w' := by
  unfold maxLen at hs
  have hlen := Lib.hid (show s.data.toList.length = s.size by simp)
  have hle := runLen_le isDigit s.data.toList
  go_enter Tryd.func31, Tryd.ntmps31
  go_wp2
  go_loop [5] (fun i => ∃ k : Nat, k ≤ s.size ∧ i = .int .i64 k ∧ runLen isDigit s.data.toList = k + runLen isDigit (s.data.toList.drop k)) (fun i => s.size - (intOf i).toNat)
  case atStart => exact ⟨0, Nat.zero_le _, rfl, by simp⟩
  case round =>
    obtain ⟨k, hk, rfl, hrun⟩ := hrel
    by_cases hlt : k < s.size
    · have hrun2 := runLen_at (by rw [hlen.out]; exact hlt) hrun
      have hge : s.data.toList[k]'(by rw [hlen.out]; exact hlt) = s[k] := rfl
      rw [hge] at hrun2
      have HR := Lib.hid hrun2
      clear hrun hrun2 hge
      cases hp : isDigit s[k]
      all_goals
        have HP := Lib.hid hp
        clear hp
        go_wp2_with (go_at_call 35; refine (digit_any _ _).mono ?_; rintro e w' ⟨rfl, rfl⟩; rw [HP.out])
      · go_ret
        have := HR.out
        rw [HP.out] at this
        exact ⟨ret_int (by simp at this; omega), rfl⟩
      · go_round
        case rel => have := HR.out; rw [HP.out] at this; exact ⟨k + 1, by omega, by go_num, by simpa using this⟩
        case measure => simp [intOf]; omega
    · have hend : runLen isDigit s.data.toList = s.size := by
        obtain rfl : k = s.size := by omega
        rw [List.drop_eq_nil_of_le (by rw [hlen.out]; exact Nat.le_refl _)] at hrun
        simpa [runLen] using hrun
      obtain rfl : k = s.size := by omega
      have HE := Lib.hid hend
      clear hend hrun
      go_wp2
      go_ret
      rw [HE.out]
      exact ⟨rfl, rfl⟩
theorem run_line (s : ByteArray) (w : World) (hs : s.size ≤ maxLen) : Calls Tryd.prog 31 #[.string s, .func (.func 32) #[] #[]] w fun e w' => e = .returned (.int .i64 (runLen notLine s.data.toList)) ∧ w = w' := by
  unfold maxLen at hs
  have hlen := Lib.hid (show s.data.toList.length = s.size by simp)
  have hle := runLen_le notLine s.data.toList
  go_enter Tryd.func31, Tryd.ntmps31
  go_wp2
  go_loop [5] (fun i => ∃ k : Nat, k ≤ s.size ∧ i = .int .i64 k ∧ runLen notLine s.data.toList = k + runLen notLine (s.data.toList.drop k)) (fun i => s.size - (intOf i).toNat)
  case atStart => exact ⟨0, Nat.zero_le _, rfl, by simp⟩
  case round =>
    obtain ⟨k, hk, rfl, hrun⟩ := hrel
    by_cases hlt : k < s.size
    · have hrun2 := runLen_at (by rw [hlen.out]; exact hlt) hrun
      have hge : s.data.toList[k]'(by rw [hlen.out]; exact hlt) = s[k] := rfl
      rw [hge] at hrun2
      have HR := Lib.hid hrun2
      clear hrun hrun2 hge
      cases hp : notLine s[k]
      all_goals
        have HP := Lib.hid hp
        clear hp
        go_wp2_with (go_at_call 32; refine (not_line_any _ _).mono ?_; rintro e w' ⟨rfl, rfl⟩; rw [HP.out])
      · go_ret
        have := HR.out
        rw [HP.out] at this
        exact ⟨ret_int (by simp at this; omega), rfl⟩
      · go_round
        case rel => have := HR.out; rw [HP.out] at this; exact ⟨k + 1, by omega, by go_num, by simpa using this⟩
        case measure => simp [intOf]; omega
    · have hend : runLen notLine s.data.toList = s.size := by
        obtain rfl : k = s.size := by omega
        rw [List.drop_eq_nil_of_le (by rw [hlen.out]; exact Nat.le_refl _)] at hrun
        simpa [runLen] using hrun
      obtain rfl : k = s.size := by omega
      have HE := Lib.hid hend
      clear hend hrun
      go_wp2
      go_ret
      rw [HE.out]
      exact ⟨rfl, rfl⟩
end Go.Proofs.YtdkmakdlojlacaaDoor
