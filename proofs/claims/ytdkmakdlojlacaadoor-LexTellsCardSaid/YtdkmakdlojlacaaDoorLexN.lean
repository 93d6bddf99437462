/- The walks of lex.skipped, Tokens. -/
import Derived.Test.YtdkmakdlojlacaaDoorLexS
namespace Go.Proofs.YtdkmakdlojlacaaDoor
open Go.RowKit Lex
set_option maxHeartbeats 1000000
theorem skipped_any (s : ByteArray) (w : World) (hs : s.size ≤ maxLen) : Calls Tryd.prog 19 #[.string s] w fun e w' => e = .returned (.int .i64 (skip s.data.toList)) ∧ w = w' := by
  have hs' := hs
  unfold maxLen at hs'
  have hle := skip_le s.data.toList
  rw [str_length] at hle
  obtain ⟨R, hR⟩ : ∃ R, skip s.data.toList = R := ⟨_, rfl⟩
  rw [hR] at hle ⊢
  have HR := Lib.hid hR
  clear hR
  go_enter Tryd.func19, Tryd.ntmps19
  go_wp2
  go_loop [3] (fun i => ∃ k : Nat, k ≤ s.size ∧ i = .int .i64 k ∧ R = k + skipS false (s.data.toList.drop k)) (fun i => s.size - (intOf i).toNat)
  case atStart => exact ⟨0, Nat.zero_le _, rfl, by rw [← HR.out]; simp [skip]⟩
  case round =>
    obtain ⟨k, hk, rfl, hg⟩ := hrel
    by_cases hlt : k < s.size
    · rw [str_drop s k hlt, skipS] at hg
      by_cases hb : s[k].toNat = 32 ∨ s[k].toNat = 9 ∨ s[k].toNat = 10
      · have hbl : isBlank s[k] = true := by simp only [isBlank, Bool.or_eq_true, decide_eq_true_eq]; omega
        rw [if_pos hbl] at hg
        have HG := Lib.hid hg
        clear hg hbl
        rcases hb with hb | hb | hb
        · have b1 : ((s[k].toNat : Int) == 32) = true := by simp; omega
          clear hb
          go_wp2
          go_round
          case rel => exact ⟨k + 1, by omega, by go_num, by have := HG.out; omega⟩
          case measure => simp [intOf]; omega
        · have b1 : ((s[k].toNat : Int) == 32) = false := by simp; omega
          have b2 : ((s[k].toNat : Int) == 9) = true := by simp; omega
          clear hb
          go_wp2
          go_round
          case rel => exact ⟨k + 1, by omega, by go_num, by have := HG.out; omega⟩
          case measure => simp [intOf]; omega
        · have b1 : ((s[k].toNat : Int) == 32) = false := by simp; omega
          have b2 : ((s[k].toNat : Int) == 9) = false := by simp; omega
          have b3 : ((s[k].toNat : Int) == 10) = true := by simp; omega
          clear hb
          go_wp2
          go_round
          case rel => exact ⟨k + 1, by omega, by go_num, by have := HG.out; omega⟩
          case measure => simp [intOf]; omega
      · have hbl : isBlank s[k] = false := by simp only [isBlank, Bool.or_eq_false_iff, decide_eq_false_iff_not]; omega
        have b1 : ((s[k].toNat : Int) == 32) = false := by simp; omega
        have b2 : ((s[k].toNat : Int) == 9) = false := by simp; omega
        have b3 : ((s[k].toNat : Int) == 10) = false := by simp; omega
        rw [hbl, if_neg (by decide)] at hg
        by_cases h35 : s[k].toNat = 35
        · rw [if_pos h35, skipS_note] at hg
          have b4 : ((s[k].toNat : Int) == 35) = true := by simp; omega
          have hrun : runLen notLine (s.extract k s.size).data.toList = 1 + runLen notLine (s.data.toList.drop (k + 1)) := by
            rw [extract_end_list, str_drop s k hlt, runLen_cons, if_pos (by simp [notLine, h35])]; omega
          have hrl := runLen_le notLine (s.data.toList.drop (k + 1))
          rw [List.length_drop, str_length] at hrl
          rw [List.drop_drop] at hg
          generalize hq : runLen notLine (s.data.toList.drop (k + 1)) = q at *
          have HQ := Lib.hid hrun
          have HG := Lib.hid hg
          clear hg hbl h35 hb hq hrun
          go_wp2_with (go_at_call 31; refine (run_line _ _ (by simp; unfold maxLen; omega)).mono ?_; rintro e w' ⟨rfl, rfl⟩; rw [HQ.out])
          go_round
          case rel => exact ⟨k + (1 + q), by omega, by go_num, by have := HG.out; rw [show k + (1 + q) = k + 1 + q from by omega]; omega⟩
          case measure => simp [intOf]; omega
        · rw [if_neg h35] at hg
          have b4 : ((s[k].toNat : Int) == 35) = false := by simp; omega
          have HG := Lib.hid hg
          clear hg hbl h35 hb
          go_wp2
          go_ret
          exact ⟨ret_int (by have := HG.out; omega), rfl⟩
    · rw [List.drop_eq_nil_of_le (by rw [str_length]; omega), skipS] at hg
      have HG := Lib.hid hg
      clear hg
      go_wp2
      go_ret
      exact ⟨ret_int (by have := HG.out; omega), rfl⟩
end Go.Proofs.YtdkmakdlojlacaaDoor
