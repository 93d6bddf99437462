/- The walk of arith.Parse. -/
import Derived.Test.YtdkmakdlojlacaaDoorArithP
import Derived.Test.YtdkmakdlojlacaaDoorRws
import Derived.Test.YtdkmakdlojlacaaDoorRows
namespace Go.Proofs.YtdkmakdlojlacaaDoor
open Go.RowKit
theorem take_snoc (s : ByteArray) (k : Nat) (h : k < s.size) : s.data.toList.take (k + 1) = s.data.toList.take k ++ [s[k]] := by
  rw [List.take_succ_eq_append_getElem (by simpa using h)]; rfl
theorem all_take {l : List UInt8} (k : Nat) (h : allDigits (l.take k) = false) : allDigits l = false := by
  rw [← List.take_append_drop k l]
  simp only [allDigits, List.all_append, Bool.and_eq_false_iff] at h ⊢
  exact .inl h

/-- what arith.Parse answers -/
def ParseAns (l : List UInt8) (w : World) (e : Ending) (w' : World) : Prop := e = .returned (.tuple #[.int .i64 (parseV l), .bool (parseOK l)]) ∧ w = w'
theorem parseAns_mk {l : List UInt8} {r : Int} {ok : Bool} {w : World} {e : Ending} (he : e = .returned (.tuple #[.int .i64 r, .bool ok])) (h1 : r = parseV l) (h2 : ok = parseOK l) : ParseAns l w e w := by
  subst h1; subst h2; exact ⟨he, rfl⟩
theorem parse_no {l : List UInt8} (h : parseOK l = false) : (0 : Int) = parseV l ∧ false = parseOK l := by simp [parseV, h]

theorem dval_lt19 (l : List UInt8) (h : allDigits l = true) (hl : l.length ≤ 19) : dval l ≤ 9999999999999999999 := by
  have h1 := dval_lt l h
  have h2 : 10 ^ l.length ≤ 10 ^ 19 := Nat.pow_le_pow_right (by omega) hl
  omega
theorem dval_lt18 (l : List UInt8) (h : allDigits l = true) (hl : l.length ≤ 18) : dval l ≤ 999999999999999999 := by
  have h1 := dval_lt l h
  have h2 : 10 ^ l.length ≤ 10 ^ 18 := Nat.pow_le_pow_right (by omega) hl
  omega
theorem parse_yes {l : List UInt8} (h1 : 1 ≤ l.length) (h2 : l.length ≤ 19) (h3 : allDigits l = true) (h4 : dval l ≤ 4611686018427387903) : (dval l : Int) = parseV l ∧ true = parseOK l := by
  have : parseOK l = true := by simp only [parseOK, h3, Bool.and_eq_true, decide_eq_true_eq, and_true]; exact ⟨⟨h1, h2⟩, h4⟩
  simp [parseV, this]
theorem parse_far {l : List UInt8} (h4 : ¬ dval l ≤ 4611686018427387903) : parseOK l = false := by
  have : decide (dval l ≤ 4611686018427387903) = false := by simpa using h4
  simp only [parseOK, this, Bool.and_false]
section
set_option maxHeartbeats 400000
theorem parse_short (w : World) : Calls Tryd.prog 42 #[.string ⟨#[]⟩] w (ParseAns [] w) := by
  go_enter Tryd.func42, Tryd.ntmps42
  go_wp2
  go_ret2
  exact parseAns_mk rfl (by rfl) (by rfl)
theorem parse_long (s : ByteArray) (w : World) (hs : 19 < s.size) (hm : s.size ≤ maxLen) : Calls Tryd.prog 42 #[.string s] w (ParseAns s.data.toList w) := by
  unfold maxLen at hm
  have he := str_isEmpty s (by omega)
  go_enter Tryd.func42, Tryd.ntmps42
  go_wp2
  go_ret2
  have hp : parseOK s.data.toList = false := by
    have : decide (s.data.toList.length ≤ 19) = false := by rw [str_length]; simp; omega
    simp only [parseOK, this, Bool.and_false, Bool.false_and]
  exact parseAns_mk rfl (parse_no hp).1 (parse_no hp).2
theorem parse_mid (s : ByteArray) (w : World) (h1 : 0 < s.size) (h19 : s.size ≤ 19) : Calls Tryd.prog 42 #[.string s] w (ParseAns s.data.toList w) := by
  have he := str_isEmpty s (by omega)
  have hlen := Lib.hid (str_length s)
  go_enter Tryd.func42, Tryd.ntmps42
  go_wp2
  go_loop [4, 15] (fun v i => ∃ k : Nat, k ≤ s.size ∧ i = .int .i64 k ∧ allDigits (s.data.toList.take k) = true ∧ v = .int .u64 (dval (s.data.toList.take k) : Int)) (fun _ i => s.size - (intOf i).toNat)
  case atStart => exact ⟨0, Nat.zero_le _, rfl, rfl, rfl⟩
  case round =>
    obtain ⟨k, hk, rfl, had, rfl⟩ := hrel
    by_cases hlt : k < s.size
    · have hb := dval_lt18 _ had (by rw [List.length_take]; omega)
      have hsn := allDigits_snoc (s.data.toList.take k) s[k]
      have hdn := dval_snoc (s.data.toList.take k) s[k]
      rw [← take_snoc s k hlt] at hsn hdn
      rw [had] at hsn
      by_cases hd : 48 ≤ s[k].toNat ∧ s[k].toNat ≤ 57
      · obtain ⟨hd1, hd2⟩ := hd
        have HS := Lib.hid hsn
        have HD := Lib.hid hdn
        have HA := Lib.hid had
        clear hsn hdn had
        have hd3 : ¬ (s[k].toNat : Int) < 48 := by omega
        have hd4 : ¬ 57 < (s[k].toNat : Int) := by omega
        go_wp2
        go_round
        case rel => exact ⟨k + 1, by omega, by go_num, by rw [HS.out]; simp; omega, by rw [HD.out]; congr 1; omega⟩
        case measure => simp [intOf]; omega
      · have HN : allDigits (s.data.toList.take (k + 1)) = false := by
          rw [hsn, Bool.true_and, Bool.and_eq_false_iff, decide_eq_false_iff_not, decide_eq_false_iff_not]; omega
        have hp : parseOK s.data.toList = false := by simp [parseOK, all_take _ HN]
        have HP := Lib.hid hp
        clear hsn hdn HN hp had
        go_wp2
        all_goals
          go_ret2
          exact parseAns_mk rfl (parse_no HP.out).1 (parse_no HP.out).2
    · obtain rfl : k = s.size := by omega
      have ht : s.data.toList.take s.size = s.data.toList := List.take_of_length_le (by rw [hlen.out]; exact Nat.le_refl _)
      rw [ht] at had ⊢
      have HA := Lib.hid had
      clear had ht
      by_cases hf : dval s.data.toList ≤ 4611686018427387903
      · go_wp2
        go_ret2
        have hy := parse_yes (by rw [hlen.out]; exact h1) (by rw [hlen.out]; exact h19) HA.out hf
        exact parseAns_mk rfl hy.1 hy.2
      · go_wp2
        go_ret2
        exact parseAns_mk rfl (parse_no (parse_far hf)).1 (parse_no (parse_far hf)).2
theorem arith_parse (s : ByteArray) (w : World) (hs : s.size ≤ maxLen) : Calls Tryd.prog 42 #[.string s] w (ParseAns s.data.toList w) := by
  by_cases h1 : 0 < s.size
  · by_cases h2 : s.size ≤ 19
    · exact parse_mid s w h1 h2
    · exact parse_long s w (by omega) hs
  · obtain rfl := str_empty s (by omega)
    exact parse_short w
end
end Go.Proofs.YtdkmakdlojlacaaDoor
