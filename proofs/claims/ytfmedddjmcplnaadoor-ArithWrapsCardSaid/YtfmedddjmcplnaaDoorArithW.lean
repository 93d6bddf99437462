/- The walks of the functions of word and arith. -/
import Derived.Test.YtfmedddjmcplnaaDoorArithP
import Derived.Test.YtfmedddjmcplnaaDoorRows
import Derived.Test.YtfmedddjmcplnaaDoorShelf
import Derived.Test.YtfmedddjmcplnaaDoorExt
namespace Go.Proofs.YtfmedddjmcplnaaDoor
open Go.RowKit
attribute [local simp] w63_wrap64 w63_zero w63_one w63_tmod
/-- the table of arith's kinds lies where it was laid -/
def KindsLie (w : World) : Prop := ∀ i : Nat, i < 38 → w.cell? ⟨0, i, none⟩ = some (.int .u8 (([0,0,0,0,0,0,0,0,0,0,0,0,43,45,42,47,37,61,60,0,0,0,0,0,0,0,0,0,0,0,0,0,0,0,0,0,0,0] : List Int).getD i 0))

theorem ref_wrap (v : Int) (w : World) :
    Calls Tryd.prog 11 #[.int .i64 v] w fun e w' => e = .returned (.int .i64 (w63 v)) ∧ w = w' := by
  go_enter Tryd.func11, Tryd.ntmps11
  go_wp2
  go_ret
  exact ⟨rfl, rfl⟩
theorem word_wrap (v : Int) (w : World) :
    Calls Tryd.prog 22 #[.int .i64 v] w fun e w' => e = .returned (.int .i64 (w63 v)) ∧ w = w' := by
  go_enter Tryd.func22, Tryd.ntmps22
  go_wp2
  go_ret
  exact ⟨rfl, rfl⟩
theorem arith_truth (b : Bool) (w : World) :
    Calls Tryd.prog 24 #[.bool b] w fun e w' => e = .returned (.int .i64 (if b then 1 else 0)) ∧ w = w' := by
  cases b
  all_goals
    go_enter Tryd.func24, Tryd.ntmps24
    go_wp2
    go_ret
    exact ⟨rfl, rfl⟩

/-- what arith.Of answers -/
def OfAns (op a b : Int) (w : World) (e : Ending) (w' : World) : Prop := e = .returned (.tuple #[.int .i64 (ofV op a b), .bool (ofOK op b)]) ∧ w = w'
theorem ofAns_mk {op a b r : Int} {ok : Bool} {w w' : World} {e : Ending} (he : e = .returned (.tuple #[.int .i64 r, .bool ok])) (h1 : r = ofV op a b) (h2 : ok = ofOK op b) (hw : w = w') : OfAns op a b w e w' := by
  subst h1; subst h2; exact ⟨he, hw⟩

section
set_option maxHeartbeats 400000
theorem of_12 (a b : Int) (w : World) (hk : KindsLie w) : Calls Tryd.prog 12 #[.int .i64 12, .int .i64 a, .int .i64 b] w (OfAns 12 a b w) := by
  have hc := hk 12 (by omega)
  simp only [List.getD_cons_succ, List.getD_cons_zero] at hc
  go_enter Tryd.func12, Tryd.ntmps12
  go_wp2_with (first | (go_at_call 22; refine (word_wrap _ _).mono ?_; rintro e w' ⟨rfl, rfl⟩) | (go_at_call 24; refine (arith_truth _ _).mono ?_; rintro e w' ⟨rfl, rfl⟩))
  all_goals
    go_ret2
    refine ofAns_mk rfl ?_ ?_ rfl
    all_goals (simp [ofV, ofOK, *]; done)
theorem of_13 (a b : Int) (w : World) (hk : KindsLie w) : Calls Tryd.prog 12 #[.int .i64 13, .int .i64 a, .int .i64 b] w (OfAns 13 a b w) := by
  have hc := hk 13 (by omega)
  simp only [List.getD_cons_succ, List.getD_cons_zero] at hc
  go_enter Tryd.func12, Tryd.ntmps12
  go_wp2_with (first | (go_at_call 22; refine (word_wrap _ _).mono ?_; rintro e w' ⟨rfl, rfl⟩) | (go_at_call 24; refine (arith_truth _ _).mono ?_; rintro e w' ⟨rfl, rfl⟩))
  all_goals
    go_ret2
    refine ofAns_mk rfl ?_ ?_ rfl
    all_goals (simp [ofV, ofOK, *]; done)
theorem of_14 (a b : Int) (w : World) (hk : KindsLie w) : Calls Tryd.prog 12 #[.int .i64 14, .int .i64 a, .int .i64 b] w (OfAns 14 a b w) := by
  have hc := hk 14 (by omega)
  simp only [List.getD_cons_succ, List.getD_cons_zero] at hc
  go_enter Tryd.func12, Tryd.ntmps12
  go_wp2_with (first | (go_at_call 22; refine (word_wrap _ _).mono ?_; rintro e w' ⟨rfl, rfl⟩) | (go_at_call 24; refine (arith_truth _ _).mono ?_; rintro e w' ⟨rfl, rfl⟩))
  all_goals
    go_ret2
    refine ofAns_mk rfl ?_ ?_ rfl
    all_goals (simp [ofV, ofOK, *]; done)
theorem of_15 (a b : Int) (w : World) (hk : KindsLie w) : Calls Tryd.prog 12 #[.int .i64 15, .int .i64 a, .int .i64 b] w (OfAns 15 a b w) := by
  have hc := hk 15 (by omega)
  simp only [List.getD_cons_succ, List.getD_cons_zero] at hc
  go_enter Tryd.func12, Tryd.ntmps12
  go_wp2_with (first | (go_at_call 22; refine (word_wrap _ _).mono ?_; rintro e w' ⟨rfl, rfl⟩) | (go_at_call 24; refine (arith_truth _ _).mono ?_; rintro e w' ⟨rfl, rfl⟩))
  all_goals
    go_ret2
    refine ofAns_mk rfl ?_ ?_ rfl
    all_goals (simp [ofV, ofOK, *]; done)
theorem of_16 (a b : Int) (w : World) (hk : KindsLie w) : Calls Tryd.prog 12 #[.int .i64 16, .int .i64 a, .int .i64 b] w (OfAns 16 a b w) := by
  have hc := hk 16 (by omega)
  simp only [List.getD_cons_succ, List.getD_cons_zero] at hc
  go_enter Tryd.func12, Tryd.ntmps12
  go_wp2_with (first | (go_at_call 22; refine (word_wrap _ _).mono ?_; rintro e w' ⟨rfl, rfl⟩) | (go_at_call 24; refine (arith_truth _ _).mono ?_; rintro e w' ⟨rfl, rfl⟩))
  all_goals
    go_ret2
    refine ofAns_mk rfl ?_ ?_ rfl
    all_goals (simp [ofV, ofOK, *]; done)
theorem of_17 (a b : Int) (w : World) (hk : KindsLie w) : Calls Tryd.prog 12 #[.int .i64 17, .int .i64 a, .int .i64 b] w (OfAns 17 a b w) := by
  have hc := hk 17 (by omega)
  simp only [List.getD_cons_succ, List.getD_cons_zero] at hc
  go_enter Tryd.func12, Tryd.ntmps12
  go_wp2_with (first | (go_at_call 22; refine (word_wrap _ _).mono ?_; rintro e w' ⟨rfl, rfl⟩) | (go_at_call 24; refine (arith_truth _ _).mono ?_; rintro e w' ⟨rfl, rfl⟩))
  all_goals
    go_ret2
    refine ofAns_mk rfl ?_ ?_ rfl
    all_goals (simp [ofV, ofOK, *]; done)
theorem of_18 (a b : Int) (w : World) (hk : KindsLie w) : Calls Tryd.prog 12 #[.int .i64 18, .int .i64 a, .int .i64 b] w (OfAns 18 a b w) := by
  have hc := hk 18 (by omega)
  simp only [List.getD_cons_succ, List.getD_cons_zero] at hc
  go_enter Tryd.func12, Tryd.ntmps12
  go_wp2_with (first | (go_at_call 22; refine (word_wrap _ _).mono ?_; rintro e w' ⟨rfl, rfl⟩) | (go_at_call 24; refine (arith_truth _ _).mono ?_; rintro e w' ⟨rfl, rfl⟩))
  all_goals
    go_ret2
    refine ofAns_mk rfl ?_ ?_ rfl
    all_goals (simp [ofV, ofOK, *]; done)
theorem of_37 (a b : Int) (w : World) (hk : KindsLie w) : Calls Tryd.prog 12 #[.int .i64 37, .int .i64 a, .int .i64 b] w (OfAns 37 a b w) := by
  have hc := hk 37 (by omega)
  simp only [List.getD_cons_succ, List.getD_cons_zero] at hc
  go_enter Tryd.func12, Tryd.ntmps12
  go_wp2_with (first | (go_at_call 22; refine (word_wrap _ _).mono ?_; rintro e w' ⟨rfl, rfl⟩) | (go_at_call 24; refine (arith_truth _ _).mono ?_; rintro e w' ⟨rfl, rfl⟩))
  all_goals
    go_ret2
    refine ofAns_mk rfl ?_ ?_ rfl
    all_goals (simp [ofV, ofOK, *]; done)
theorem of_any (op a b : Int) (w : World) (hk : KindsLie w) (h : (12 ≤ op ∧ op ≤ 18) ∨ op = 37) : Calls Tryd.prog 12 #[.int .i64 op, .int .i64 a, .int .i64 b] w (OfAns op a b w) := by
  have : op = 12 ∨ op = 13 ∨ op = 14 ∨ op = 15 ∨ op = 16 ∨ op = 17 ∨ op = 18 ∨ op = 37 := by omega
  rcases this with rfl | rfl | rfl | rfl | rfl | rfl | rfl | rfl
  · exact of_12 a b w hk
  · exact of_13 a b w hk
  · exact of_14 a b w hk
  · exact of_15 a b w hk
  · exact of_16 a b w hk
  · exact of_17 a b w hk
  · exact of_18 a b w hk
  · exact of_37 a b w hk
/-- the same, with the answer as the caller wants it -/
theorem of_is {op a b r : Int} {ok : Bool} {w : World} (hk : KindsLie w) (h : (12 ≤ op ∧ op ≤ 18) ∨ op = 37) (h1 : ofV op a b = r) (h2 : ofOK op b = ok) :
    Calls Tryd.prog 12 #[.int .i64 op, .int .i64 a, .int .i64 b] w fun e w' => e = .returned (.tuple #[.int .i64 r, .bool ok]) ∧ w = w' := by
  subst h1; subst h2; exact of_any op a b w hk h

theorem arith_text (v : Int) (w : World) (ht : Lib.TabIs Tryd.prog w "internal/strconv.uint64pow10" .u64 Lib.pow10Tab) :
    Calls Tryd.prog 14 #[.int .i64 v] w fun e w' => e = .returned (.string ⟨(Lib.itoa (w63 v)).toArray⟩) ∧ Ext w w' := by
  have h1 := w63_lo v
  have h2 := w63_hi v
  go_enter Tryd.func14, Tryd.ntmps14
  go_wp2_with (first | (go_at_call 22; refine (word_wrap _ _).mono ?_; rintro e w' ⟨rfl, rfl⟩) | (go_at_call 25; refine (Tryd.strconv_FormatInt_10 _ (by omega) (by omega) _ ht).mono ?_; rintro e w' ⟨rfl, k, os, rfl⟩))
  go_ret
  exact ⟨rfl, Ext.grow _ _ _⟩

theorem take_snoc (s : ByteArray) (k : Nat) (h : k < s.size) : s.data.toList.take (k + 1) = s.data.toList.take k ++ [s[k]] := by
  rw [List.take_succ_eq_append_getElem (by simpa using h)]; rfl
theorem all_take {l : List UInt8} (k : Nat) (h : allDigits (l.take k) = false) : allDigits l = false := by
  rw [← List.take_append_drop k l]
  simp only [allDigits, List.all_append, Bool.and_eq_false_iff] at h ⊢
  exact .inl h

/-- what arith.Parse answers -/
def ParseAns (l : List UInt8) (w : World) (e : Ending) (w' : World) : Prop := e = .returned (.tuple #[.int .i64 (parseV l), .bool (parseOK l)]) ∧ w = w'
theorem parseAns_mk {l : List UInt8} {r : Int} {ok : Bool} {w : World} {e : Ending} (he : e = .returned (.tuple #[.int .i64 r, .bool ok])) (h1 : r = parseV l) (h2 : ok = parseOK l) : ParseAns l w e w := by
  subst h1; subst h2; exact ⟨he, rfl⟩
theorem parse_no {l : List UInt8} (h : parseOK l = false) : (0 : Int) = parseV l ∧ false = parseOK l := by simp [parseV, h]

end
end Go.Proofs.YtfmedddjmcplnaaDoor
