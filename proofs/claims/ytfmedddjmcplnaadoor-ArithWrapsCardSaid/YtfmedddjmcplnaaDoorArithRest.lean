/- ArithTexts, ArithWraps, ArithOrder: the walks. -/
import Derived.Test.YtfmedddjmcplnaaDoorArithL
namespace Go.Proofs.YtfmedddjmcplnaaDoor
open Go.RowKit
theorem ofV_wrapped (op a b : Int) : ofV op (w63 a) (w63 b) = ofV op a b := by unfold ofV; simp only [w63_w63]
theorem ofOK_wrapped (op b : Int) : ofOK op (w63 b) = ofOK op b := by unfold ofOK; simp only [w63_w63]
theorem w63_ofV (op a b : Int) : w63 (ofV op a b) = ofV op a b := by
  unfold ofV
  repeat' split
  all_goals first | exact w63_w63 _ | exact w63_zero | exact w63_one | exact w63_tmod _ _
def Texts1 (x y : Int) (s : ByteArray) : Prop := ByteArray.mk (Lib.itoa x).toArray = s ∧ parseOK s.data.toList = decide (0 ≤ x) ∧ parseV s.data.toList = y ∧ s.size ≤ maxLen
theorem texts1_mk (v : Int) : ∃ y s, Texts1 (w63 v) y s ∧ (0 ≤ w63 v → y = w63 v) := by
  have a1 := w63_lo v
  have a2 := w63_hi v
  refine ⟨_, _, ⟨rfl, ?_, rfl, ?_⟩, fun h => ?_⟩
  · exact parse_itoa a1 a2
  · have := itoa_len a1 a2
    show (Lib.itoa (w63 v)).toArray.size ≤ maxLen
    unfold maxLen
    simp; omega
  · exact parseV_itoa h a2
theorem bytes_ne {s t : ByteArray} (h : s ≠ t) : ¬ s.toList = t.toList := by
  rw [ByteArray.toList_eq, ByteArray.toList_eq]
  intro e
  exact h (ByteArray.ext (Array.toList_inj.1 e))
/-- how Text's two texts compare -/
theorem texts2 {x y : Int} {s t : ByteArray} (hs : ByteArray.mk (Lib.itoa x).toArray = s) (ht : ByteArray.mk (Lib.itoa y).toArray = t) (h : x ≠ y) : s ≠ t := by
  subst hs; subst ht
  intro e
  have : (Lib.itoa x).toArray = (Lib.itoa y).toArray := congrArg ByteArray.data e
  exact h (itoa_inj (by simpa using this))
section
set_option maxRecDepth 100000
set_option maxHeartbeats 1000000
theorem texts_walk1 (v u x y z : Int) (ok : Bool) (s : ByteArray) (w : World) (hk : ArithLie w) (hx : w63 v = x) (h1 : Texts1 x y s) (hy : w63 u = z)
    (hok : decide (0 ≤ x) = ok) (hyx : ok = true → y = x) :
    Calls Tryd.prog 5 #[.int .i64 v, .int .i64 u] w (TrueExt w) := by
  have h2 : parseOK s.data.toList = ok := by rw [h1.2.1, hok]
  subst hx
  obtain ⟨t, ht⟩ : ∃ t, ByteArray.mk (Lib.itoa (w63 u)).toArray = t := ⟨_, rfl⟩
  have HT := Lib.hid ht
  by_cases he : w63 v = w63 u
  · have hst : t = s := by rw [← ht, ← h1.1, he]
    clear ht
    subst hst
    generalize hX : w63 v = X at *
    have HX := Lib.hid hX
    have HE := Lib.hid he
    have H2 := Lib.hid h2
    have HY := Lib.hid hy
    clear hX he h2 hy
    cases ok
    · have h0 : decide (0 ≤ X) = false := hok
      clear hok hyx
      go_enter Tryd.func5, Tryd.ntmps5
      go_wp2_with fail
      refine (text_is (s := t) hk (by rw [HX.out]; exact h1.1)).mono ?_; rintro e w1 ⟨rfl, hx1⟩
      go_wp2_with fail
      refine (ref_wrap _ _).mono ?_; rintro e w' ⟨rfl, rfl⟩; rw [HX.out]
      go_wp2_with fail
      refine (parse_is h1.2.2.2 h1.2.2.1 H2.out).mono ?_; rintro e w' ⟨rfl, rfl⟩
      go_wp2_with fail
      refine (text_is (s := t) (hk.ext hx1) HT.out).mono ?_; rintro e w2 ⟨rfl, hx2⟩
      go_wp2_with fail
      refine (ref_wrap _ _).mono ?_; rintro e w' ⟨rfl, rfl⟩; rw [← HE.out]
      go_wp2_with fail
      refine (arith_wakes _ ((hk.ext hx1).ext hx2)).mono ?_; rintro e w3 ⟨rfl, hx3⟩
      go_wp2
      go_ret
      exact ⟨rfl, (hx1.trans hx2).trans hx3⟩
    · have h0 : 0 ≤ X := by simpa using hok
      obtain rfl := hyx rfl
      clear hok hyx
      go_enter Tryd.func5, Tryd.ntmps5
      go_wp2_with fail
      refine (text_is (s := t) hk (by rw [HX.out]; exact h1.1)).mono ?_; rintro e w1 ⟨rfl, hx1⟩
      go_wp2_with fail
      refine (ref_wrap _ _).mono ?_; rintro e w' ⟨rfl, rfl⟩; rw [HX.out]
      go_wp2_with fail
      refine (parse_is h1.2.2.2 h1.2.2.1 H2.out).mono ?_; rintro e w' ⟨rfl, rfl⟩
      go_wp2_with fail
      refine (text_is (s := t) (hk.ext hx1) HT.out).mono ?_; rintro e w2 ⟨rfl, hx2⟩
      go_wp2_with fail
      refine (ref_wrap _ _).mono ?_; rintro e w' ⟨rfl, rfl⟩; rw [← HE.out]
      go_wp2_with fail
      refine (arith_wakes _ ((hk.ext hx1).ext hx2)).mono ?_; rintro e w3 ⟨rfl, hx3⟩
      go_wp2
      go_ret
      exact ⟨rfl, (hx1.trans hx2).trans hx3⟩
  · have hst : ¬ s.toList = t.toList := bytes_ne (texts2 h1.1 ht he)
    clear ht
    generalize hX : w63 v = X at *
    generalize hZ : w63 u = Z at *
    have hst' : (s.toList == t.toList) = false := by simpa using hst
    have he' : (X == Z) = false := by simpa using he
    clear hst he
    have HX := Lib.hid hX
    have HZ := Lib.hid hZ
    have H2 := Lib.hid h2
    have HY := Lib.hid hy
    clear hX hZ h2 hy
    cases ok
    · have h0 : decide (0 ≤ X) = false := hok
      clear hok hyx
      go_enter Tryd.func5, Tryd.ntmps5
      go_wp2_with fail
      refine (text_is (s := s) hk (by rw [HX.out]; exact h1.1)).mono ?_; rintro e w1 ⟨rfl, hx1⟩
      go_wp2_with fail
      refine (ref_wrap _ _).mono ?_; rintro e w' ⟨rfl, rfl⟩; rw [HX.out]
      go_wp2_with fail
      refine (parse_is h1.2.2.2 h1.2.2.1 H2.out).mono ?_; rintro e w' ⟨rfl, rfl⟩
      go_wp2_with fail
      refine (text_is (s := t) (hk.ext hx1) (by rw [HZ.out]; exact HT.out)).mono ?_; rintro e w2 ⟨rfl, hx2⟩
      go_wp2_with fail
      refine (ref_wrap _ _).mono ?_; rintro e w' ⟨rfl, rfl⟩; rw [HZ.out]
      go_wp2_with fail
      refine (arith_wakes _ ((hk.ext hx1).ext hx2)).mono ?_; rintro e w3 ⟨rfl, hx3⟩
      go_wp2
      go_ret
      exact ⟨rfl, (hx1.trans hx2).trans hx3⟩
    · have h0 : 0 ≤ X := by simpa using hok
      obtain rfl := hyx rfl
      clear hok hyx
      go_enter Tryd.func5, Tryd.ntmps5
      go_wp2_with fail
      refine (text_is (s := s) hk (by rw [HX.out]; exact h1.1)).mono ?_; rintro e w1 ⟨rfl, hx1⟩
      go_wp2_with fail
      refine (ref_wrap _ _).mono ?_; rintro e w' ⟨rfl, rfl⟩; rw [HX.out]
      go_wp2_with fail
      refine (parse_is h1.2.2.2 h1.2.2.1 H2.out).mono ?_; rintro e w' ⟨rfl, rfl⟩
      go_wp2_with fail
      refine (text_is (s := t) (hk.ext hx1) (by rw [HZ.out]; exact HT.out)).mono ?_; rintro e w2 ⟨rfl, hx2⟩
      go_wp2_with fail
      refine (ref_wrap _ _).mono ?_; rintro e w' ⟨rfl, rfl⟩; rw [HZ.out]
      go_wp2_with fail
      refine (arith_wakes _ ((hk.ext hx1).ext hx2)).mono ?_; rintro e w3 ⟨rfl, hx3⟩
      go_wp2
      go_ret
      exact ⟨rfl, (hx1.trans hx2).trans hx3⟩
theorem texts_walk (v u : Int) (w : World) (hk : ArithLie w) :
    Calls Tryd.prog 5 #[.int .i64 v, .int .i64 u] w (TrueExt w) := by
  obtain ⟨y, s, h1, h2⟩ := texts1_mk v
  exact texts_walk1 v u _ y _ _ s w hk rfl h1 rfl rfl (fun h => h2 (by simpa using h))

theorem wraps_walk (v u : Int) (w : World) (hk : ArithLie w) :
    Calls Tryd.prog 6 #[.int .i64 v, .int .i64 u] w (TrueExt w) := by
  go_enter Tryd.func6, Tryd.ntmps6
  go_wp2
  go_loop [5] (fun i => ∃ k : Int, 12 ≤ k ∧ k ≤ 19 ∧ i = .int .i64 k) (fun i => (19 - intOf i).toNat)
  case atStart => exact ⟨12, by omega, by omega, rfl⟩
  case round =>
    obtain ⟨k, k1, k2, rfl⟩ := hrel
    by_cases hlt : k ≤ 18
    · obtain ⟨r, hr⟩ : ∃ r, ofV k v u = r := ⟨_, rfl⟩
      obtain ⟨ok, ho⟩ : ∃ ok, ofOK k u = ok := ⟨_, rfl⟩
      have hr2 : ofV k (w63 v) (w63 u) = r := by rw [ofV_wrapped, hr]
      have ho2 : ofOK k (w63 u) = ok := by rw [ofOK_wrapped, ho]
      have hr3 : w63 r = r := by rw [← hr, w63_ofV]
      have HR := Lib.hid hr; have HO := Lib.hid ho; have HR2 := Lib.hid hr2; have HO2 := Lib.hid ho2; have HR3 := Lib.hid hr3
      clear hr ho hr2 ho2 hr3
      go_wp2_with fail
      refine (of_is hk.1 (.inl ⟨k1, hlt⟩) HR.out HO.out).mono ?_; rintro e w' ⟨rfl, rfl⟩
      go_wp2_with fail
      refine (ref_wrap _ _).mono ?_; rintro e w' ⟨rfl, rfl⟩
      go_wp2_with fail
      refine (ref_wrap _ _).mono ?_; rintro e w' ⟨rfl, rfl⟩
      go_wp2_with fail
      refine (of_is hk.1 (.inl ⟨k1, hlt⟩) HR2.out HO2.out).mono ?_; rintro e w' ⟨rfl, rfl⟩
      go_wp2_with fail
      refine (ref_wrap _ _).mono ?_; rintro e w' ⟨rfl, rfl⟩; rw [HR3.out]
      go_wp2
      go_round
      case rel => exact ⟨k + 1, by omega, by omega, by go_num⟩
      case measure => simp [intOf]; omega
    · have hs : ofV 12 v 0 = w63 v := by simp [ofV, w63_zero, w63_w63]
      have hp : ofV 14 v 1 = w63 v := by simp [ofV, w63_one, w63_w63]
      have hz : ofV 14 v 0 = 0 := by simp [ofV, w63_zero]
      have hn : ofV 14 v (-1) = ofV 13 0 v := by
        have e : w63 (-1) = -1 := by decide +kernel
        simp [ofV, w63_zero, e]
      have hd : ofV 15 v 1 = w63 v := by simp [ofV, w63_one, w63_w63]
      have HS := Lib.hid hs; have HP := Lib.hid hp; have HZ := Lib.hid hz; have HN := Lib.hid hn; have HD := Lib.hid hd
      clear hs hp hz hn hd
      go_wp2_with fail
      refine (ref_wrap _ _).mono ?_; rintro e w' ⟨rfl, rfl⟩
      go_wp2_with fail
      refine (of_is (r := w63 v) hk.1 (by decide +kernel) HS.out rfl).mono ?_; rintro e w' ⟨rfl, rfl⟩
      go_wp2_with fail
      refine (of_is (r := w63 v) hk.1 (by decide +kernel) HP.out rfl).mono ?_; rintro e w' ⟨rfl, rfl⟩
      go_wp2_with fail
      refine (of_is (r := 0) hk.1 (by decide +kernel) HZ.out rfl).mono ?_; rintro e w' ⟨rfl, rfl⟩
      go_wp2_with fail
      refine (of_is (r := ofV 13 0 v) hk.1 (by decide +kernel) HN.out rfl).mono ?_; rintro e w' ⟨rfl, rfl⟩
      go_wp2_with fail
      refine (of_is (r := ofV 13 0 v) hk.1 (by decide +kernel) rfl rfl).mono ?_; rintro e w' ⟨rfl, rfl⟩
      go_wp2_with fail
      refine (of_is (r := w63 v) hk.1 (by decide +kernel) HD.out rfl).mono ?_; rintro e w' ⟨rfl, rfl⟩
      go_wp2_with fail
      refine (arith_wakes _ hk).mono ?_; rintro e w3 ⟨rfl, hx3⟩
      go_wp2
      go_ret
      exact ⟨rfl, hx3⟩
def Order1 (v u x a b c : Int) : Prop := ofV 18 v u = a ∧ ofV 18 u x = b ∧ ofV 18 v x = c
def Order2 (v s d : Int) : Prop := ofV 12 v 1 = s ∧ ofV 18 v s = d
theorem order1_mk (v u x : Int) : ∃ a b c, Order1 v u x a b c ∧ ((a = 1 ∧ b = 1 ∧ c = 1) ∨ (a = 1 ∧ b = 0) ∨ a = 0) := by
  refine ⟨_, _, _, ⟨rfl, rfl, rfl⟩, ?_⟩
  simp only [ofV, if_true, Int.reduceEq, if_false]
  split <;> split <;> split <;> omega
theorem order2_mk (v : Int) : ∃ s d, Order2 v s d ∧ ((w63 v = 4611686018427387903 ∧ d = 0) ∨ (¬ w63 v = 4611686018427387903 ∧ d = 1)) := by
  refine ⟨_, _, ⟨rfl, rfl⟩, ?_⟩
  simp only [ofV, if_true, Int.reduceEq, if_false, w63_w63, w63_one]
  have h1 := w63_lo v
  have h2 := w63_hi v
  by_cases h : w63 v = 4611686018427387903
  · refine .inl ⟨h, if_neg ?_⟩
    rw [h]; decide +kernel
  · refine .inr ⟨h, if_pos ?_⟩
    rw [w63_of (v := w63 v + 1) (by omega) (by omega)]; omega
theorem order_walk (v u x : Int) (w : World) (hk : ArithLie w) :
    Calls Tryd.prog 7 #[.int .i64 v, .int .i64 u, .int .i64 x] w (TrueExt w) := by
  obtain ⟨a, b, c, h1, h2⟩ := order1_mk v u x
  obtain ⟨s, d, h3, h4⟩ := order2_mk v
  generalize hX : w63 v = X at *
  have HX := Lib.hid hX
  clear hX
  rcases h2 with ⟨rfl, rfl, rfl⟩ | ⟨rfl, rfl⟩ | rfl
  all_goals
    rcases h4 with ⟨rfl, rfl⟩ | ⟨h5, rfl⟩
    all_goals try (have h5' : (X != 4611686018427387903) = true := by simpa using h5)
    all_goals try clear h5
    all_goals
      go_enter Tryd.func7, Tryd.ntmps7
      go_wp2_with fail
      refine (of_is hk.1 (by decide +kernel) h1.1 rfl).mono ?_; rintro e w' ⟨rfl, rfl⟩
      go_wp2_with fail
      refine (of_is hk.1 (by decide +kernel) h1.2.1 rfl).mono ?_; rintro e w' ⟨rfl, rfl⟩
      go_wp2_with fail
      refine (of_is hk.1 (by decide +kernel) h1.2.2 rfl).mono ?_; rintro e w' ⟨rfl, rfl⟩
      go_wp2_with fail
      refine (of_is hk.1 (by decide +kernel) h3.1 (ok := true) (by decide +kernel)).mono ?_; rintro e w' ⟨rfl, rfl⟩
      go_wp2_with fail
      refine (of_is hk.1 (by decide +kernel) h3.2 rfl).mono ?_; rintro e w' ⟨rfl, rfl⟩
      go_wp2_with fail
      refine (ref_wrap _ _).mono ?_; rintro e w' ⟨rfl, rfl⟩; rw [HX.out]
      go_wp2_with fail
      refine (arith_wakes _ hk).mono ?_; rintro e w3 ⟨rfl, hx3⟩
      go_wp2
      go_ret
      exact ⟨rfl, hx3⟩
end
end Go.Proofs.YtfmedddjmcplnaaDoor
