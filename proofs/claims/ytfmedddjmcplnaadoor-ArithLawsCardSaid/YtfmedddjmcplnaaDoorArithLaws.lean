/- ArithLaws: the walk. -/
import Derived.Test.YtfmedddjmcplnaaDoorArithL
namespace Go.Proofs.YtfmedddjmcplnaaDoor
open Go.RowKit
def Laws1 (A B S l m e : Int) : Prop := ofV 12 A B = S ∧ ofV 13 S B = A ∧ ofV 18 A B = l ∧ ofV 18 B A = m ∧ ofV 17 A B = e
def Laws2 (A B Q R P : Int) : Prop := ofV 15 A B = Q ∧ ofV 16 A B = R ∧ ofV 14 Q B = P ∧ ofV 12 P R = A
theorem laws1_mk {A B : Int} (hA : w63 A = A) (hB : w63 B = B) : ∃ S l m e, Laws1 A B S l m e ∧ 0 ≤ l ∧ l ≤ 1 ∧ 0 ≤ m ∧ m ≤ 1 ∧ 0 ≤ e ∧ e ≤ 1 ∧ l + m + e = 1 := by
  refine ⟨_, _, _, _, ⟨rfl, ?_, rfl, rfl, rfl⟩, ?_⟩
  · simp only [ofV, if_true, Int.reduceEq, if_false]
    rw [w63_w63, w63_sub, hA, hB]
    have e : A + B - B = A := by omega
    rw [e, hA]
  · simp only [ofV, if_true, Int.reduceEq, if_false, hA, hB]
    split <;> split <;> split <;> omega
theorem laws2_mk {A B : Int} (hA : w63 A = A) (hB : w63 B = B) (h0 : B ≠ 0) : ∃ Q R P, Laws2 A B Q R P ∧ (R = 0 ∨ (R < 0 ∧ A < 0) ∨ (0 < R ∧ 0 < A)) ∧ R < B.natAbs ∧ - R < B.natAbs := by
  have hd := tmod_less (A := A) h0
  refine ⟨_, _, _, ⟨rfl, rfl, rfl, ?_⟩, ?_⟩
  · simp only [ofV, if_true, Int.reduceEq, if_false, hA, hB, h0]
    have := quo_back (B := B) hA
    rw [w63_w63 (A.tdiv B)] at this ⊢
    have ht := w63_tmod A B
    rw [hA] at ht
    rw [w63_w63, ht]; exact this
  · simp only [ofV, if_true, Int.reduceEq, if_false, hA, hB, h0]
    have h3 := tmod_abs A B
    refine ⟨?_, by omega, by omega⟩
    rcases Int.lt_trichotomy A 0 with h | h | h
    · have := tmod_nonpos (a := A) B (by omega); omega
    · subst h; simp
    · have := Int.tmod_nonneg (a := A) B (by omega); omega
set_option maxRecDepth 100000 in
set_option maxHeartbeats 4000000 in
theorem laws_walk (v u : Int) (w : World) (hk : ArithLie w) :
    Calls Tryd.prog 4 #[.int .i64 v, .int .i64 u] w (TrueExt w) := by
  have a1 := w63_lo v
  have a2 := w63_hi v
  have b1 := w63_lo u
  have b2 := w63_hi u
  have ha := Lib.hid (w63_w63 v)
  have hb := Lib.hid (w63_w63 u)
  generalize hA : w63 v = A at *
  generalize hB : w63 u = B at *
  have HA := Lib.hid hA
  have HB := Lib.hid hB
  clear hA hB
  obtain ⟨S, l, m, e, h1, l1, l2, m1, m2, e1, e2, hs⟩ := laws1_mk ha.out hb.out
  by_cases h0 : B = 0
  · subst h0
    have o1 : ofOK 15 0 = false := by decide +kernel
    have o2 : ofOK 16 0 = false := by decide +kernel
    go_enter Tryd.func4, Tryd.ntmps4
    go_wp2_with fail
    refine (ref_wrap _ _).mono ?_; rintro e w' ⟨rfl, rfl⟩; rw [HA.out]
    go_wp2_with fail
    refine (ref_wrap _ _).mono ?_; rintro e w' ⟨rfl, rfl⟩; rw [HB.out]
    go_wp2_with fail
    refine (of_is hk.1 (by decide +kernel) h1.1 rfl).mono ?_; rintro e w' ⟨rfl, rfl⟩
    go_wp2_with fail
    refine (of_is hk.1 (by decide +kernel) h1.2.1 rfl).mono ?_; rintro e w' ⟨rfl, rfl⟩
    go_wp2_with fail
    refine (of_is hk.1 (by decide +kernel) h1.2.2.1 rfl).mono ?_; rintro e w' ⟨rfl, rfl⟩
    go_wp2_with fail
    refine (of_is hk.1 (by decide +kernel) h1.2.2.2.1 rfl).mono ?_; rintro e w' ⟨rfl, rfl⟩
    go_wp2_with fail
    refine (of_is hk.1 (by decide +kernel) h1.2.2.2.2 rfl).mono ?_; rintro e w' ⟨rfl, rfl⟩
    go_wp2_with fail
    refine (of_is hk.1 (by decide +kernel) rfl o1).mono ?_; rintro e w' ⟨rfl, rfl⟩
    go_wp2_with fail
    refine (of_is hk.1 (by decide +kernel) rfl o2).mono ?_; rintro e w' ⟨rfl, rfl⟩
    go_wp2_with fail
    refine (arith_wakes _ hk).mono ?_; rintro e w' ⟨rfl, hx⟩
    go_wp2_with fail
    go_ret
    exact ⟨rfl, hx⟩
  · obtain ⟨Q, R, P, h2, h3, h4, h5⟩ := laws2_mk ha.out hb.out h0
    have o1 : ofOK 15 B = true := by simp [ofOK, hb.out, h0]
    have o2 : ofOK 16 B = true := by simp [ofOK, hb.out, h0]
    go_enter Tryd.func4, Tryd.ntmps4
    go_wp2_with fail
    refine (ref_wrap _ _).mono ?_; rintro e w' ⟨rfl, rfl⟩; rw [HA.out]
    go_wp2_with fail
    refine (ref_wrap _ _).mono ?_; rintro e w' ⟨rfl, rfl⟩; rw [HB.out]
    go_wp2_with fail
    refine (of_is hk.1 (by decide +kernel) h1.1 rfl).mono ?_; rintro e w' ⟨rfl, rfl⟩
    go_wp2_with fail
    refine (of_is hk.1 (by decide +kernel) h1.2.1 rfl).mono ?_; rintro e w' ⟨rfl, rfl⟩
    go_wp2_with fail
    refine (of_is hk.1 (by decide +kernel) h1.2.2.1 rfl).mono ?_; rintro e w' ⟨rfl, rfl⟩
    go_wp2_with fail
    refine (of_is hk.1 (by decide +kernel) h1.2.2.2.1 rfl).mono ?_; rintro e w' ⟨rfl, rfl⟩
    go_wp2_with fail
    refine (of_is hk.1 (by decide +kernel) h1.2.2.2.2 rfl).mono ?_; rintro e w' ⟨rfl, rfl⟩
    go_wp2_with fail
    refine (of_is hk.1 (by decide +kernel) h2.1 o1).mono ?_; rintro e w' ⟨rfl, rfl⟩
    go_wp2_with fail
    refine (of_is hk.1 (by decide +kernel) h2.2.1 o2).mono ?_; rintro e w' ⟨rfl, rfl⟩
    go_wp2_with fail
    refine (of_is hk.1 (by decide +kernel) h2.2.2.1 rfl).mono ?_; rintro e w' ⟨rfl, rfl⟩
    go_wp2_with fail
    refine (of_is hk.1 (by decide +kernel) h2.2.2.2 rfl).mono ?_; rintro e w' ⟨rfl, rfl⟩
    rcases Int.lt_trichotomy B 0 with hn | hn | hn
    · by_cases hB62 : B = -4611686018427387904
      · subst hB62
        rcases h3 with rfl | ⟨h3, h3'⟩ | ⟨h3, h3'⟩
        all_goals
          go_wp2_with (go_at_call 13; refine (arith_wakes _ hk).mono ?_; rintro e w' ⟨rfl, hx⟩)
          go_ret
          exact ⟨rfl, hx⟩
      · have h6 : R < -B := by omega
        have h7 : -R < -B := by omega
        rcases h3 with rfl | ⟨h3, h3'⟩ | ⟨h3, h3'⟩
        all_goals
          go_wp2_with (go_at_call 13; refine (arith_wakes _ hk).mono ?_; rintro e w' ⟨rfl, hx⟩)
          go_ret
          exact ⟨rfl, hx⟩
    · exact absurd hn h0
    · have h6 : R < B := by omega
      have h7 : -R < B := by omega
      have hB62 : ¬ B = -4611686018427387904 := by omega
      rcases h3 with rfl | ⟨h3, h3'⟩ | ⟨h3, h3'⟩
      all_goals
        go_wp2_with (go_at_call 13; refine (arith_wakes _ hk).mono ?_; rintro e w' ⟨rfl, hx⟩)
        go_ret
        exact ⟨rfl, hx⟩
end Go.Proofs.YtfmedddjmcplnaaDoor
