/- LexTells: the walk. -/
import Derived.Test.YtdkmakdlojlacaaDoorRefS
namespace Go.Proofs.YtdkmakdlojlacaaDoor
open Go.RowKit Lex
set_option maxHeartbeats 4000000
set_option maxRecDepth 100000
theorem keep_true {w : World} {va vb : Value} {a : List Tok} (ha : TokSl w va a) (hb : TokSl w vb a) (hla : a.length ≤ 4000000000) :
    Calls Tryd.prog 14 #[va, vb] w (TrueExt w) := by
  refine (keep_tokens w va vb a a ha hb hla).mono ?_
  rintro e w' ⟨rfl, hx⟩
  exact ⟨by rw [decide_eq_true rfl], hx⟩
theorem lexAt_len : ∀ (f p : Nat) (l : List UInt8) (ts : List Tok), lexAt f p l = .ok ts → ts.length ≤ f := by
  intro f
  induction f with
  | zero => intro p l ts h; simp only [lexAt] at h; injection h with h; subst h; exact Nat.le_refl _
  | succ f ih =>
    intro p l ts h
    cases l with
    | nil => rw [lexAt_nil] at h; injection h with h; subst h; exact Nat.zero_le _
    | cons c r =>
      simp only [lexAt] at h
      split at h
      · cases h
      · split at h
        · rename_i u hu
          injection h with h
          subst h
          have := ih _ _ _ hu
          simp only [List.length_cons]; omega
        · cases h
theorem tokensRes_len {l : List UInt8} {E A : Nat} {ts : List Tok} (h : tokensRes l = (E, A, ts)) (hl : l.length ≤ 2500) : ts.length ≤ 4000000000 := by
  unfold tokensRes at h
  split at h
  · simp only [Prod.mk.injEq] at h
    obtain ⟨_, _, rfl⟩ := h
    exact Nat.zero_le _
  · split at h
    · rename_i u hu
      simp only [Prod.mk.injEq] at h
      obtain ⟨_, _, rfl⟩ := h
      have := lexAt_len _ _ _ _ hu
      omega
    · simp only [Prod.mk.injEq] at h
      obtain ⟨_, _, rfl⟩ := h
      exact Nat.zero_le _
theorem quoteOf_some {l y : List UInt8} (h : quoteOf l = some y) : y ≠ [] := by
  unfold quoteOf at h
  split at h
  · cases h
  · split at h
    · injection h with h; rw [← h]; simp
    · cases h
theorem tells_walk (s t : ByteArray) (w : World) (hs : s.size ≤ maxLen) (ht : t.size ≤ maxLen) (hw : LexLie w) : Calls Tryd.prog 3 #[.string s, .string t] w (TrueExt w) := by
  have HL := Lib.hid (str_length s)
  by_cases hbig : 2500 < s.size
  · have i1 : decide ((2500 : Int) < (s.size : Int)) = true := by apply decide_eq_true; omega
    go_enter Tryd.func3, Tryd.ntmps3
    go_wp2_with fail
    refine (lex_wakes w hw).mono ?_; rintro e w1 ⟨rfl, hx⟩
    go_wp2
    go_ret
    exact ⟨rfl, hx⟩
  have i1 : decide ((2500 : Int) < (s.size : Int)) = false := by apply decide_eq_false; omega
  by_cases hbig2 : 500 < t.size
  · have i2 : decide ((500 : Int) < (t.size : Int)) = true := by apply decide_eq_true; omega
    go_enter Tryd.func3, Tryd.ntmps3
    go_wp2_with fail
    refine (lex_wakes w hw).mono ?_; rintro e w1 ⟨rfl, hx⟩
    go_wp2
    go_ret
    exact ⟨rfl, hx⟩
  have i2 : decide ((500 : Int) < (t.size : Int)) = false := by apply decide_eq_false; omega
  obtain ⟨E, A, ts, hres⟩ : ∃ E A ts, tokensRes s.data.toList = (E, A, ts) := ⟨_, _, _, rfl⟩
  obtain ⟨q, hq⟩ : ∃ q, strOf ((quoteOf t.data.toList).getD []) = q := ⟨_, rfl⟩
  obtain ⟨ok, hok⟩ : ∃ ok, (quoteOf t.data.toList).isSome = ok := ⟨_, rfl⟩
  obtain ⟨bn, hbn⟩ : ∃ b, isKind t.data.toList 1 = b := ⟨_, rfl⟩
  obtain ⟨bc, hbc⟩ : ∃ b, isKind t.data.toList 2 = b := ⟨_, rfl⟩
  have hlen := tokensRes_len hres (by rw [HL.out]; omega)
  have HR := Lib.hid hres; have HQ := Lib.hid hq; have HO := Lib.hid hok; have HN := Lib.hid hbn; have HC := Lib.hid hbc
  clear hres hq hok hbn hbc
  go_enter Tryd.func3, Tryd.ntmps3
  go_wp2_with fail
  refine (tokens_is hs hw HR.out).mono ?_; rintro e w1 ⟨v1, rfl, hx1, hr1⟩
  obtain ⟨a1, c1, rfl, la1, lb1⟩ := hr1.len
  have e1 := Ext.alloc w1 (.cells #[.int .i64 E, .int .i64 A] 26)
  have hl1 := hw.ext (hx1.trans e1)
  go_wp2_with fail
  refine (tokensRef_is (by omega) HR.out).mono ?_; rintro e w2 ⟨v2, rfl, hx2, hr2⟩
  obtain ⟨a2, c2, rfl, la2, lb2⟩ := hr2.len
  have e2 := Ext.alloc w2 (.cells #[.slice a2 ts.length c2, .int .i64 E, .int .i64 A] 30)
  have hl2 := hl1.ext (hx2.trans e2)
  have sl1 := hr1.sl.ext (e1.trans (hx2.trans e2))
  have sl2 := hr2.sl.ext e2
  obtain ⟨f0, f1⟩ := own2 (hx2.trans e2)
  obtain ⟨g0, g1, g2, _, _, _, gz⟩ := own3 (Ext.refl (w2.alloc (.cells #[.slice a2 ts.length c2, .int .i64 E, .int .i64 A] 30)))
  have HX := Lib.hid (hx1.trans (e1.trans (hx2.trans e2)))
  have HS1 := Lib.hid sl1; have HS2 := Lib.hid sl2
  clear hr1 hr2 hx1 hx2 e1 e2 hl1 sl1 sl2
  go_wp2_with fail
  generalize w2.alloc (.cells #[.slice a2 ts.length c2, .int .i64 E, .int .i64 A] 30) = w3 at *
  refine (quote_is ht HQ.out HO.out).mono ?_; rintro e w4 ⟨rfl, hx4⟩
  have f0' := hx4.cell f0; have f1' := hx4.cell f1; have g0' := hx4.cell g0; have g1' := hx4.cell g1; have g2' := hx4.cell g2
  have hl4 := hl2.ext hx4
  have HS1' := Lib.hid (HS1.out.ext hx4); have HS2' := Lib.hid (HS2.out.ext hx4)
  have HX4 := Lib.hid (HX.out.trans hx4)
  clear f0 f1 g0 g1 g2 hl2 HS1 HS2 HX hx4
  go_wp2_with fail
  refine (quoteRef_is _ (by omega) HQ.out).mono ?_; rintro e w' ⟨rfl, rfl⟩
  go_wp2_with fail
  refine (keep_true HS1'.out HS2'.out hlen).mono ?_; rintro e w5 ⟨rfl, hx5⟩
  have p0 := hx5.cell f0'; have p1 := hx5.cell f1'; have r0 := hx5.cell g0'; have r1 := hx5.cell g1'; have r2 := hx5.cell g2'
  have hl5 := hl4.ext hx5
  have HX5 := Lib.hid (HX4.out.trans hx5)
  have bE : ((E : Int) == (E : Int)) = true := by simp
  have bA : ((A : Int) == (A : Int)) = true := by simp
  clear f0' f1' g0' g1' g2' hl4 HX4 hx5 HS1' HS2' hlen
  have hqq : (!q.toList.isEmpty) = ok := by
    rw [← HO.out, ← HQ.out, ByteArray.toList_eq]
    cases hy : quoteOf t.data.toList with
    | none => rfl
    | some y =>
      have := quoteOf_some hy
      cases y with
      | nil => exact absurd rfl this
      | cons c r => rfl
  go_wp2_with fail
  refine (isName_is ht hl5 HN.out).mono ?_; rintro e w' ⟨rfl, rfl⟩
  go_wp2_with fail
  refine (isNameRef_is (by omega) HN.out).mono ?_; rintro e w6 ⟨rfl, hx6⟩
  have hl6 := hl5.ext hx6
  have HX6 := Lib.hid (HX5.out.trans hx6)
  have s0 := hx6.cell p0; have s1 := hx6.cell p1; have u1 := hx6.cell r1; have u2 := hx6.cell r2
  clear p0 p1 r0 r1 r2 hl5 HX5 hx6
  go_wp2_with fail
  refine (isCon_is ht hl6 HC.out).mono ?_; rintro e w' ⟨rfl, rfl⟩
  go_wp2_with fail
  refine (isConRef_is (by omega) HC.out).mono ?_; rintro e w7 ⟨rfl, hx7⟩
  have hl7 := hl6.ext hx7
  have HX7 := Lib.hid (HX6.out.trans hx7)
  clear s0 s1 u1 u2 hl6 HX6 hx7
  go_wp2_with fail
  refine (lex_wakes _ hl7).mono ?_; rintro e w8 ⟨rfl, hx8⟩
  go_wp2
  go_ret
  exact ⟨rfl, HX7.out.trans hx8⟩
end Go.Proofs.YtdkmakdlojlacaaDoor
