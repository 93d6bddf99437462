/- Plain laws on words. -/
import Derived.Test.YtdkmakdlojlacaaDoorLexR
namespace Go.Proofs.YtdkmakdlojlacaaDoor
namespace Lex
/-- is a text a letter, and letters and digits behind it? -/
def isWord (l : List UInt8) : Bool := isLetter (l.headD 0) && l.all inWord
theorem runLen_all {p : UInt8 → Bool} {l : List UInt8} : runLen p l = l.length ↔ l.all p = true := by
  induction l with
  | nil => simp [runLen]
  | cons c l ih =>
    rw [runLen_cons, List.all_cons, List.length_cons]
    by_cases h : p c = true
    · rw [if_pos h, h, Bool.true_and, ← ih]; omega
    · rw [if_neg h]; simp [h]
theorem words_small : ∀ x ∈ words, isGreat (x.headD 0) = false ∧ x ≠ [95] := by decide
theorem isKind_word {l : List UInt8} {k : Nat} (hw : isWord l = true) (h1 : 1 ≤ l.length) (h12 : l.length ≤ 12) : isKind l k = decide (kindOf l = k) := by
  simp only [isWord, Bool.and_eq_true] at hw
  have hr := runLen_all.2 hw.2
  have e1 : decide (1 ≤ l.length) = true := decide_eq_true h1
  have e2 : decide (l.length ≤ 12) = true := decide_eq_true h12
  have e3 : decide (runLen inWord l = l.length) = true := decide_eq_true hr
  simp only [isKind, e1, e2, e3, hw.1, Bool.true_and]
theorem isKind_long {l : List UInt8} {k : Nat} (h12 : 12 < l.length) : isKind l k = false := by
  have : decide (l.length ≤ 12) = false := by simpa using h12
  simp only [isKind, this, Bool.false_and, Bool.and_false]
theorem isKind_no {l : List UInt8} {k : Nat} (hw : isWord l = false) : isKind l k = false := by
  cases h : isKind l k with
  | false => rfl
  | true =>
    simp only [isKind, Bool.and_eq_true, decide_eq_true_eq] at h
    have := runLen_all.1 h.2.2.2.1
    rw [isWord, h.2.2.1, this] at hw
    cases hw
theorem tokensOf_word {l : List UInt8} (hw : isWord l = true) (h1 : 1 ≤ l.length) : tokensOf l = if 12 < l.length then .error 0 else .ok [(kindOf l, l, 0)] := by
  have hww := hw
  simp only [isWord, Bool.and_eq_true] at hw
  have hr := runLen_all.2 hw.2
  cases l with
  | nil => simp at h1
  | cons c l =>
    have hc : isLetter c = true := hw.1
    have ht : token (c :: l) = if 12 < (c :: l).length then none else some (kindOf (c :: l), c :: l, (c :: l).length) := by
      unfold token
      dsimp only
      rw [if_pos hc]
      unfold wordTok
      rw [hr, List.take_length]
    have hs : skip (c :: l) = 0 := skip_head (letter_head hc).1 (letter_head hc).2
    unfold tokensOf
    rw [hs, List.drop_zero]
    split
    · rename_i h
      rw [if_pos h] at ht
      exact lexAt_none (List.cons_ne_nil _ _) ht _ (by omega)
    · rename_i h
      rw [if_neg h] at ht
      rw [lexAt_some ht _ (by omega), List.drop_length, List.drop_nil, lexAt_nil]
theorem kindOf_word {l : List UInt8} (h95 : l ≠ [95]) : (isGreat (l.headD 0) = true ∧ kindOf l = 2) ∨ (isGreat (l.headD 0) = false ∧ (kindOf l = 1 ∨ kindOf l = 5)) := by
  unfold kindOf
  rw [if_neg h95]
  cases hg : isGreat (l.headD 0) with
  | true =>
    left
    have : words.contains l = false := by
      cases hc : words.contains l with
      | false => rfl
      | true => have := (words_small l (List.contains_iff_mem.1 hc)).1; rw [hg] at this; cases this
    rw [this]; simp
  | false =>
    right
    refine ⟨rfl, ?_⟩
    cases words.contains l <;> simp
theorem kindOf_under : kindOf [95] = 6 := by decide
end Lex
end Go.Proofs.YtdkmakdlojlacaaDoor
