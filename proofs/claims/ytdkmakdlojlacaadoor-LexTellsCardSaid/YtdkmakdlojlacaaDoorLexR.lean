/- Plain laws on tokens: two sources, one behind the other; what is quoted, and names, come back. -/
import Derived.Test.YtdkmakdlojlacaaDoorLexQ
namespace Go.Proofs.YtdkmakdlojlacaaDoor
namespace Lex

def tokShift (d : Nat) (x : Tok) : Tok := (x.1, x.2.1, x.2.2 + d)
def resShift (d : Nat) : Except Nat (List Tok) → Except Nat (List Tok)
  | .ok ts => .ok (ts.map (tokShift d))
  | .error e => .error (e + d)
theorem lexAt_shift (d : Nat) : ∀ (f p : Nat) (l : List UInt8), lexAt f (p + d) l = resShift d (lexAt f p l) := by
  intro f
  induction f with
  | zero => intro p l; rfl
  | succ f ih =>
    intro p l
    cases l with
    | nil => rfl
    | cons c r =>
      simp only [lexAt]
      cases token (c :: r) with
      | none => rfl
      | some y =>
        obtain ⟨k, t, n⟩ := y
        dsimp only
        have e : p + d + n + skip (List.drop n (c :: r)) = (p + n + skip (List.drop n (c :: r))) + d := by omega
        rw [e, ih]
        cases lexAt f (p + n + skip (List.drop n (c :: r))) (List.drop (skip (List.drop n (c :: r))) (List.drop n (c :: r))) with
        | error e => rfl
        | ok ts => rfl
theorem runLen_append (p : UInt8 → Bool) (l : List UInt8) (c : UInt8) (r : List UInt8) (h : p c = false) : runLen p (l ++ c :: r) = runLen p l := by
  induction l with
  | nil => rw [List.nil_append, runLen_cons, h]; rfl
  | cons x l ih => rw [List.cons_append, runLen_cons, runLen_cons, ih]
theorem take_runLen_append (p : UInt8 → Bool) (l : List UInt8) (c : UInt8) (r : List UInt8) (h : p c = false) : (l ++ c :: r).take (runLen p (l ++ c :: r)) = l.take (runLen p l) := by
  rw [runLen_append p l c r h, List.take_append_of_le_length (runLen_le p l)]
theorem skipS_append (b : Bool) (l : List UInt8) (r : List UInt8) : skipS b (l ++ 10 :: r) = if skipS b l < l.length then skipS b l else l.length + 1 + skip r := by
  induction l generalizing b with
  | nil =>
    cases b
    · simp [skipS, isBlank, skip]
    · simp [skipS, skip]
  | cons c l ih =>
    rw [List.cons_append]
    have h1 := skipS_le false l
    have h2 := skipS_le true l
    cases b <;> simp only [skipS, List.length_cons, ih] <;> repeat' split
    all_goals omega
theorem textGo_append : ∀ (m0 : Nat) (l : List UInt8), l.length ≤ m0 → ∀ (r b : List UInt8) (i : Nat) (t : List UInt8) (n : Nat), textGo l b i = some (t, n) → textGo (l ++ r) b i = some (t, n) := by
  intro m0 l hl r b i t n h
  have hle := textGo_le h
  have := textGo_take (l ++ r).length (l ++ r) (Nat.le_refl _) b i t n
  have h2 : ∀ (m0 : Nat) (l : List UInt8), l.length ≤ m0 → ∀ (b : List UInt8) (i : Nat), textGo l b i = some (t, n) → textGo (l ++ r) b i = some (t, n) := by
    intro m0
    induction m0 with
    | zero =>
      intro l hl b i h
      obtain rfl : l = [] := List.length_eq_zero_iff.1 (by omega)
      simp [textGo] at h
    | succ m0 ih =>
      intro l hl b i h
      cases l with
      | nil => simp [textGo] at h
      | cons c l =>
        simp only [List.length_cons] at hl
        rw [List.cons_append]
        unfold textGo at h ⊢
        split at h
        · cases h
        rename_i h1
        rw [if_neg h1]
        split at h
        · rename_i h2; rw [if_pos h2]; exact h
        rename_i h2
        rw [if_neg h2]
        split at h
        · cases h
        rename_i h3
        rw [if_neg h3]
        split at h
        · rename_i h4
          rw [if_pos h4]
          cases l with
          | nil => cases h
          | cons d l' =>
            simp only [List.length_cons] at hl
            rw [List.cons_append]
            dsimp only at h ⊢
            split at h
            · rename_i h5; rw [if_pos h5]; exact ih l' (by omega) _ _ h
            rename_i h5
            rw [if_neg h5]
            split at h
            · rename_i h6; rw [if_pos h6]; exact ih l' (by omega) _ _ h
            · cases h
        · rename_i h4
          rw [if_neg h4]
          exact ih l (by omega) _ _ h
  exact h2 m0 l hl b i h
theorem sign_bytes : ∀ x ∈ signs, ∀ c ∈ x, c.toNat ≠ 10 ∧ c.toNat ≠ 32 := by decide
theorem find_append {l : List UInt8} {x : List UInt8} (c : UInt8) (r : List UInt8) : ∀ {s : List (List UInt8)}, (∀ y ∈ s, c ∉ y) → s.find? (fun y => y.isPrefixOf l) = some x → s.find? (fun y => y.isPrefixOf (l ++ c :: r)) = some x
  | [], _, h => by cases h
  | y :: s, hc, h => by
    rw [List.find?_cons] at h ⊢
    by_cases hy : y.isPrefixOf l = true
    · rw [hy] at h
      obtain rfl := Option.some.inj h
      rw [List.isPrefixOf_iff_prefix.2 ((List.isPrefixOf_iff_prefix.1 hy).trans (List.prefix_append _ _))]
    · have hy' : y.isPrefixOf l = false := Bool.eq_false_iff.2 hy
      rw [hy'] at h
      have : y.isPrefixOf (l ++ c :: r) = false := by
        rw [← Bool.not_eq_true, List.isPrefixOf_iff_prefix]
        intro hp
        rcases Nat.lt_or_ge l.length y.length with hlt | hge
        · have hm : c ∈ y := by
            have e := List.prefix_iff_eq_take.1 hp
            rw [e, List.mem_take_iff_getElem]
            exact ⟨l.length, by simp; omega, by simp⟩
          exact hc y (List.mem_cons_self ..) hm
        · exact hy (List.isPrefixOf_iff_prefix.2 (List.prefix_of_prefix_length_le hp (List.prefix_append _ _) hge))
      rw [this]
      exact find_append c r (fun y hy => hc y (List.mem_cons_of_mem _ hy)) h
theorem token_append {l : List UInt8} {x : Nat × List UInt8 × Nat} (h : token l = some x) (c0 : UInt8) (r : List UInt8) (hw : inWord c0 = false) (hc : ∀ y ∈ signs, c0 ∉ y) : token (l ++ c0 :: r) = some x := by
  cases l with
  | nil => simp [token] at h
  | cons c l =>
    have hd : isDigit c0 = false := by simp only [inWord, Bool.or_eq_false_iff] at hw; exact hw.2
    have hl : isLetter c0 = false := by simp only [inWord, Bool.or_eq_false_iff] at hw; exact hw.1
    unfold token at h ⊢
    rw [List.cons_append]
    dsimp only at h ⊢
    rw [← List.cons_append]
    split at h
    · rename_i h1
      rw [if_pos h1]
      unfold wordTok at h ⊢
      rw [take_runLen_append _ _ _ _ hw, runLen_append _ _ _ _ hw]
      exact h
    rename_i h1
    rw [if_neg h1]
    split at h
    · rename_i h2
      rw [if_pos h2]
      unfold intTok at h ⊢
      rw [take_runLen_append _ _ _ _ hd, runLen_append _ _ _ _ hd]
      rw [← h]
      congr 3
      rw [List.drop_append_of_le_length (runLen_le _ _)]
      cases List.drop (runLen isDigit (c :: l)) (c :: l) with
      | nil => simp [startsLetter, hl]
      | cons y d => rfl
    rename_i h2
    rw [if_neg h2]
    split at h
    · rename_i h3
      rw [if_pos h3]
      obtain ⟨⟨t', n'⟩, hx, hy⟩ := Option.map_eq_some_iff.1 h
      rw [textGo_append l.length l (Nat.le_refl _) _ _ _ _ _ hx]
      exact hy ▸ rfl
    · rename_i h3
      rw [if_neg h3]
      unfold signTok at h ⊢
      obtain ⟨y, hx, hy⟩ := Option.map_eq_some_iff.1 h
      rw [find_append c0 r hc hx]
      exact hy ▸ rfl
theorem ten_out : inWord 10 = false ∧ ∀ y ∈ signs, (10 : UInt8) ∉ y := by decide
theorem blank_out : inWord 32 = false ∧ ∀ y ∈ signs, (32 : UInt8) ∉ y := by decide
theorem drop_past (l : List UInt8) (c : UInt8) (r : List UInt8) (k : Nat) : (l ++ c :: r).drop (l.length + 1 + k) = r.drop k := by
  have e : l ++ c :: r = (l ++ [c]) ++ r := by simp
  have e2 : l.length + 1 + k = (l ++ [c]).length + k := by simp
  rw [e, e2, ← List.drop_drop, List.drop_left]
/-- what two sources, a newline between, come to -/
def joinRes (a : List Tok) (d : Nat) : Except Nat (List Tok) → Except Nat (List Tok)
  | .ok b => .ok (a ++ b.map (tokShift d))
  | .error e => .error (e + d)
theorem joinRes_cons (x : Tok) (a : List Tok) (d : Nat) (q : Except Nat (List Tok)) : joinRes (x :: a) d q = match joinRes a d q with
    | .ok ts => .ok (x :: ts)
    | .error e => .error e := by cases q <;> rfl
theorem tokensOf_from (l : List UInt8) (f : Nat) (h : l.length < f) (d : Nat) : lexAt f (d + skip l) (l.drop (skip l)) = resShift d (tokensOf l) := by
  unfold tokensOf
  rw [Nat.add_comm d, lexAt_shift, lexAt_fuel _ (l.length + 1) _ _ (by rw [List.length_drop]; omega) (by rw [List.length_drop]; omega)]
theorem joinRes_nil (d : Nat) (q : Except Nat (List Tok)) : joinRes [] d q = resShift d q := by cases q <;> rfl
theorem lexAt_append (r : List UInt8) : ∀ (f p : Nat) (l : List UInt8) (a : List Tok), l ≠ [] → (l ++ 10 :: r).length < f → lexAt f p l = .ok a → lexAt f p (l ++ 10 :: r) = joinRes a (p + l.length + 1) (tokensOf r) := by
  intro f
  induction f with
  | zero => intro p l a _ hf; omega
  | succ f ih =>
    intro p l a hne hf h
    have hlen : (l ++ 10 :: r).length = l.length + 1 + r.length := by simp; omega
    cases ht : token l with
    | none => rw [lexAt_none hne ht _ (by omega)] at h; cases h
    | some y =>
      obtain ⟨k, t, n⟩ := y
      have hle := token_le ht
      have hs := skip_le (l.drop n)
      have hd : (l.drop n).length = l.length - n := List.length_drop ..
      rw [hd] at hs
      rw [lexAt_some ht _ (by omega), lexAt_fuel _ f _ _ (by rw [List.length_drop, List.length_drop]; omega) (by rw [List.length_drop, List.length_drop]; omega)] at h
      rw [lexAt_some (token_append ht 10 r ten_out.1 ten_out.2) _ hf, List.drop_append_of_le_length hle.2.1]
      have hsk : skip (l.drop n ++ 10 :: r) = if skip (l.drop n) < l.length - n then skip (l.drop n) else l.length - n + 1 + skip r := by
        have := skipS_append false (l.drop n) r
        rw [hd] at this; exact this
      cases hr : lexAt f (p + n + skip (l.drop n)) ((l.drop n).drop (skip (l.drop n))) with
      | error e => rw [hr] at h; cases h
      | ok ts' =>
        rw [hr] at h
        obtain rfl := Except.ok.inj h
        rw [joinRes_cons]
        by_cases hlt : skip (l.drop n) < l.length - n
        · rw [hsk, if_pos hlt, List.drop_append_of_le_length (by rw [hd]; omega)]
          rw [lexAt_fuel _ f _ _ (by simp only [List.length_append, List.length_drop, List.length_cons] at *; omega) (by simp only [List.length_append, List.length_drop, List.length_cons] at *; omega)]
          rw [ih _ _ ts' (by intro e; have := congrArg List.length e; simp only [List.length_drop, List.length_nil] at this; omega) (by simp only [List.length_append, List.length_drop, List.length_cons] at *; omega) hr]
          have e : p + n + skip (l.drop n) + ((l.drop n).drop (skip (l.drop n))).length + 1 = p + l.length + 1 := by rw [List.length_drop, hd]; omega
          rw [e]
          cases joinRes ts' (p + l.length + 1) (tokensOf r) <;> rfl
        · have he : skip (l.drop n) = l.length - n := by omega
          have hnil : (l.drop n).drop (skip (l.drop n)) = [] := List.drop_eq_nil_of_le (by rw [hd]; omega)
          rw [hnil, lexAt_nil] at hr
          obtain rfl := Except.ok.inj hr
          rw [joinRes_nil, hsk, if_neg hlt]
          have e1 : List.drop (l.length - n + 1 + skip r) (l.drop n ++ 10 :: r) = r.drop (skip r) := by
            have := drop_past (l.drop n) 10 r (skip r)
            rw [hd] at this; exact this
          have e2 : p + n + (l.length - n + 1 + skip r) = (p + l.length + 1) + skip r := by omega
          rw [e1, e2, tokensOf_from r (f + 1) (by omega)]
          cases resShift (p + l.length + 1) (tokensOf r) <;> rfl
theorem tokensOf_append {l r : List UInt8} {a : List Tok} (h : tokensOf l = .ok a) : tokensOf (l ++ 10 :: r) = joinRes a (l.length + 1) (tokensOf r) := by
  have hs := skip_le l
  have hlen : (l ++ 10 :: r).length = l.length + 1 + r.length := by simp; omega
  have hsk : skip (l ++ 10 :: r) = if skip l < l.length then skip l else l.length + 1 + skip r := skipS_append false l r
  unfold tokensOf at h
  conv => lhs; unfold tokensOf
  by_cases hlt : skip l < l.length
  · rw [hsk, if_pos hlt, List.drop_append_of_le_length (by omega)]
    rw [lexAt_fuel _ ((l ++ 10 :: r).length + 1) _ _ (by rw [List.length_drop]; omega) (by rw [List.length_drop]; omega)] at h
    rw [lexAt_append r _ _ _ a (by intro e; have := congrArg List.length e; simp only [List.length_drop, List.length_nil] at this; omega) (by simp only [List.length_append, List.length_drop, List.length_cons] at *; omega) h]
    have e : skip l + (l.drop (skip l)).length + 1 = l.length + 1 := by rw [List.length_drop]; omega
    rw [e]
  · have hnil : l.drop (skip l) = [] := List.drop_eq_nil_of_le (by omega)
    rw [hnil, lexAt_nil] at h
    obtain rfl := Except.ok.inj h
    rw [joinRes_nil, hsk, if_neg hlt]
    have e1 : List.drop (l.length + 1 + skip r) (l ++ 10 :: r) = r.drop (skip r) := drop_past l 10 r (skip r)
    rw [e1, tokensOf_from r _ (by omega)]

/-- what stands ahead and behind, and is no token: blanks and notes -/
def Blanks (b : List UInt8) : Prop := ∀ r, skip (b ++ r) = b.length + skip r
theorem blanks_nil : Blanks [] := fun r => by simp
theorem blanks_cons {c : UInt8} {b : List UInt8} (hc : isBlank c = true) (hb : Blanks b) : Blanks (c :: b) := fun r => by
  have := hb r
  unfold skip at this ⊢
  rw [List.cons_append, skipS, if_pos hc, this, List.length_cons]; omega
theorem blanks_append {a b : List UInt8} (ha : Blanks a) (hb : Blanks b) : Blanks (a ++ b) := fun r => by
  rw [List.append_assoc, ha, hb, List.length_append]; omega
theorem blanks_note : Blanks [35, 32, 34, 120, 10] := fun r => by
  simp [skip, skipS, isBlank]; omega
theorem skip_blanks {b : List UInt8} (h : Blanks b) : skip b = b.length := by have := h []; simpa [skip, skipS] using this
/-- one token between blanks -/
theorem tokensOf_one {a b l : List UInt8} {k : Nat} {t : List UInt8} (ha : Blanks a) (hb : Blanks b) (h : token (l ++ b) = some (k, t, l.length)) (hs : skip (l ++ b) = 0) : tokensOf (a ++ (l ++ b)) = .ok [(k, t, a.length)] := by
  unfold tokensOf
  have e : skip (a ++ (l ++ b)) = a.length := by rw [ha, hs]; omega
  rw [e, List.drop_left, lexAt_some h _ (by simp only [List.length_append]; omega)]
  have e2 : (l ++ b).drop l.length = b := List.drop_left
  rw [e2, skip_blanks hb, List.drop_eq_nil_of_le (Nat.le_refl _), lexAt_nil]
theorem skip_head {c : UInt8} {r : List UInt8} (h : isBlank c = false) (h2 : c.toNat ≠ 35) : skip (c :: r) = 0 := by
  unfold skip; rw [skipS, h]; simp [h2]
theorem letter_head {c : UInt8} (h : isLetter c = true) : isBlank c = false ∧ c.toNat ≠ 35 := by
  simp only [isLetter, isGreat, Bool.or_eq_true, Bool.and_eq_true, decide_eq_true_eq] at h
  constructor
  · simp only [isBlank, Bool.or_eq_false_iff, decide_eq_false_iff_not]; omega
  · omega
/-- a quoted text is read as that text -/
theorem textGo_quote (r : List UInt8) : ∀ (t b : List UInt8) (i : Nat), t.all mayQuote = true → b.length + t.length ≤ 60 → textGo (t.flatMap esc ++ 34 :: r) b i = some (b ++ t, i + (t.flatMap esc).length + 1) := by
  intro t
  induction t with
  | nil =>
    intro b i _ hb
    simp only [List.length_nil] at hb
    have hb60 : ¬ 60 < b.length := by omega
    rw [List.flatMap_nil, List.nil_append, textGo.eq_def]
    simp [hb60]
  | cons c t ih =>
    intro b i hall hb
    rw [List.all_cons, Bool.and_eq_true] at hall
    have hm := hall.1
    simp only [mayQuote, Bool.or_eq_true, Bool.and_eq_true, decide_eq_true_eq] at hm
    simp only [List.length_cons] at hb
    have hb60 : ¬ 60 < b.length := by omega
    have he : (c :: t).flatMap esc = esc c ++ t.flatMap esc := List.flatMap_cons
    rw [he]
    by_cases h10 : c.toNat = 10
    · have hc : c = 10 := UInt8.toNat_inj.1 h10
      subst hc
      have e : esc 10 = [92, 110] := by decide
      have := ih (b ++ [10]) (i + 2) hall.2 (by simp; omega)
      rw [e, textGo.eq_def]
      simp only [List.cons_append, List.nil_append, hb60, if_false, this, List.length_cons, UInt8.reduceToNat, Nat.reduceEqDiff, Nat.reduceLT, or_self, if_true, List.append_assoc]
      simp; omega
    by_cases h34 : c.toNat = 34 ∨ c.toNat = 92
    · have e : esc c = [92, c] := by simp [esc, h10, h34]
      have hn : ¬ c.toNat = 110 := by omega
      have := ih (b ++ [c]) (i + 2) hall.2 (by simp; omega)
      rw [e, textGo.eq_def]
      simp only [List.cons_append, List.nil_append, hb60, if_false, this, List.length_cons, UInt8.reduceToNat, Nat.reduceEqDiff, Nat.reduceLT, or_self, if_true, List.append_assoc, hn, h34]
      simp; omega
    · have e : esc c = [c] := by simp [esc, h10, h34]
      have := ih (b ++ [c]) (i + 1) hall.2 (by simp; omega)
      have h1 : ¬ c.toNat = 34 := by omega
      have h2 : ¬ (c.toNat < 32 ∨ 126 < c.toNat) := by omega
      have h3 : ¬ c.toNat = 92 := by omega
      rw [e, textGo.eq_def]
      simp only [List.cons_append, List.nil_append, hb60, if_false, this, List.length_cons, h1, h2, h3, List.append_assoc]
      simp; omega
theorem quote_token {t q : List UInt8} (h : quoteOf t = some q) (r : List UInt8) : token (q ++ r) = some (4, t, q.length) ∧ skip (q ++ r) = 0 := by
  unfold quoteOf at h
  split at h
  · cases h
  rename_i h60
  split at h
  · rename_i hall
    obtain rfl := Option.some.inj h
    have e : (34 :: (t.flatMap esc ++ [34])) ++ r = 34 :: (t.flatMap esc ++ 34 :: r) := by simp
    rw [e]
    constructor
    · unfold token
      dsimp only
      have h1 : isLetter 34 = false := by decide
      have h2 : isDigit 34 = false := by decide
      have h3 : (34 : UInt8).toNat = 34 := rfl
      rw [h1, h2, if_pos h3, textGo_quote r t [] 1 hall (by simp; omega)]
      simp; omega
    · exact skip_head (by decide) (by decide)
  · cases h
/-- a name is read as that name -/
theorem kind_token {t : List UInt8} {k : Nat} (h : isKind t k = true) (r : List UInt8) : token (t ++ 32 :: r) = some (k, t, t.length) ∧ skip (t ++ 32 :: r) = 0 := by
  cases t with
  | nil => simp [isKind] at h
  | cons c t =>
    simp only [isKind, Bool.and_eq_true, decide_eq_true_eq, List.headD_cons] at h
    obtain ⟨_, h12, hl, hr, hk⟩ := h
    constructor
    · unfold token
      rw [List.cons_append]
      dsimp only
      rw [← List.cons_append, if_pos hl]
      unfold wordTok
      rw [take_runLen_append _ _ _ _ blank_out.1, runLen_append _ _ _ _ blank_out.1, hr, if_neg (by omega), List.take_length, hk]
    · rw [List.cons_append]
      exact skip_head (letter_head hl).1 (letter_head hl).2
end Lex
end Go.Proofs.YtdkmakdlojlacaaDoor
