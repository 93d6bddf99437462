/- Plain: the document's own answers of the tokens are these; no program in sight. -/
import Derived.Test.YtdkmakdlojlacaaDoorLexR2
namespace Go.Proofs.YtdkmakdlojlacaaDoor
namespace Lex
/-- all words of the language in one text, a blank ahead of and behind each -/
def allWords : List UInt8 := 32 :: words.flatMap fun x => x ++ [32]
def hits (s : List UInt8) (i : Nat) : Bool := decide ((allWords.drop i).take (s.length + 2) = 32 :: (s ++ [32]))
theorem allWords_len : allWords.length = 160 := by decide +kernel
theorem words_hit : (words.all fun x => (List.range 160).any fun i => decide (i + x.length + 2 ≤ 160) && hits x i) = true := by decide +kernel
theorem hit_words : ((List.range 160).all fun i => !decide (allWords[i]? = some 32) || ((allWords.drop (i + 1)).takeWhile fun c => c != 32).isEmpty || words.contains ((allWords.drop (i + 1)).takeWhile fun c => c != 32)) = true := by decide +kernel
theorem own_miss {s : List UInt8} (h : ∀ i, i + s.length + 2 ≤ 160 → hits s i = false) : words.contains s = false := by
  cases hc : words.contains s with
  | false => rfl
  | true =>
    exfalso
    have hm : s ∈ words := List.contains_iff_mem.1 hc
    have := List.all_eq_true.1 words_hit s hm
    obtain ⟨i, _, hi⟩ := List.any_eq_true.1 this
    simp only [Bool.and_eq_true, decide_eq_true_eq] at hi
    rw [h i hi.1] at hi
    exact Bool.noConfusion hi.2
theorem take_until (s r : List UInt8) (h : ∀ c ∈ s, c ≠ 32) : (s ++ 32 :: r).takeWhile (fun c => c != 32) = s := by
  induction s with
  | nil => rfl
  | cons c s ih =>
    have hc : (c != 32) = true := bne_iff_ne.2 (h c (.head _))
    simp only [List.cons_append, List.takeWhile_cons, hc, if_true, ih fun c hc => h c (.tail _ hc)]
theorem own_hit {s : List UInt8} (hs : ∀ c ∈ s, c ≠ 32) (h0 : s ≠ []) {i : Nat} (hi : i < 160) (h : hits s i = true) : words.contains s = true := by
  have h := of_decide_eq_true h
  have e : allWords.drop i = 32 :: (s ++ 32 :: ((allWords.drop i).drop (s.length + 2))) := by
    have := List.take_append_drop (s.length + 2) (allWords.drop i)
    rw [h] at this
    rw [← this]
    simp
  have e1 : allWords[i]? = some 32 := by
    have : (allWords.drop i)[0]? = some 32 := by rw [e]; rfl
    simpa using this
  have e2 : allWords.drop (i + 1) = s ++ 32 :: ((allWords.drop i).drop (s.length + 2)) := by
    have : (allWords.drop i).drop 1 = s ++ 32 :: ((allWords.drop i).drop (s.length + 2)) := by
      conv => lhs; rw [e]
      rfl
    rw [← this, List.drop_drop]
  have := List.all_eq_true.1 hit_words i (List.mem_range.2 hi)
  rw [e1, e2, take_until s _ hs] at this
  cases s with
  | nil => exact absurd rfl h0
  | cons c s => simpa using this

def refSingles : List UInt8 := [40, 41, 91, 93, 44, 59, 124, 95, 33, 61, 43, 42, 47, 37, 94, 60]
/-- how many bytes the sign has with which a text begins -/
def refSign (l : List UInt8) : Nat :=
  if l.take 2 = [58, 61] ∨ l.take 2 = [58, 58] ∨ l.take 2 = [45, 62] then 2 else if refSingles.contains (l.headD 0) then 1 else if (l.headD 0).toNat = 45 then 1 else 0
theorem find_singles (c : UInt8) (r : List UInt8) : ∀ cs : List UInt8, (cs.map fun x => [x]).find? (fun x => x.isPrefixOf (c :: r)) = if cs.contains c then some [c] else none := by
  intro cs
  induction cs with
  | nil => rfl
  | cons d cs ih =>
    rw [List.map_cons, List.find?_cons]
    by_cases h : d = c
    · subst h; simp
    · have h1 : (d == c) = false := beq_false_of_ne h
      have h2 : (c == d) = false := beq_false_of_ne (Ne.symm h)
      simp only [List.isPrefixOf, h1, Bool.false_and, ih, List.contains_cons, h2, Bool.false_or]
theorem signs_parts : signs = [[58, 61], [58, 58], [45, 62]] ++ ([40, 41, 91, 93, 44, 59, 124, 33, 61, 43, 42, 47, 37, 94, 60, 45].map fun x => [x]) := rfl
theorem signTok_ref {c : UInt8} {r : List UInt8} (hc : c.toNat ≠ 95) : signTok (c :: r) = if refSign (c :: r) = 0 then none else some (6, (c :: r).take (refSign (c :: r)), refSign (c :: r)) := by
  have h95 : (c == 95) = false := beq_false_of_ne fun e => hc (by rw [e]; rfl)
  have h45 : decide (c.toNat = 45) = (c == 45) := by
    rw [Bool.eq_iff_iff]
    simp only [decide_eq_true_eq, beq_iff_eq]
    exact ⟨fun h => UInt8.toNat_inj.1 h, fun h => by rw [h]; rfl⟩
  have hp : ∀ x y : UInt8, [x, y].isPrefixOf (c :: r) = decide ((c :: r).take 2 = [x, y]) := by
    intro x y
    cases r with
    | nil => simp [List.isPrefixOf]
    | cons d r =>
      rw [Bool.eq_iff_iff]
      simp [List.isPrefixOf]
      exact ⟨fun ⟨a, b⟩ => ⟨a.symm, b.symm⟩, fun ⟨a, b⟩ => ⟨a.symm, b.symm⟩⟩
  have e1 : ([40, 41, 91, 93, 44, 59, 124, 33, 61, 43, 42, 47, 37, 94, 60, 45] : List UInt8).contains c = (refSingles.contains c || decide (c.toNat = 45)) := by
    rw [h45]
    simp only [refSingles, List.contains_cons, List.contains_nil, h95, Bool.or_false, Bool.false_or]
    simp only [Bool.or_assoc]
  have hst : signTok (c :: r) = Option.map (fun x => (6, x, x.length)) (((if (c :: r).take 2 = [58, 61] then some [58, 61] else if (c :: r).take 2 = [58, 58] then some [58, 58] else if (c :: r).take 2 = [45, 62] then some [45, 62] else none) : Option (List UInt8)).or (if (refSingles.contains c || decide (c.toNat = 45)) = true then some [c] else none)) := by
    unfold signTok
    rw [signs_parts, List.find?_append, find_singles, e1, List.find?_cons, List.find?_cons, List.find?_cons, hp, hp, hp, List.find?_nil]
    congr 2
    (repeat' split) <;> simp_all
  rw [hst]
  by_cases a1 : (c :: r).take 2 = [58, 61]
  · have hR : refSign (c :: r) = 2 := by unfold refSign; rw [if_pos (.inl a1)]
    rw [hR, if_pos a1, a1]; rfl
  by_cases a2 : (c :: r).take 2 = [58, 58]
  · have hR : refSign (c :: r) = 2 := by unfold refSign; rw [if_pos (.inr (.inl a2))]
    rw [hR, if_neg a1, if_pos a2, a2]; rfl
  by_cases a3 : (c :: r).take 2 = [45, 62]
  · have hR : refSign (c :: r) = 2 := by unfold refSign; rw [if_pos (.inr (.inr a3))]
    rw [hR, if_neg a1, if_neg a2, if_pos a3, a3]; rfl
  have hR : refSign (c :: r) = if refSingles.contains c then 1 else if c.toNat = 45 then 1 else 0 := by
    unfold refSign
    rw [if_neg (by rintro (h | h | h) <;> contradiction)]; rfl
  rw [hR, if_neg a1, if_neg a2, if_neg a3]
  cases hs : refSingles.contains c
  · by_cases h : c.toNat = 45
    · simp [h]
    · simp [h]
  · simp

/-- what a text stands for, its length looked at where it ends alone -/
def refGo : List UInt8 → List UInt8 → Nat → Option (List UInt8 × Nat)
  | [], _, _ => none
  | c :: r, b, i =>
    if c.toNat = 34 then (if 60 < b.length then none else some (b, i + 1))
    else if c.toNat = 92 then
      match r with
      | [] => none
      | d :: r' => if d.toNat = 110 then refGo r' (b ++ [10]) (i + 2) else if d.toNat = 34 ∨ d.toNat = 92 then refGo r' (b ++ [d]) (i + 2) else none
    else if c.toNat < 32 ∨ 126 < c.toNat then none
    else refGo r (b ++ [c]) (i + 1)
theorem refGo_long : ∀ (m : Nat) (r : List UInt8), r.length ≤ m → ∀ b i, 60 < b.length → refGo r b i = none := by
  intro m
  induction m with
  | zero => intro r hr b i _; obtain rfl : r = [] := List.length_eq_zero_iff.1 (by omega); simp [refGo]
  | succ m ih =>
    intro r hr b i hb
    cases r with
    | nil => simp [refGo]
    | cons c r =>
      simp only [List.length_cons] at hr
      unfold refGo
      split
      · first | rfl | rw [if_pos hb]
      split
      · cases r with
        | nil => rfl
        | cons d r' =>
          simp only [List.length_cons] at hr
          dsimp only
          split
          · exact ih r' (by omega) _ _ (by simp; omega)
          split
          · exact ih r' (by omega) _ _ (by simp; omega)
          · rfl
      split
      · rfl
      · exact ih r (by omega) _ _ (by simp; omega)
theorem refGo_eq : ∀ (m : Nat) (r : List UInt8), r.length ≤ m → ∀ b i, refGo r b i = textGo r b i := by
  intro m
  induction m with
  | zero => intro r hr b i; obtain rfl : r = [] := List.length_eq_zero_iff.1 (by omega); simp [refGo, textGo]
  | succ m ih =>
    intro r hr b i
    by_cases hb : 60 < b.length
    · rw [refGo_long (m + 1) r hr b i hb]
      cases r with
      | nil => simp [textGo]
      | cons c r => rw [textGo.eq_def]; dsimp only; rw [if_pos hb]
    cases r with
    | nil => simp [refGo, textGo]
    | cons c r =>
      simp only [List.length_cons] at hr
      rw [refGo.eq_def, textGo.eq_def]
      dsimp only
      rw [if_neg hb, if_neg hb]
      by_cases h34 : c.toNat = 34
      · rw [if_pos h34, if_pos h34]
      rw [if_neg h34, if_neg h34]
      by_cases h92 : c.toNat = 92
      · rw [if_pos h92, if_neg (by omega), if_pos h92]
        cases r with
        | nil => rfl
        | cons d r' =>
          simp only [List.length_cons] at hr
          dsimp only
          split
          · exact ih r' (by omega) _ _
          split
          · exact ih r' (by omega) _ _
          · rfl
      · rw [if_neg h92, if_neg h92]
        split
        · rfl
        · exact ih r (by omega) _ _
theorem refGo_is (r b : List UInt8) (i : Nat) : refGo r b i = textGo r b i := refGo_eq r.length r (Nat.le_refl _) b i

/-- a text that is one token of a kind: what the document calls a name, a constructor -/
def oneTok (l : List UInt8) (k : Nat) : Bool :=
  match tokensOf l with
  | .ok [x] => decide (x.1 = k) && (decide (x.2.1 = l) && decide (x.2.2 = 0))
  | _ => false
theorem isKind_parts {l : List UInt8} {k : Nat} (h : isKind l k = true) : 1 ≤ l.length ∧ l.length ≤ 12 ∧ kindOf l = k := by
  simp only [isKind, Bool.and_eq_true, decide_eq_true_eq] at h
  exact ⟨h.1, h.2.1, h.2.2.2.2⟩
theorem oneTok_kind {l : List UInt8} {k : Nat} (hk : k = 1 ∨ k = 2) : oneTok l k = isKind l k := by
  rw [Bool.eq_iff_iff]
  constructor
  · intro h
    unfold oneTok at h
    split at h
    · rename_i x hx
      simp only [Bool.and_eq_true, decide_eq_true_eq] at h
      obtain ⟨h1, h2, h3⟩ := h
      unfold tokensOf at hx
      cases ht : token (l.drop (skip l)) with
      | none =>
        by_cases hd : l.drop (skip l) = []
        · rw [hd, lexAt_nil] at hx; cases hx
        · rw [lexAt_none hd ht _ (by rw [List.length_drop]; omega)] at hx; cases hx
      | some y =>
        obtain ⟨k', t, n⟩ := y
        rw [lexAt_some ht _ (by rw [List.length_drop]; omega)] at hx
        split at hx
        · injection hx with hx
          injection hx with hx _
          subst hx
          simp only at h1 h2 h3
          subst h1 h2
          rw [h3] at ht
          simp only [List.drop_zero] at ht
          cases t with
          | nil => simp [token] at ht
          | cons c r =>
            simp only [token] at ht
            split at ht
            · rename_i hl
              unfold wordTok at ht
              split at ht
              · cases ht
              · rename_i hrun
                simp only [Option.some.injEq, Prod.mk.injEq] at ht
                obtain ⟨a, b, _⟩ := ht
                have hle := runLen_le inWord (c :: r)
                have hr : runLen inWord (c :: r) = (c :: r).length := by
                  have := congrArg List.length b
                  rw [List.length_take] at this
                  omega
                rw [b] at a
                have e1 : decide (1 ≤ (c :: r).length) = true := by simp
                have e2 : decide ((c :: r).length ≤ 12) = true := by rw [← hr]; simpa using hrun
                simp only [isKind, e1, e2, List.headD_cons, hl, hr, a, decide_true, Bool.and_self]
            split at ht
            · unfold intTok at ht
              split at ht
              · simp only [Option.some.injEq, Prod.mk.injEq] at ht; omega
              · cases ht
            split at ht
            · obtain ⟨z, _, hz⟩ := Option.map_eq_some_iff.1 ht
              simp only [Prod.mk.injEq] at hz; omega
            · have := (signTok_le ht).1; omega
        · cases hx
    · cases h
  · intro h
    obtain ⟨h1, h12, hkd⟩ := isKind_parts h
    have hw : isWord l = true := by
      cases hw : isWord l with
      | true => rfl
      | false => rw [isKind_no hw] at h; exact h
    unfold oneTok
    rw [tokensOf_word hw h1, if_neg (by omega)]
    simp [hkd]
end Lex
end Go.Proofs.YtdkmakdlojlacaaDoor
