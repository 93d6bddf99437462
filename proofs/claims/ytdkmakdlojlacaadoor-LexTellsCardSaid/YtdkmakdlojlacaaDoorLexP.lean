/- Plain: a source's tokens, over lists of bytes. No program in sight. -/
import Derived.Test.YtdkmakdlojlacaaDoorArithP
namespace Go.Proofs.YtdkmakdlojlacaaDoor
namespace Lex

def isGreat (c : UInt8) : Bool := decide (65 ≤ c.toNat) && decide (c.toNat ≤ 90)
def isLetter (c : UInt8) : Bool := (decide (97 ≤ c.toNat) && decide (c.toNat ≤ 122)) || isGreat c || decide (c.toNat = 95)
def isDigit (c : UInt8) : Bool := decide (48 ≤ c.toNat) && decide (c.toNat ≤ 57)
def inWord (c : UInt8) : Bool := isLetter c || isDigit c
def notLine (c : UInt8) : Bool := !decide (c.toNat = 10)
/-- how many bytes a text begins with that are of a kind -/
def runLen (p : UInt8 → Bool) (l : List UInt8) : Nat := (l.takeWhile p).length
def words : List (List UInt8) := [[108, 101, 116], [114, 101, 99], [105, 110], [102, 117, 110], [105, 102], [116, 104, 101, 110], [101, 108, 115, 101], [109, 97, 116, 99, 104], [119, 105, 116, 104], [101, 110, 100], [116, 114, 121], [114, 97, 105, 115, 101], [116, 121, 112, 101], [111, 102], [116, 114, 117, 101], [102, 97, 108, 115, 101], [114, 101, 102], [101, 109, 105, 116], [108, 111, 103], [115, 101, 110, 100], [114, 101, 99, 118], [115, 105, 122, 101], [98, 121, 116, 101], [116, 101, 120, 116], [115, 97, 109, 101], [97, 114, 114, 97, 121], [103, 101, 116], [112, 117, 116], [108, 101, 110], [105, 110, 116], [98, 111, 111, 108], [117, 110, 105, 116], [115, 116, 114, 105, 110, 103], [108, 105, 115, 116]]
def signs : List (List UInt8) := [[58, 61], [58, 58], [45, 62], [40], [41], [91], [93], [44], [59], [124], [33], [61], [43], [42], [47], [37], [94], [60], [45]]
/-- a word's kind -/
def kindOf (l : List UInt8) : Nat := if l = [95] then 6 else if words.contains l then 5 else if isGreat (l.headD 0) then 2 else 1
def isKind (l : List UInt8) (k : Nat) : Bool := decide (1 ≤ l.length) && (decide (l.length ≤ 12) && (isLetter (l.headD 0) && (decide (runLen inWord l = l.length) && decide (kindOf l = k))))

/-- what a text stands for, from behind its opening quote on: b has come, i bytes are past -/
def textGo : List UInt8 → List UInt8 → Nat → Option (List UInt8 × Nat)
  | [], _, _ => none
  | c :: r, b, i =>
    if 60 < b.length then none
    else if c.toNat = 34 then some (b, i + 1)
    else if c.toNat < 32 ∨ 126 < c.toNat then none
    else if c.toNat = 92 then
      match r with
      | [] => none
      | d :: r' => if d.toNat = 110 then textGo r' (b ++ [10]) (i + 2) else if d.toNat = 34 ∨ d.toNat = 92 then textGo r' (b ++ [d]) (i + 2) else none
    else textGo r (b ++ [c]) (i + 1)
def signTok (l : List UInt8) : Option (Nat × List UInt8 × Nat) := (signs.find? fun x => x.isPrefixOf l).map fun x => (6, x, x.length)
def wordTok (l : List UInt8) : Option (Nat × List UInt8 × Nat) :=
  if 12 < runLen inWord l then none else some (kindOf (l.take (runLen inWord l)), l.take (runLen inWord l), runLen inWord l)
def startsLetter : List UInt8 → Bool
  | [] => false
  | c :: _ => isLetter c
def intTok (l : List UInt8) : Option (Nat × List UInt8 × Nat) :=
  if parseOK (l.take (runLen isDigit l)) && !startsLetter (l.drop (runLen isDigit l)) then some (3, l.take (runLen isDigit l), runLen isDigit l) else none
/-- the token with which a text begins: its kind, its text, how many bytes it has -/
def token (l : List UInt8) : Option (Nat × List UInt8 × Nat) :=
  match l with
  | [] => none
  | c :: r => if isLetter c then wordTok (c :: r) else if isDigit c then intTok (c :: r) else if c.toNat = 34 then (textGo r [] 1).map fun x => (4, x.1, x.2) else signTok (c :: r)
def isBlank (c : UInt8) : Bool := decide (c.toNat = 32) || decide (c.toNat = 9) || decide (c.toNat = 10)
/-- how many bytes there are ahead of a token; in a note or not -/
def skipS : Bool → List UInt8 → Nat
  | _, [] => 0
  | false, c :: r => if isBlank c then 1 + skipS false r else if c.toNat = 35 then 1 + skipS true r else 0
  | true, c :: r => if c.toNat = 10 then 1 + skipS false r else 1 + skipS true r
def skip (l : List UInt8) : Nat := skipS false l
/-- a token: its kind, its text, where it begins -/
abbrev Tok := Nat × List UInt8 × Nat
/-- all tokens, from place p on, where a token begins or nothing is left; or where none begins -/
def lexAt : Nat → Nat → List UInt8 → Except Nat (List Tok)
  | 0, _, _ => .ok []
  | _ + 1, _, [] => .ok []
  | f + 1, p, c :: r =>
    match token (c :: r) with
    | none => .error p
    | some (k, t, n) =>
      match lexAt f (p + n + skip ((c :: r).drop n)) (((c :: r).drop n).drop (skip ((c :: r).drop n))) with
      | .ok ts => .ok ((k, t, p) :: ts)
      | .error e => .error e
/-- a source's tokens, or where it is wrong (a source that is too long: Tokens tells it otherwise) -/
def tokensOf (l : List UInt8) : Except Nat (List Tok) := lexAt (l.length + 1) (skip l) (l.drop (skip l))

theorem runLen_le (p : UInt8 → Bool) (l : List UInt8) : runLen p l ≤ l.length := by
  unfold runLen
  exact (List.takeWhile_prefix p).length_le
theorem runLen_cons (p : UInt8 → Bool) (c : UInt8) (r : List UInt8) : runLen p (c :: r) = if p c then runLen p r + 1 else 0 := by
  unfold runLen
  rw [List.takeWhile_cons]
  split <;> simp
theorem skipS_le (b : Bool) (l : List UInt8) : skipS b l ≤ l.length := by
  induction l generalizing b with
  | nil => cases b <;> simp [skipS]
  | cons c r ih =>
    have h1 := ih true
    have h2 := ih false
    cases b <;> simp only [skipS, List.length_cons] <;> repeat' split
    all_goals omega
theorem skip_le (l : List UInt8) : skip l ≤ l.length := skipS_le false l
theorem skipS_note (r : List UInt8) : skipS true r = runLen notLine r + skipS false (r.drop (runLen notLine r)) := by
  induction r with
  | nil => simp [skipS, runLen]
  | cons c r ih =>
    rw [runLen_cons, skipS]
    by_cases h : c.toNat = 10
    · have h1 : notLine c = false := by simp [notLine, h]
      have h2 : isBlank c = true := by simp [isBlank, h]
      simp [h, h1, skipS, h2]
    · have h1 : notLine c = true := by simp [notLine, h]
      simp only [h, if_false, h1, if_true, List.drop_succ_cons, ih]
      omega
theorem textGo_le {r : List UInt8} : ∀ {b : List UInt8} {i : Nat} {t : List UInt8} {n : Nat}, textGo r b i = some (t, n) → i + 1 ≤ n ∧ n ≤ i + r.length := by
  suffices h : ∀ (m : Nat) (r : List UInt8), r.length ≤ m → ∀ b i t n, textGo r b i = some (t, n) → i + 1 ≤ n ∧ n ≤ i + r.length from fun {b i t n} => h r.length r (Nat.le_refl _) b i t n
  intro m
  induction m with
  | zero =>
    intro r hr b i t n h
    obtain rfl : r = [] := List.length_eq_zero_iff.1 (by omega)
    simp [textGo] at h
  | succ m ih =>
    intro r hr b i t n h
    cases r with
    | nil => simp [textGo] at h
    | cons c r =>
      simp only [List.length_cons] at hr ⊢
      unfold textGo at h
      split at h
      · cases h
      split at h
      · simp only [Option.some.injEq, Prod.mk.injEq] at h; omega
      split at h
      · cases h
      split at h
      · cases r with
        | nil => cases h
        | cons d r' =>
          simp only [List.length_cons] at hr ⊢
          dsimp only at h
          split at h
          · have := ih r' (by omega) _ _ _ _ h; omega
          split at h
          · have := ih r' (by omega) _ _ _ _ h; omega
          · cases h
      · have := ih r (by omega) _ _ _ _ h; omega
theorem signs_some : ∀ x ∈ signs, 1 ≤ x.length ∧ x.length ≤ 2 := by decide
theorem signTok_le {l : List UInt8} {k : Nat} {t : List UInt8} {n : Nat} (h : signTok l = some (k, t, n)) : k = 6 ∧ 1 ≤ n ∧ n ≤ l.length ∧ t = l.take n := by
  unfold signTok at h
  obtain ⟨x, hx, he⟩ := Option.map_eq_some_iff.1 h
  simp only [Prod.mk.injEq] at he
  obtain ⟨rfl, rfl, rfl⟩ := he
  have h1 := List.mem_of_find?_eq_some hx
  have h2 := List.find?_some hx
  have h3 := List.isPrefixOf_iff_prefix.1 h2
  exact ⟨rfl, (signs_some x h1).1, h3.length_le, (List.prefix_iff_eq_take.1 h3)⟩
theorem token_le {l : List UInt8} {k : Nat} {t : List UInt8} {n : Nat} (h : token l = some (k, t, n)) : 1 ≤ n ∧ n ≤ l.length ∧ (k ≠ 4 → t = l.take n) := by
  unfold token at h
  cases l with
  | nil => cases h
  | cons c r =>
    dsimp only at h
    split at h
    · rename_i hc
      unfold wordTok at h
      split at h
      · cases h
      · simp only [Option.some.injEq, Prod.mk.injEq] at h
        obtain ⟨rfl, rfl, rfl⟩ := h
        refine ⟨?_, runLen_le _ _, fun _ => rfl⟩
        rw [runLen_cons, if_pos (by simp [inWord, hc])]; omega
    split at h
    · rename_i hc
      unfold intTok at h
      split at h
      · simp only [Option.some.injEq, Prod.mk.injEq] at h
        obtain ⟨rfl, rfl, rfl⟩ := h
        refine ⟨?_, runLen_le _ _, fun _ => rfl⟩
        rw [runLen_cons, if_pos hc]; omega
      · cases h
    split at h
    · obtain ⟨⟨t', n'⟩, hx, he⟩ := Option.map_eq_some_iff.1 h
      simp only [Prod.mk.injEq] at he
      obtain ⟨rfl, rfl, rfl⟩ := he
      have := textGo_le hx
      simp only [List.length_cons]
      exact ⟨by omega, by omega, fun h => absurd rfl h⟩
    · have := signTok_le h
      exact ⟨this.2.1, this.2.2.1, fun _ => this.2.2.2⟩
/-- how much fuel there is makes no difference, if there is enough -/
theorem lexAt_fuel : ∀ (f : Nat) (g : Nat) (p : Nat) (l : List UInt8), l.length < f → l.length < g → lexAt f p l = lexAt g p l := by
  intro f
  induction f with
  | zero => intro g p l h; omega
  | succ f ih =>
    intro g p l hf hg
    cases g with
    | zero => omega
    | succ g =>
      cases l with
      | nil => simp [lexAt]
      | cons c r =>
        simp only [lexAt]
        cases ht : token (c :: r) with
        | none => rfl
        | some x =>
          obtain ⟨k, t, n⟩ := x
          have h1 := token_le ht
          have hl : ((((c :: r).drop n).drop (skip ((c :: r).drop n))) : List UInt8).length < f ∧ ((((c :: r).drop n).drop (skip ((c :: r).drop n))) : List UInt8).length < g := by
            simp only [List.length_drop, List.length_cons] at *
            omega
          dsimp only
          rw [ih g _ _ hl.1 hl.2]
/-- one step: from a token's beginning on -/
theorem lexAt_some {p : Nat} {l : List UInt8} {k : Nat} {t : List UInt8} {n : Nat} (h : token l = some (k, t, n)) (f : Nat) (hf : l.length < f) :
    lexAt f p l = match lexAt f (p + n + skip (l.drop n)) ((l.drop n).drop (skip (l.drop n))) with
      | .ok ts => .ok ((k, t, p) :: ts)
      | .error e => .error e := by
  cases l with
  | nil => simp [token] at h
  | cons c r =>
    cases f with
    | zero => omega
    | succ f =>
      rw [lexAt, h]
      dsimp only
      have h1 := token_le h
      have hl : ((((c :: r).drop n).drop (skip ((c :: r).drop n))) : List UInt8).length < f := by
        simp only [List.length_drop, List.length_cons] at *
        omega
      rw [lexAt_fuel f (f + 1) _ _ hl (by omega)]
theorem lexAt_none {p : Nat} {l : List UInt8} (hl : l ≠ []) (h : token l = none) (f : Nat) (hf : l.length < f) : lexAt f p l = .error p := by
  cases l with
  | nil => exact absurd rfl hl
  | cons c r =>
    cases f with
    | zero => omega
    | succ f => rw [lexAt, h]
theorem lexAt_nil (f p : Nat) : lexAt f p [] = .ok [] := by cases f <;> rfl

/-- a byte as it stands in a text's token -/
def esc (c : UInt8) : List UInt8 := if c.toNat = 10 then [92, 110] else if c.toNat = 34 ∨ c.toNat = 92 then [92, c] else [c]
def mayQuote (c : UInt8) : Bool := decide (c.toNat = 10) || (decide (32 ≤ c.toNat) && decide (c.toNat ≤ 126))
/-- a text's token -/
def quoteOf (l : List UInt8) : Option (List UInt8) := if 60 < l.length then none else if l.all mayQuote then some (34 :: (l.flatMap esc ++ [34])) else none
end Lex
end Go.Proofs.YtdkmakdlojlacaaDoor
