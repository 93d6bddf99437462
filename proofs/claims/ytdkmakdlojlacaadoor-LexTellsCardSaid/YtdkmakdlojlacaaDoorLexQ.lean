/- Plain laws on tokens. -/
import Derived.Test.YtdkmakdlojlacaaDoorLexP
namespace Go.Proofs.YtdkmakdlojlacaaDoor
namespace Lex

theorem takeWhile_take (p : UInt8 → Bool) (l : List UInt8) (m : Nat) : runLen p (l.take m) = min (runLen p l) m := by
  induction l generalizing m with
  | nil => simp [runLen]
  | cons c r ih =>
    cases m with
    | zero => simp [runLen]
    | succ m =>
      rw [List.take_succ_cons, runLen_cons, runLen_cons]
      split
      · rw [ih]; omega
      · omega
theorem take_runLen_take (p : UInt8 → Bool) (l : List UInt8) (m : Nat) (h : runLen p l ≤ m) : (l.take m).take (runLen p (l.take m)) = l.take (runLen p l) := by
  rw [takeWhile_take, Nat.min_eq_left h, List.take_take, Nat.min_eq_left h]
theorem skipS_take (b : Bool) (l : List UInt8) (m : Nat) : skipS b (l.take m) = min (skipS b l) m := by
  induction l generalizing m b with
  | nil => cases b <;> simp [skipS]
  | cons c r ih =>
    cases m with
    | zero => cases b <;> simp [skipS]
    | succ m =>
      rw [List.take_succ_cons]
      cases b <;> simp only [skipS] <;> repeat' split
      all_goals first | omega | (rw [ih]; omega)
theorem textGo_take : ∀ (m0 : Nat) (r : List UInt8), r.length ≤ m0 → ∀ (b : List UInt8) (i : Nat) (t : List UInt8) (n m : Nat), textGo r b i = some (t, n) → n ≤ i + m → textGo (r.take m) b i = some (t, n) := by
  intro m0
  induction m0 with
  | zero =>
    intro r hr b i t n m h
    obtain rfl : r = [] := List.length_eq_zero_iff.1 (by omega)
    simp [textGo] at h
  | succ m0 ih =>
    intro r hr b i t n m h hm
    cases r with
    | nil => simp [textGo] at h
    | cons c r =>
      have hle := textGo_le h
      simp only [List.length_cons] at hr hle
      cases m with
      | zero => omega
      | succ m =>
        rw [List.take_succ_cons]
        unfold textGo at h ⊢
        split at h
        · cases h
        rename_i h1
        rw [if_neg h1]
        split at h
        · rename_i h2; rw [if_pos h2]; exact h
        rename_i h2
        rw [if_neg h2]
        split at h
        · cases h
        rename_i h3
        rw [if_neg h3]
        split at h
        · rename_i h4
          rw [if_pos h4]
          cases r with
          | nil => cases h
          | cons d r' =>
            simp only [List.length_cons] at hr hle
            dsimp only at h
            split at h
            · rename_i h5
              have hl := textGo_le h
              cases m with
              | zero => omega
              | succ m =>
                rw [List.take_succ_cons]
                dsimp only
                rw [if_pos h5]
                exact ih r' (by omega) _ _ _ _ m h (by omega)
            rename_i h5
            split at h
            · rename_i h6
              have hl := textGo_le h
              cases m with
              | zero => omega
              | succ m =>
                rw [List.take_succ_cons]
                dsimp only
                rw [if_neg h5, if_pos h6]
                exact ih r' (by omega) _ _ _ _ m h (by omega)
            · cases h
        · rename_i h4
          rw [if_neg h4]
          exact ih r (by omega) _ _ _ _ m h (by omega)
theorem find_congr {α : Type} {p q : α → Bool} {l : List α} (h : ∀ x ∈ l, p x = q x) : l.find? p = l.find? q := by
  induction l with
  | nil => rfl
  | cons a l ih =>
    rw [List.find?_cons, List.find?_cons, h a (List.mem_cons_self ..), ih (fun x hx => h x (List.mem_cons_of_mem _ hx))]
theorem prefix_take {x l : List UInt8} (m : Nat) (hx : x <+: l.take m) : x <+: l := hx.trans (List.take_prefix m l)
theorem find_take {l : List UInt8} {x : List UInt8} (m : Nat) : ∀ {s : List (List UInt8)}, s.find? (fun y => y.isPrefixOf l) = some x → x.length ≤ m → s.find? (fun y => y.isPrefixOf (l.take m)) = some x
  | [], h, _ => by cases h
  | y :: s, h, hm => by
    rw [List.find?_cons] at h ⊢
    by_cases hy : y.isPrefixOf l = true
    · rw [hy] at h
      obtain rfl := Option.some.inj h
      have hp : y <+: l.take m := by
        rw [List.isPrefixOf_iff_prefix] at hy
        rw [List.prefix_iff_eq_take.1 hy]
        have : List.take y.length l = List.take y.length (List.take m l) := by rw [List.take_take, Nat.min_eq_left hm]
        rw [this]; exact List.take_prefix _ _
      rw [List.isPrefixOf_iff_prefix.2 hp]
    · have hy' : y.isPrefixOf l = false := Bool.eq_false_iff.2 hy
      rw [hy'] at h
      have : y.isPrefixOf (l.take m) = false := by
        rw [← Bool.not_eq_true, List.isPrefixOf_iff_prefix]
        intro hp
        exact hy (List.isPrefixOf_iff_prefix.2 (prefix_take m hp))
      rw [this]
      exact find_take m h hm
theorem token_take {l : List UInt8} {k : Nat} {t : List UInt8} {n m : Nat} (h : token l = some (k, t, n)) (hm : n ≤ m) : token (l.take m) = some (k, t, n) := by
  have hle := token_le h
  cases l with
  | nil => simp [token] at h
  | cons c r =>
    cases m with
    | zero => omega
    | succ m =>
      have he : (c :: r).take (m + 1) = c :: r.take m := List.take_succ_cons
      unfold token at h ⊢
      rw [he]
      dsimp only at h ⊢
      rw [← he]
      split at h
      · rename_i h1
        rw [if_pos h1]
        unfold wordTok at h ⊢
        split at h
        · cases h
        · rename_i h2
          simp only [Option.some.injEq, Prod.mk.injEq] at h
          obtain ⟨rfl, rfl, rfl⟩ := h
          rw [take_runLen_take _ _ _ hm, takeWhile_take, Nat.min_eq_left hm, if_neg h2]
      rename_i h1
      rw [if_neg h1]
      split at h
      · rename_i h2
        rw [if_pos h2]
        unfold intTok at h ⊢
        split at h
        · rename_i h3
          simp only [Option.some.injEq, Prod.mk.injEq] at h
          obtain ⟨rfl, rfl, rfl⟩ := h
          rw [take_runLen_take _ _ _ hm, takeWhile_take, Nat.min_eq_left hm, if_pos]
          simp only [Bool.and_eq_true, Bool.not_eq_true'] at h3 ⊢
          refine ⟨h3.1, ?_⟩
          rw [List.drop_take]
          generalize hd : List.drop (runLen isDigit (c :: r)) (c :: r) = d at h3
          cases d with
          | nil => simp [startsLetter]
          | cons x d =>
            cases hk : m + 1 - runLen isDigit (c :: r) with
            | zero => simp [startsLetter]
            | succ j => rw [List.take_succ_cons]; exact h3.2
        · cases h
      rename_i h2
      rw [if_neg h2]
      split at h
      · rename_i h3
        rw [if_pos h3]
        obtain ⟨⟨t', n'⟩, hx, hy⟩ := Option.map_eq_some_iff.1 h
        simp only [Prod.mk.injEq] at hy
        obtain ⟨rfl, rfl, rfl⟩ := hy
        rw [textGo_take r.length r (Nat.le_refl _) _ _ _ _ m hx (by omega)]
        rfl
      · rename_i h3
        rw [if_neg h3]
        have h4 := h
        unfold signTok at h ⊢
        obtain ⟨x, hx, hy⟩ := Option.map_eq_some_iff.1 h
        simp only [Prod.mk.injEq] at hy
        obtain ⟨rfl, rfl, rfl⟩ := hy
        rw [find_take (m + 1) hx hm]
        rfl

/-- all tokens, and how they lie -/
theorem lexAt_lies : ∀ (f p : Nat) (l : List UInt8) (ts : List Tok), l.length < f → lexAt f p l = .ok ts → ∀ x ∈ ts, p ≤ x.2.2 ∧ x.2.2 < p + l.length ∧ (x.1 ≠ 4 → x.2.2 - p + x.2.1.length ≤ l.length ∧ x.2.1 = (l.drop (x.2.2 - p)).take x.2.1.length) := by
  intro f
  induction f with
  | zero => intro p l ts hf; omega
  | succ f ih =>
    intro p l ts hf h x hx
    cases hl : l with
    | nil => subst hl; rw [lexAt_nil] at h; obtain rfl := Except.ok.inj h; cases hx
    | cons c r =>
      rw [← hl]
      have hne : l ≠ [] := by rw [hl]; exact List.cons_ne_nil _ _
      cases ht : token l with
      | none => rw [lexAt_none hne ht _ hf] at h; cases h
      | some y =>
        obtain ⟨k, t, n⟩ := y
        have hle := token_le ht
        have hs := skip_le (l.drop n)
        rw [List.length_drop] at hs
        rw [lexAt_some ht _ hf, lexAt_fuel _ f _ _ (by rw [List.length_drop, List.length_drop]; omega) (by rw [List.length_drop, List.length_drop]; omega)] at h
        cases hr : lexAt f (p + n + skip (l.drop n)) ((l.drop n).drop (skip (l.drop n))) with
        | error e => rw [hr] at h; cases h
        | ok ts' =>
          rw [hr] at h
          obtain rfl := Except.ok.inj h
          rcases List.mem_cons.1 hx with rfl | hx
          · refine ⟨Nat.le_refl _, by simp only []; omega, fun hk => ?_⟩
            have e := hle.2.2 hk
            have el : t.length = n := by rw [e, List.length_take]; omega
            simp only [Nat.sub_self, List.drop_zero, el]
            exact ⟨by omega, e⟩
          · have := ih _ _ ts' (by rw [List.length_drop, List.length_drop]; omega) hr x hx
            simp only [List.length_drop] at this
            refine ⟨by omega, by omega, fun hk => ?_⟩
            have h3 := this.2.2 hk
            refine ⟨by omega, ?_⟩
            rw [List.drop_drop, List.drop_drop] at h3
            have e : n + (skip (l.drop n) + (x.2.2 - (p + n + skip (l.drop n)))) = x.2.2 - p := by omega
            rw [e] at h3
            exact h3.2
theorem lexAt_error : ∀ (f p : Nat) (l : List UInt8) (e : Nat), l.length < f → lexAt f p l = .error e → p ≤ e ∧ e < p + l.length := by
  intro f
  induction f with
  | zero => intro p l e hf; omega
  | succ f ih =>
    intro p l e hf h
    cases hl : l with
    | nil => subst hl; rw [lexAt_nil] at h; cases h
    | cons c r =>
      rw [← hl]
      have hne : l ≠ [] := by rw [hl]; exact List.cons_ne_nil _ _
      have hpos : 0 < l.length := by rw [hl]; exact Nat.succ_pos _
      cases ht : token l with
      | none =>
        rw [lexAt_none hne ht _ hf] at h
        obtain rfl := Except.error.inj h
        omega
      | some y =>
        obtain ⟨k, t, n⟩ := y
        have hle := token_le ht
        have hs := skip_le (l.drop n)
        rw [List.length_drop] at hs
        rw [lexAt_some ht _ hf, lexAt_fuel _ f _ _ (by rw [List.length_drop, List.length_drop]; omega) (by rw [List.length_drop, List.length_drop]; omega)] at h
        cases hr : lexAt f (p + n + skip (l.drop n)) ((l.drop n).drop (skip (l.drop n))) with
        | ok ts => rw [hr] at h; cases h
        | error e' =>
          rw [hr] at h
          obtain rfl := Except.error.inj h
          have := ih _ _ _ (by rw [List.length_drop, List.length_drop]; omega) hr
          simp only [List.length_drop] at this
          omega
/-- a source that is cut at a token's beginning has just the tokens ahead -/
theorem lexAt_cut : ∀ (f p : Nat) (l : List UInt8) (ts : List Tok), l.length < f → lexAt f p l = .ok ts → ∀ (k : Nat) (x : Tok), ts[k]? = some x → lexAt f p (l.take (x.2.2 - p)) = .ok (ts.take k) := by
  intro f
  induction f with
  | zero => intro p l ts hf; omega
  | succ f ih =>
    intro p l ts hf h j x hx
    cases hl : l with
    | nil => subst hl; rw [lexAt_nil] at h; obtain rfl := Except.ok.inj h; simp at hx
    | cons c r =>
      rw [← hl]
      have hne : l ≠ [] := by rw [hl]; exact List.cons_ne_nil _ _
      cases ht : token l with
      | none => rw [lexAt_none hne ht _ hf] at h; cases h
      | some y =>
        obtain ⟨k, t, n⟩ := y
        have hle := token_le ht
        have hs := skip_le (l.drop n)
        rw [List.length_drop] at hs
        rw [lexAt_some ht _ hf, lexAt_fuel _ f _ _ (by rw [List.length_drop, List.length_drop]; omega) (by rw [List.length_drop, List.length_drop]; omega)] at h
        cases hr : lexAt f (p + n + skip (l.drop n)) ((l.drop n).drop (skip (l.drop n))) with
        | error e => rw [hr] at h; cases h
        | ok ts' =>
          rw [hr] at h
          obtain rfl := Except.ok.inj h
          cases j with
          | zero =>
            simp only [List.getElem?_cons_zero, Option.some.injEq] at hx
            subst hx
            simp [lexAt_nil]
          | succ j =>
            simp only [List.getElem?_cons_succ] at hx
            have hmem := List.mem_of_getElem? hx
            have hlie := lexAt_lies _ _ _ _ (by rw [List.length_drop, List.length_drop]; omega) hr x hmem
            simp only [List.length_drop] at hlie
            have hm : n ≤ x.2.2 - p := by omega
            have ht' := token_take ht hm
            have hlt : (l.take (x.2.2 - p)).length < f + 1 := by rw [List.length_take]; omega
            rw [lexAt_some ht' _ hlt]
            have e1 : (l.take (x.2.2 - p)).drop n = (l.drop n).take (x.2.2 - p - n) := List.drop_take ..
            have e2 : skip ((l.take (x.2.2 - p)).drop n) = skip (l.drop n) := by
              rw [e1]; unfold skip; rw [skipS_take]; unfold skip at hlie; omega
            have e3 : ((l.take (x.2.2 - p)).drop n).drop (skip (l.drop n)) = ((l.drop n).drop (skip (l.drop n))).take (x.2.2 - (p + n + skip (l.drop n))) := by
              rw [e1, List.drop_take]; congr 1; omega
            rw [e2, e3, lexAt_fuel _ f _ _ (by rw [List.length_take, List.length_drop, List.length_drop]; omega) (by rw [List.length_take, List.length_drop, List.length_drop]; omega),
              ih _ _ ts' (by rw [List.length_drop, List.length_drop]; omega) hr j x hx]
            rfl
theorem tokensOf_lies {l : List UInt8} {ts : List Tok} (h : tokensOf l = .ok ts) : ∀ x ∈ ts, x.2.2 < l.length ∧ (x.1 ≠ 4 → x.2.2 + x.2.1.length ≤ l.length ∧ x.2.1 = (l.drop x.2.2).take x.2.1.length) := by
  intro x hx
  have hs := skip_le l
  have := lexAt_lies _ _ _ _ (by rw [List.length_drop]; omega) h x hx
  simp only [List.length_drop, List.drop_drop] at this
  refine ⟨by omega, fun hk => ?_⟩
  have h3 := this.2.2 hk
  have e : skip l + (x.2.2 - skip l) = x.2.2 := by omega
  rw [e] at h3
  exact ⟨by omega, h3.2⟩
theorem tokensOf_error {l : List UInt8} {e : Nat} (h : tokensOf l = .error e) : e < l.length := by
  have hs := skip_le l
  have := lexAt_error _ _ _ _ (by rw [List.length_drop]; omega) h
  simp only [List.length_drop] at this
  omega
theorem tokensOf_cut {l : List UInt8} {ts : List Tok} (h : tokensOf l = .ok ts) {k : Nat} {x : Tok} (hx : ts[k]? = some x) : tokensOf (l.take x.2.2) = .ok (ts.take k) := by
  have hs := skip_le l
  have hlie := lexAt_lies _ _ _ _ (by rw [List.length_drop]; omega) h x (List.mem_of_getElem? hx)
  simp only [List.length_drop] at hlie
  have hc := lexAt_cut _ _ _ _ (by rw [List.length_drop]; omega) h k x hx
  unfold tokensOf
  have e1 : skip (l.take x.2.2) = skip l := by unfold skip; rw [skipS_take]; unfold skip at hlie; omega
  rw [e1, List.drop_take, List.length_take, lexAt_fuel _ (l.length + 1) _ _ (by rw [List.length_take, List.length_drop]; omega) (by rw [List.length_take, List.length_drop]; omega)]
  exact hc
end Lex
end Go.Proofs.YtdkmakdlojlacaaDoor
