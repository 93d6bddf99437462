/- Messages, in plain Lean: which may be, how many words they take. -/
import Derived.WalkKit
namespace Go.Proofs.Ytalfmlhiooaigaa
open Go Go.RowKit
/-- a cell -/
structure Cl where
  kind : Int
  tag : Int
  n : Int
  text : ByteArray
def celC (x : Cl) : List Value := [.int .i64 x.kind, .int .i64 x.tag, .int .i64 x.n, .string x.text]
/-- a number of 63 bits -/
def wrapW (v : Int) : Int := wrap64 (v * 2) / 2
def goodC (x : Cl) : Bool :=
  if x.kind = 0 then decide (x.tag = 0 ∧ x.n = wrapW x.n ∧ x.text.size = 0)
  else if x.kind = 1 then decide (x.text.size = 0 ∧ 0 ≤ x.tag ∧ x.tag ≤ 255 ∧ 1 ≤ x.n ∧ x.n ≤ 8)
  else if x.kind = 2 then decide (x.tag = 0 ∧ x.n = 0 ∧ x.text.size ≤ 400) else false
/-- how many wholes come beneath a cell -/
def wt (x : Cl) : Nat := if x.kind = 1 then x.n.toNat else 0
theorem wt_le {x : Cl} (h : goodC x = true) : wt x ≤ 8 := by
  unfold goodC at h
  unfold wt
  split
  · rename_i h1
    rw [if_neg (by omega), if_pos h1] at h
    have := of_decide_eq_true h
    omega
  · omega
def needs : List Cl → Nat → Bool
  | [], o => o == 0
  | x :: M, o => decide (o ≠ 0) && goodC x && needs M (o - 1 + wt x)
def goodM (M : List Cl) : Bool := decide (M.length ≤ 100) && needs M 1
def skp : List Cl → Nat → Nat → Int
  | [], l, at_ => if l = 0 then (at_ : Int) else -1
  | x :: M, l, at_ => if l = 0 then (at_ : Int) else skp M (l - 1 + wt x) (at_ + 1)
theorem skp_is : ∀ (M : List Cl) (l k : Nat), (∀ x ∈ M, goodC x = true) → (skp M l k == ((k + M.length : Nat) : Int)) = needs M l
  | [], l, k, _ => by
    unfold skp needs
    by_cases h : l = 0
    · subst h; simp
    · rw [if_neg h]
      have h1 : ((-1 : Int) == ((k + ([] : List Cl).length : Nat) : Int)) = false := beq_false_of_ne (by omega)
      rw [h1]; simp [h]
  | x :: M, l, k, hg => by
    unfold skp needs
    by_cases h : l = 0
    · rw [if_pos h]
      have h1 : ((k : Int) == ((k + (x :: M).length : Nat) : Int)) = false := beq_false_of_ne (by simp; omega)
      rw [h1]; simp [h]
    · have ih := skp_is M (l - 1 + wt x) (k + 1) (fun y hy => hg y (.tail _ hy))
      rw [if_neg h, ← ih, hg x (.head _)]
      simp [h]
      congr 1
      omega
theorem needs_all : ∀ (M : List Cl) (o : Nat), needs M o = true → ∀ x ∈ M, goodC x = true
  | [], _, _, x, hx => by cases hx
  | y :: M, o, h, x, hx => by
    unfold needs at h
    simp only [Bool.and_eq_true] at h
    rcases List.mem_cons.1 hx with rfl | hx
    · exact h.1.2
    · exact needs_all M _ h.2 x hx
theorem needs_step {x : Cl} {M : List Cl} {o : Nat} (ho : o ≠ 0) (hx : goodC x = true) : needs (x :: M) o = needs M (o - 1 + wt x) := by
  rw [needs, hx]; simp [ho]
theorem needs_bad {x : Cl} {M : List Cl} {o : Nat} (h : o = 0 ∨ goodC x = false) : needs (x :: M) o = false := by
  rw [needs]
  rcases h with h | h
  · simp [h]
  · simp [h]
theorem goodM_nil : goodM [] = false := by simp [goodM, needs]
/-- how many words a cell's object takes -/
def cw (x : Cl) : Nat := if x.kind = 1 then 1 + x.n.toNat else if x.kind = 2 then 1 + (x.text.size + 7) / 8 else 0
theorem cw_le {x : Cl} (h : goodC x = true) : cw x ≤ 51 := by
  unfold goodC at h
  unfold cw
  split
  · rename_i h1
    rw [if_neg (by omega), if_pos h1] at h
    have := of_decide_eq_true h
    omega
  · split
    · rename_i h1 h2
      rw [if_neg (by omega), if_neg h1, if_pos h2] at h
      have := of_decide_eq_true h
      omega
    · omega
def wsum (M : List Cl) : Nat := (M.map cw).sum
theorem wsum_take {M : List Cl} {k : Nat} {x : Cl} (h : M[k]? = some x) : wsum (M.take (k + 1)) = wsum (M.take k) + cw x := by
  have hk : k < M.length := (List.getElem?_eq_some_iff.1 h).1
  have hx : M[k] = x := (List.getElem?_eq_some_iff.1 h).2
  unfold wsum
  rw [List.take_succ_eq_append_getElem hk, List.map_append, hx]
  simp
theorem wsum_le : ∀ (M : List Cl), (∀ x ∈ M, goodC x = true) → wsum M ≤ 51 * M.length
  | [], _ => by simp [wsum]
  | x :: M, h => by
    have ih := wsum_le M (fun y hy => h y (.tail _ hy))
    have hx := cw_le (h x (.head _))
    unfold wsum at ih ⊢
    simp only [List.map_cons, List.sum_cons, List.length_cons]
    omega
theorem goodM_all {M : List Cl} (h : goodM M = true) : ∀ x ∈ M, goodC x = true := by
  unfold goodM at h
  simp only [Bool.and_eq_true] at h
  exact needs_all M 1 h.2
theorem goodM_len {M : List Cl} (h : goodM M = true) : 1 ≤ M.length ∧ M.length ≤ 100 := by
  have h2 := h
  unfold goodM at h
  simp only [Bool.and_eq_true] at h
  refine ⟨?_, of_decide_eq_true h.1⟩
  cases M with
  | nil => rw [goodM_nil] at h2; cases h2
  | cons x M => simp
theorem goodM_sum {M : List Cl} (h : goodM M = true) : wsum M ≤ 5100 := by
  have h1 := wsum_le M (goodM_all h)
  have h2 := (goodM_len h).2
  omega
end Go.Proofs.Ytalfmlhiooaigaa
