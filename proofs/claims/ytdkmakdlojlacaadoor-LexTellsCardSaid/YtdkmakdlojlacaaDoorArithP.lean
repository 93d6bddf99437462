/- Plain arithmetic of 63-bit numbers, and of digits: no program in sight. -/
import Derived.RowKit
import Derived.Lib.ItoaNum
namespace Go.Proofs.YtdkmakdlojlacaaDoor
open Go.RowKit

/-- the number of 63 bits with the lowest 63 bits of v -/
def w63 (v : Int) : Int := wrap64 (v * 2) / 2

theorem w63_eq (v : Int) : w63 v = (v + 4611686018427387904) % 9223372036854775808 - 4611686018427387904 := by
  unfold w63 wrap64; omega
theorem w63_lo (v : Int) : -4611686018427387904 ≤ w63 v := by rw [w63_eq]; omega
theorem w63_hi (v : Int) : w63 v ≤ 4611686018427387903 := by rw [w63_eq]; omega
theorem w63_of {v : Int} (h1 : -4611686018427387904 ≤ v) (h2 : v ≤ 4611686018427387903) : w63 v = v := by rw [w63_eq]; omega
theorem w63_w63 (v : Int) : w63 (w63 v) = w63 v := w63_of (w63_lo v) (w63_hi v)
theorem w63_wrap64 (v : Int) : w63 (wrap64 v) = w63 v := by rw [w63_eq, w63_eq]; unfold wrap64; omega
theorem w63_congr {a b : Int} (h : a % 9223372036854775808 = b % 9223372036854775808) : w63 a = w63 b := by rw [w63_eq, w63_eq]; omega
theorem w63_mod (v : Int) : w63 v % 9223372036854775808 = v % 9223372036854775808 := by rw [w63_eq]; omega
theorem w63_add (a b : Int) : w63 (w63 a + w63 b) = w63 (a + b) := by
  apply w63_congr; have := w63_mod a; have := w63_mod b; omega
theorem w63_sub (a b : Int) : w63 (w63 a - w63 b) = w63 (a - b) := by
  apply w63_congr; have := w63_mod a; have := w63_mod b; omega
theorem w63_mul (a b : Int) : w63 (w63 a * w63 b) = w63 (a * b) := by
  apply w63_congr; rw [Int.mul_emod, w63_mod, w63_mod, ← Int.mul_emod]
theorem w63_zero : w63 0 = 0 := by decide
theorem w63_one : w63 1 = 1 := by decide

/-- what an op makes of two numbers -/
def ofV (op a b : Int) : Int :=
  if op = 12 then w63 (w63 a + w63 b)
  else if op = 13 then w63 (w63 a - w63 b)
  else if op = 14 then w63 (w63 a * w63 b)
  else if op = 15 then (if w63 b = 0 then 0 else w63 ((w63 a).tdiv (w63 b)))
  else if op = 16 then (if w63 b = 0 then 0 else (w63 a).tmod (w63 b))
  else if op = 17 then (if w63 a = w63 b then 1 else 0)
  else if op = 18 then (if w63 a < w63 b then 1 else 0)
  else 0
/-- whether there is any -/
def ofOK (op b : Int) : Bool := decide (12 ≤ op) && decide (op ≤ 18) && !((decide (op = 15) || decide (op = 16)) && decide (w63 b = 0))

theorem tmod_abs (a b : Int) : (a.tmod b).natAbs ≤ a.natAbs := by
  rw [Int.natAbs_tmod]; exact Nat.mod_le _ _
theorem tmod_nonpos {a : Int} (b : Int) (h : a ≤ 0) : a.tmod b ≤ 0 := by
  have h' : 0 ≤ -a := by omega
  have := Int.tmod_nonneg b h'
  rw [Int.neg_tmod] at this; omega
theorem tmod_in {a b : Int} (h1 : -4611686018427387904 ≤ a) (h2 : a ≤ 4611686018427387903) : -4611686018427387904 ≤ a.tmod b ∧ a.tmod b ≤ 4611686018427387903 := by
  have := tmod_abs a b
  rcases Int.le_total 0 a with h | h
  · have := Int.tmod_nonneg b h; omega
  · have := tmod_nonpos b h; omega
theorem w63_tmod (a b : Int) : w63 ((w63 a).tmod b) = (w63 a).tmod b := by
  have := tmod_in (b := b) (w63_lo a) (w63_hi a); exact w63_of this.1 this.2

/-- the number that digits spell -/
def dval (l : List UInt8) : Nat := l.foldl (fun a c => 10 * a + (c.toNat - 48)) 0
def allDigits (l : List UInt8) : Bool := l.all fun c => decide (48 ≤ c.toNat) && decide (c.toNat ≤ 57)
/-- whether a text is a number's, and which -/
def parseOK (l : List UInt8) : Bool := decide (1 ≤ l.length) && decide (l.length ≤ 19) && allDigits l && decide (dval l ≤ 4611686018427387903)
def parseV (l : List UInt8) : Int := if parseOK l then (dval l : Int) else 0

theorem dval_snoc (l : List UInt8) (c : UInt8) : dval (l ++ [c]) = 10 * dval l + (c.toNat - 48) := by simp [dval]
theorem snoc_ind {α : Type} {P : List α → Prop} (h0 : P []) (hs : ∀ l a, P l → P (l ++ [a])) (l : List α) : P l := by
  have : ∀ m : List α, P m.reverse := by
    intro m
    induction m with
    | nil => exact h0
    | cons a m ih => rw [List.reverse_cons]; exact hs _ _ ih
  simpa using this l.reverse
theorem dval_lt (l : List UInt8) (h : allDigits l = true) : dval l < 10 ^ l.length := by
  induction l using snoc_ind with
  | h0 => simp [dval]
  | hs l c ih =>
    rw [dval_snoc]
    simp only [allDigits, List.all_append, List.all_cons, List.all_nil, Bool.and_true, Bool.and_eq_true, decide_eq_true_eq] at h
    have := ih h.1
    simp only [List.length_append, List.length_singleton, Nat.pow_succ]
    omega
theorem allDigits_snoc (l : List UInt8) (c : UInt8) : allDigits (l ++ [c]) = (allDigits l && (decide (48 ≤ c.toNat) && decide (c.toNat ≤ 57))) := by simp [allDigits]

theorem dec_dval (n : Nat) : dval (Go.Lib.decDigits n) = n := by
  induction n using Nat.strongRecOn with
  | ind n ih =>
    unfold Go.Lib.decDigits
    split
    · rename_i h
      have : (UInt8.ofNat (48 + n)).toNat = 48 + n := by rw [UInt8.toNat_ofNat']; omega
      simp only [dval, List.foldl_cons, List.foldl_nil, this]; omega
    · rename_i h
      rw [dval_snoc, ih (n / 10) (by omega)]
      have : (UInt8.ofNat (48 + n % 10)).toNat = 48 + n % 10 := by rw [UInt8.toNat_ofNat']; omega
      omega
theorem dec_all (n : Nat) : allDigits (Go.Lib.decDigits n) = true := by
  induction n using Nat.strongRecOn with
  | ind n ih =>
    unfold Go.Lib.decDigits
    split
    · rename_i h
      have : (UInt8.ofNat (48 + n)).toNat = 48 + n := by rw [UInt8.toNat_ofNat']; omega
      simp only [allDigits, List.all_cons, List.all_nil, this, Bool.and_true, Bool.and_eq_true, decide_eq_true_eq]; omega
    · rename_i h
      rw [allDigits_snoc, ih (n / 10) (by omega)]
      have : (UInt8.ofNat (48 + n % 10)).toNat = 48 + n % 10 := by rw [UInt8.toNat_ofNat']; omega
      simp only [this, Bool.and_eq_true, decide_eq_true_eq, Bool.true_and]; omega
theorem dec_len (n : Nat) (k : Nat) (h : n < 10 ^ (k + 1)) : (Go.Lib.decDigits n).length ≤ k + 1 := by
  induction k generalizing n with
  | zero =>
    unfold Go.Lib.decDigits
    rw [dif_pos (by simpa using h)]; simp
  | succ k ih =>
    unfold Go.Lib.decDigits
    split
    · simp
    · rw [List.length_append, List.length_singleton]
      have := ih (n / 10) (by rw [Nat.pow_succ] at h; omega)
      omega
theorem dec_pos (n : Nat) : 1 ≤ (Go.Lib.decDigits n).length := by
  unfold Go.Lib.decDigits; split <;> simp

/-- the text of a number that is not below 0 is parsed as it; of another one it is not parsed -/
theorem parse_itoa {v : Int} (h1 : -4611686018427387904 ≤ v) (h2 : v ≤ 4611686018427387903) : parseOK (Go.Lib.itoa v) = decide (0 ≤ v) := by
  unfold Go.Lib.itoa
  split
  · rename_i h
    have : allDigits (45 :: Go.Lib.decDigits v.natAbs) = false := by simp [allDigits]
    simp [parseOK, this]; omega
  · rename_i h
    have a := dec_len v.toNat 18 (by omega)
    have b := dec_pos v.toNat
    have c := dec_all v.toNat
    have d := dec_dval v.toNat
    simp only [parseOK, c, d]
    have h3 : v.toNat ≤ 4611686018427387903 := by omega
    have h4 : 0 ≤ v := by omega
    have b' : (Go.Lib.decDigits v.toNat) ≠ [] := by intro e; rw [e] at b; simp at b
    simp [a, b, h3, h4]
theorem parseV_itoa {v : Int} (h0 : 0 ≤ v) (h2 : v ≤ 4611686018427387903) : parseV (Go.Lib.itoa v) = v := by
  have := parse_itoa (v := v) (by omega) h2
  unfold parseV
  rw [this]
  simp only [h0, decide_true, if_true]
  unfold Go.Lib.itoa
  rw [if_neg (by omega), dec_dval]; omega
theorem itoa_len {v : Int} (h1 : -4611686018427387904 ≤ v) (h2 : v ≤ 4611686018427387903) : (Go.Lib.itoa v).length ≤ 20 := by
  unfold Go.Lib.itoa
  split
  · have := dec_len v.natAbs 18 (by omega)
    simp only [List.length_cons]; omega
  · have := dec_len v.toNat 18 (by omega)
    omega
theorem itoa_inj {a b : Int} (h : Go.Lib.itoa a = Go.Lib.itoa b) : a = b := by
  unfold Go.Lib.itoa at h
  have no : ∀ n : Nat, (Go.Lib.decDigits n).head? ≠ some 45 := by
    intro n hn
    have c := dec_all n
    cases hl : Go.Lib.decDigits n with
    | nil => rw [hl] at hn; simp at hn
    | cons x l =>
      rw [hl] at hn c
      simp only [List.head?_cons, Option.some.injEq] at hn
      subst hn
      simp [allDigits] at c
  split at h <;> split at h
  · simp only [List.cons.injEq, true_and] at h
    have := congrArg dval h
    rw [dec_dval, dec_dval] at this; omega
  · exact absurd (by rw [← h]; rfl) (no b.toNat)
  · exact absurd (by rw [h]; rfl) (no a.toNat)
  · have := congrArg dval h
    rw [dec_dval, dec_dval] at this; omega

/-- what the quotient and what is left make -/
theorem quo_back {A B : Int} (hA : w63 A = A) : w63 (w63 (w63 (w63 (A.tdiv B)) * B) + A.tmod B) = A := by
  have h := Int.mul_tdiv_add_tmod A B
  have e : w63 (w63 (w63 (w63 (A.tdiv B)) * B) + A.tmod B) = w63 A := by
    apply w63_congr
    have h1 : w63 (w63 (w63 (A.tdiv B)) * B) % 9223372036854775808 = (A.tdiv B * B) % 9223372036854775808 := by
      rw [w63_mod, Int.mul_emod, w63_w63, w63_mod, ← Int.mul_emod]
    have h2 : (B * A.tdiv B + A.tmod B) % 9223372036854775808 = A % 9223372036854775808 := by rw [h]
    rw [Int.mul_comm (A.tdiv B) B] at h1
    omega
  rw [e, hA]
theorem tmod_less {A B : Int} (hB : B ≠ 0) : (A.tmod B).natAbs < B.natAbs := by
  rw [Int.natAbs_tmod]; exact Nat.mod_lt _ (by omega)
end Go.Proofs.YtdkmakdlojlacaaDoor
