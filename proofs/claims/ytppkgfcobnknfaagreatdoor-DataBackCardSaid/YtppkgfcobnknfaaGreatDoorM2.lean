/- Proved here: the contracts and laws of ObjF, BoxP, DatL, DatP, DatQ, CodP, CodQ, DatF, DatG, PieceP, Pairs, Words of this claim, each beneath its own remark; conditions: those that each theorem names. -/
import Derived.Test.YtppkgfcobnknfaaGreatDoorM1
import Derived.Test.YtppkgfcobnknfaaGreatDoorProg
import Derived.WalkKit
import Derived.Deep.OwnRows
import Derived.Deep.QuietTactic
import Derived.BigQuiet
import Derived.Laws.StructEq
import Derived.Maps.OwnOps
import Derived.Lib.SliceRun
/- Words: numbers, places. -/
namespace Go.Proofs.YtppkgfcobnknfaaGreatDoor
open Go.RowKit
set_option maxHeartbeats 4000000
set_option maxRecDepth 100000
/-- a number of 64 bits -/
def W64 (x : Int) : Prop := 0 ≤ x ∧ x < 18446744073709551616
theorem and_one {x : Int} (h : W64 x) : bits .and .u64 x 1 = x % 2 := by
  obtain ⟨n, rfl⟩ := Int.eq_ofNat_of_zero_le h.1
  rw [show (1 : Int) = ((1 : Nat) : Int) from rfl, u64_and_nat n 1 (by have := h.2; omega) (by decide), Nat.and_one_is_mod]
  omega
theorem isInt_is {x : Int} (hx : W64 x) (w : World) : Calls Tryz.prog 41 #[.int .u64 x] w fun e w' => e = .returned (.bool (isIntW x)) ∧ w = w' := by
  have ha := and_one hx
  have hb : ((x % 2) == 1) = isIntW x := by unfold isIntW; rw [Bool.eq_iff_iff]; simp
  go_enter Tryz.func41, Tryz.ntmps41
  go_wp2
  go_ret
  exact ⟨by first | rfl | simp [ha, hb], rfl⟩
theorem refIsInt_is {x : Int} (hx : W64 x) (w : World) : Calls Tryz.prog 17 #[.int .u64 x] w fun e w' => e = .returned (.bool (isIntW x)) ∧ w = w' := by
  have hb : ((x % 2) == 1) = isIntW x := by unfold isIntW; rw [Bool.eq_iff_iff]; simp
  obtain ⟨h1, h2⟩ := hx
  go_enter Tryz.func17, Tryz.ntmps17
  go_wp2
  go_ret
  exact ⟨by first | rfl | simp [hb], rfl⟩
theorem at_is {x : Int} (hx : W64 x) (w : World) : Calls Tryz.prog 63 #[.int .u64 x] w fun e w' => e = .returned (if isIntW x = true ∨ 4294967296 ≤ x / 2 then .tuple #[.int .i64 0, .bool false] else .tuple #[.int .i64 (x / 2), .bool true]) ∧ w = w' := by
  have HI := Lib.hid (fun W => isInt_is hx W)
  cases hi : isIntW x with
  | true =>
    rw [hi] at HI
    rw [if_pos (.inl rfl)]
    clear hi
    go_enter Tryz.func63, Tryz.ntmps63
    go_wp2_with fail
    refine (HI.out _).mono ?_
    rintro e w1 ⟨rfl, rfl⟩
    go_wp2
    go_ret2
    exact ⟨rfl, rfl⟩
  | false =>
    rw [hi] at HI
    clear hi
    obtain ⟨h1, h2⟩ := hx
    by_cases hb : 4294967296 ≤ x / 2
    · have c1 : decide (4294967295 < x / 2) = true := decide_eq_true (by omega)
      rw [if_pos (.inr hb)]
      go_enter Tryz.func63, Tryz.ntmps63
      go_wp2_with fail
      refine (HI.out _).mono ?_
      rintro e w1 ⟨rfl, rfl⟩
      go_wp2
      go_ret2
      exact ⟨rfl, rfl⟩
    · have c1 : decide (4294967295 < x / 2) = false := decide_eq_false (by omega)
      have hc : ¬ (false = true ∨ 4294967296 ≤ x / 2) := by simp; omega
      rw [if_neg hc]
      have b3 : x / 2 < 4294967296 := by omega
      clear hb hc
      go_enter Tryz.func63, Tryz.ntmps63
      go_wp2_with fail
      refine (HI.out _).mono ?_
      rintro e w1 ⟨rfl, rfl⟩
      go_wp2
      go_ret2
      exact ⟨rfl, rfl⟩
theorem place_is {n : Nat} (hn : n ≤ 4294967295) (w : World) : Calls Tryz.prog 49 #[.int .i64 n] w fun e w' => e = .returned (.int .u64 ((2 * n : Nat) : Int)) ∧ w = w' := by
  go_enter Tryz.func49, Tryz.ntmps49
  go_wp2
  go_ret
  exact ⟨by show Ending.returned (.int .u64 ((n : Int) * 2)) = _; congr 2; omega, rfl⟩
end Go.Proofs.YtppkgfcobnknfaaGreatDoor
/- Messages, in plain Lean: which may be, how many words they take. -/
namespace Go.Proofs.YtppkgfcobnknfaaGreatDoor
open Go Go.RowKit
/-- a cell -/
structure Cl where
  kind : Int
  tag : Int
  n : Int
  text : ByteArray
def celC (x : Cl) : List Value := [.int .i64 x.kind, .int .i64 x.tag, .int .i64 x.n, .string x.text]
/-- a number of 63 bits -/
def wrapW (v : Int) : Int := wrap64 (v * 2) / 2
def goodC (x : Cl) : Bool :=
  if x.kind = 0 then decide (x.tag = 0 ∧ x.n = wrapW x.n ∧ x.text.size = 0)
  else if x.kind = 1 then decide (x.text.size = 0 ∧ 0 ≤ x.tag ∧ x.tag ≤ 255 ∧ 1 ≤ x.n ∧ x.n ≤ 8)
  else if x.kind = 2 then decide (x.tag = 0 ∧ x.n = 0 ∧ x.text.size ≤ 400) else false
/-- how many wholes come beneath a cell -/
def wt (x : Cl) : Nat := if x.kind = 1 then x.n.toNat else 0
theorem wt_le {x : Cl} (h : goodC x = true) : wt x ≤ 8 := by
  unfold goodC at h
  unfold wt
  split
  · rename_i h1
    rw [if_neg (by omega), if_pos h1] at h
    have := of_decide_eq_true h
    omega
  · omega
def needs : List Cl → Nat → Bool
  | [], o => o == 0
  | x :: M, o => decide (o ≠ 0) && goodC x && needs M (o - 1 + wt x)
def goodM (M : List Cl) : Bool := decide (M.length ≤ 100) && needs M 1
def skp : List Cl → Nat → Nat → Int
  | [], l, at_ => if l = 0 then (at_ : Int) else -1
  | x :: M, l, at_ => if l = 0 then (at_ : Int) else skp M (l - 1 + wt x) (at_ + 1)
theorem skp_is : ∀ (M : List Cl) (l k : Nat), (∀ x ∈ M, goodC x = true) → (skp M l k == ((k + M.length : Nat) : Int)) = needs M l
  | [], l, k, _ => by
    unfold skp needs
    by_cases h : l = 0
    · subst h; simp
    · rw [if_neg h]
      have h1 : ((-1 : Int) == ((k + ([] : List Cl).length : Nat) : Int)) = false := beq_false_of_ne (by omega)
      rw [h1]; simp [h]
  | x :: M, l, k, hg => by
    unfold skp needs
    by_cases h : l = 0
    · rw [if_pos h]
      have h1 : ((k : Int) == ((k + (x :: M).length : Nat) : Int)) = false := beq_false_of_ne (by simp; omega)
      rw [h1]; simp [h]
    · have ih := skp_is M (l - 1 + wt x) (k + 1) (fun y hy => hg y (.tail _ hy))
      rw [if_neg h, ← ih, hg x (.head _)]
      simp [h]
      congr 1
      omega
theorem needs_all : ∀ (M : List Cl) (o : Nat), needs M o = true → ∀ x ∈ M, goodC x = true
  | [], _, _, x, hx => by cases hx
  | y :: M, o, h, x, hx => by
    unfold needs at h
    simp only [Bool.and_eq_true] at h
    rcases List.mem_cons.1 hx with rfl | hx
    · exact h.1.2
    · exact needs_all M _ h.2 x hx
theorem needs_step {x : Cl} {M : List Cl} {o : Nat} (ho : o ≠ 0) (hx : goodC x = true) : needs (x :: M) o = needs M (o - 1 + wt x) := by
  rw [needs, hx]; simp [ho]
theorem needs_bad {x : Cl} {M : List Cl} {o : Nat} (h : o = 0 ∨ goodC x = false) : needs (x :: M) o = false := by
  rw [needs]
  rcases h with h | h
  · simp [h]
  · simp [h]
theorem goodM_nil : goodM [] = false := by simp [goodM, needs]
/-- how many words a cell's object takes -/
def cw (x : Cl) : Nat := if x.kind = 1 then 1 + x.n.toNat else if x.kind = 2 then 1 + (x.text.size + 7) / 8 else 0
theorem cw_le {x : Cl} (h : goodC x = true) : cw x ≤ 51 := by
  unfold goodC at h
  unfold cw
  split
  · rename_i h1
    rw [if_neg (by omega), if_pos h1] at h
    have := of_decide_eq_true h
    omega
  · split
    · rename_i h1 h2
      rw [if_neg (by omega), if_neg h1, if_pos h2] at h
      have := of_decide_eq_true h
      omega
    · omega
def wsum (M : List Cl) : Nat := (M.map cw).sum
theorem wsum_take {M : List Cl} {k : Nat} {x : Cl} (h : M[k]? = some x) : wsum (M.take (k + 1)) = wsum (M.take k) + cw x := by
  have hk : k < M.length := (List.getElem?_eq_some_iff.1 h).1
  have hx : M[k] = x := (List.getElem?_eq_some_iff.1 h).2
  unfold wsum
  rw [List.take_succ_eq_append_getElem hk, List.map_append, hx]
  simp
theorem wsum_le : ∀ (M : List Cl), (∀ x ∈ M, goodC x = true) → wsum M ≤ 51 * M.length
  | [], _ => by simp [wsum]
  | x :: M, h => by
    have ih := wsum_le M (fun y hy => h y (.tail _ hy))
    have hx := cw_le (h x (.head _))
    unfold wsum at ih ⊢
    simp only [List.map_cons, List.sum_cons, List.length_cons]
    omega
theorem goodM_all {M : List Cl} (h : goodM M = true) : ∀ x ∈ M, goodC x = true := by
  unfold goodM at h
  simp only [Bool.and_eq_true] at h
  exact needs_all M 1 h.2
theorem goodM_len {M : List Cl} (h : goodM M = true) : 1 ≤ M.length ∧ M.length ≤ 100 := by
  have h2 := h
  unfold goodM at h
  simp only [Bool.and_eq_true] at h
  refine ⟨?_, of_decide_eq_true h.1⟩
  cases M with
  | nil => rw [goodM_nil] at h2; cases h2
  | cons x M => simp
theorem goodM_sum {M : List Cl} (h : goodM M = true) : wsum M ≤ 5100 := by
  have h1 := wsum_le M (goodM_all h)
  have h2 := (goodM_len h).2
  omega
end Go.Proofs.YtppkgfcobnknfaaGreatDoor
/- Numbers' words: word.Int, word.Value. -/
namespace Go.Proofs.YtppkgfcobnknfaaGreatDoor
open Go Go.RowKit
set_option maxHeartbeats 4000000
set_option maxRecDepth 100000
/-- a number's word -/
def numW (v : Int) : Int := (2 * v) % 18446744073709551616 + 1
/-- a word's number -/
def valW (x : Int) : Int := wrap64 x / 2
theorem numW_w64 (v : Int) : W64 (numW v) := by unfold numW W64; omega
theorem numW_int (v : Int) : isIntW (numW v) = true := by unfold numW isIntW; exact decide_eq_true (by omega)
theorem val_num {n : Int} (h : n = wrapW n) : valW (numW n) = n := by
  unfold valW numW
  unfold wrapW at h
  unfold wrap64 at *
  omega
theorem num_bits (v : Int) : bits .or .u64 (IntKind.u64.wrap (IntKind.u64.wrap v * 2)) 1 = numW v := by
  have e : IntKind.u64.wrap (IntKind.u64.wrap v * 2) = (2 * v) % 18446744073709551616 := by
    have hw : ∀ x, IntKind.u64.wrap x = x % 18446744073709551616 := fun x => by
      simp [IntKind.wrap, IntKind.signed, IntKind.bits]
    rw [hw, hw]
    omega
  obtain ⟨b, hb⟩ := Int.eq_ofNat_of_zero_le (show 0 ≤ (2 * v) % 18446744073709551616 by omega)
  rw [e, hb]
  have h := or_apart' 1 1 b (by decide) (by omega) (by omega) (by omega)
  rw [show (1 : Int) = ((1 : Nat) : Int) from rfl, h]
  unfold numW
  omega
theorem wint_is (v : Int) (w : World) : Calls Tryz.prog 59 #[.int .i64 v] w fun e w' => e = .returned (.int .u64 (numW v)) ∧ w = w' := by
  rw [← num_bits]
  go_enter Tryz.func59, Tryz.ntmps59
  go_wp2
  go_ret
  exact ⟨rfl, rfl⟩
theorem value_is {x : Int} (hx : W64 x) (hi : isIntW x = true) (w : World) : Calls Tryz.prog 42 #[.int .u64 x] w fun e w' => e = .returned (.int .i64 (valW x)) ∧ Ext w w' := by
  have HI := Lib.hid (fun W => isInt_is hx W)
  rw [hi] at HI
  clear hi
  go_enter Tryz.func42, Tryz.ntmps42
  go_wp2_with fail
  refine (HI.out _).mono ?_
  rintro e w1 ⟨rfl, rfl⟩
  go_wp2_with fail
  go_ret
  exact ⟨rfl, Ext.alloc _ _⟩
end Go.Proofs.YtppkgfcobnknfaaGreatDoor
/- Data, in plain Lean: wholes one behind the other (DataPairs). -/
namespace Go.Proofs.YtppkgfcobnknfaaGreatDoor
open Go Go.RowKit
theorem needs_cons {x : Cl} {M : List Cl} {o : Nat} (h : needs (x :: M) o = true) : o ≠ 0 ∧ goodC x = true ∧ needs M (o - 1 + wt x) = true := by
  rw [needs] at h
  simp only [Bool.and_eq_true, decide_eq_true_eq] at h
  exact ⟨h.1.1, h.1.2, h.2⟩
/-- behind so many wholes the rest is asked for -/
theorem needs_app {B : List Cl} : ∀ (A : List Cl) (o r : Nat), needs A o = true → needs (A ++ B) (o + r) = needs B r
  | [], o, r, h => by
    have : o = 0 := by simpa [needs] using h
    subst this
    simp
  | x :: A, o, r, h => by
    obtain ⟨h1, h2, h3⟩ := needs_cons h
    rw [List.cons_append, needs_step (by omega) h2]
    have e : o + r - 1 + wt x = (o - 1 + wt x) + r := by omega
    rw [e]
    exact needs_app A _ r h3
/-- no shorter row will do -/
theorem needs_short : ∀ (M : List Cl) (o k : Nat), needs M o = true → k < M.length → needs (M.take k) o = false
  | [], _, k, _, hk => absurd hk (by simp)
  | x :: M, o, 0, h, _ => by
    obtain ⟨h1, _⟩ := needs_cons h
    simp [needs, h1]
  | x :: M, o, k + 1, h, hk => by
    obtain ⟨h1, h2, h3⟩ := needs_cons h
    rw [List.take_succ_cons, needs_step h1 h2]
    exact needs_short M _ k h3 (by simpa using hk)
theorem needs_zero {x : Cl} {M : List Cl} : needs (x :: M) 0 = false := needs_bad (.inl rfl)
theorem goodM_some {M : List Cl} (h : goodM M = true) : M.length ≤ 100 ∧ needs M 1 = true ∧ M ≠ [] := by
  unfold goodM at h
  simp only [Bool.and_eq_true, decide_eq_true_eq] at h
  refine ⟨h.1, h.2, ?_⟩
  rintro rfl
  simp [needs] at h
theorem goodM_of {M : List Cl} (hl : M.length ≤ 100) : goodM M = needs M 1 := by
  unfold goodM
  rw [decide_eq_true hl, Bool.true_and]
/-- a Block of two wholes -/
def pairM (A B : List Cl) : List Cl := ⟨1, 3, 2, ByteArray.empty⟩ :: (A ++ B)
theorem pair_head : goodC ⟨1, 3, 2, ByteArray.empty⟩ = true := by decide
theorem pair_needs {A B C : List Cl} (ha : goodM A = true) (hb : goodM B = true) : needs (pairM A B ++ C) 1 = needs C 0 := by
  obtain ⟨_, a2, _⟩ := goodM_some ha
  obtain ⟨_, b2, _⟩ := goodM_some hb
  unfold pairM
  rw [List.cons_append, needs_step (by decide) pair_head, List.append_assoc]
  show needs (A ++ (B ++ C)) (1 + 1) = _
  rw [needs_app A 1 1 a2]
  exact needs_app B 1 0 b2
theorem pair_good {A B : List Cl} (ha : goodM A = true) (hb : goodM B = true) (hl : A.length + B.length < 100) : goodM (pairM A B) = true := by
  rw [goodM_of (by unfold pairM; simp; omega)]
  have := pair_needs (C := []) ha hb
  rw [List.append_nil] at this
  rw [this]
  rfl
theorem wsum_app (A B : List Cl) : wsum (A ++ B) = wsum A + wsum B := by unfold wsum; rw [List.map_append, List.sum_append]
theorem pair_words (A B : List Cl) : wsum (pairM A B) = 3 + wsum A + wsum B := by
  have h : wsum (pairM A B) = cw ⟨1, 3, 2, ByteArray.empty⟩ + wsum (A ++ B) := by unfold pairM wsum; rw [List.map_cons, List.sum_cons]
  rw [h, wsum_app]
  show 3 + _ = _
  omega
theorem pair_short {A B : List Cl} (ha : goodM A = true) (hb : goodM B = true) (hl : A.length + B.length < 100) : goodM ((pairM A B).take ((pairM A B).length - 1)) = false := by
  obtain ⟨h1, h2, _⟩ := goodM_some (pair_good ha hb hl)
  rw [goodM_of (by rw [List.length_take]; omega)]
  exact needs_short _ _ _ h2 (by unfold pairM; simp)
theorem pair_tail {A B : List Cl} (ha : goodM A = true) (hb : goodM B = true) (hl : A.length + B.length < 100) : goodM (A ++ B) = false := by
  obtain ⟨_, a2, _⟩ := goodM_some ha
  obtain ⟨_, _, b3⟩ := goodM_some hb
  rw [goodM_of (by rw [List.length_append]; omega)]
  have := needs_app (B := B) A 1 0 a2
  rw [Nat.add_zero] at this
  rw [this]
  cases B with
  | nil => exact absurd rfl b3
  | cons y B => exact needs_zero
theorem pair_more {A B : List Cl} (ha : goodM A = true) (hb : goodM B = true) (x : Cl) : goodM (pairM A B ++ [x]) = false := by
  unfold goodM
  rw [pair_needs ha hb, needs_zero, Bool.and_false]
end Go.Proofs.YtppkgfcobnknfaaGreatDoor
/- Data, in plain Lean: where a whole ends, and the wholes beneath a Block. -/
namespace Go.Proofs.YtppkgfcobnknfaaGreatDoor
open Go Go.RowKit
/-- so many wholes, and the rest -/
theorem needs_split : ∀ (M : List Cl) (a b : Nat), needs M (a + b) = true → ∃ A B, M = A ++ B ∧ needs A a = true ∧ needs B b = true
  | M, 0, b, h => ⟨[], M, rfl, rfl, by rwa [Nat.zero_add] at h⟩
  | [], a + 1, b, h => by simp [needs] at h
  | x :: M, a + 1, b, h => by
    obtain ⟨_, h2, h3⟩ := needs_cons h
    have e : a + 1 + b - 1 + wt x = (a + wt x) + b := by omega
    rw [e] at h3
    obtain ⟨A, B, rfl, hA, hB⟩ := needs_split M (a + wt x) b h3
    exact ⟨x :: A, B, rfl, by rw [needs_step (by omega) h2, Nat.add_sub_cancel]; exact hA, hB⟩
theorem skp_zero (M : List Cl) (k : Nat) : skp M 0 k = (k : Int) := by
  cases M <;> simp [skp]
/-- behind so many wholes -/
theorem skp_app {B : List Cl} : ∀ (A : List Cl) (l k : Nat), needs A l = true → skp (A ++ B) l k = ((k + A.length : Nat) : Int)
  | [], l, k, h => by
    have : l = 0 := by simpa [needs] using h
    subst this
    rw [List.nil_append, skp_zero]
    simp
  | x :: A, l, k, h => by
    obtain ⟨h1, h2, h3⟩ := needs_cons h
    rw [List.cons_append, skp, if_neg h1, skp_app A _ (k + 1) h3]
    rw [List.length_cons]
    congr 1
    omega
/-- how many cells the first whole takes -/
def firstL : List Cl → Nat → Nat
  | [], _ => 0
  | x :: M, l => if l = 0 then 0 else 1 + firstL M (l - 1 + wt x)
theorem firstL_app {B : List Cl} : ∀ (A : List Cl) (l : Nat), needs A l = true → firstL (A ++ B) l = A.length
  | [], l, h => by
    have : l = 0 := by simpa [needs] using h
    subst this
    cases B <;> simp [firstL]
  | x :: A, l, h => by
    obtain ⟨h1, h2, h3⟩ := needs_cons h
    rw [List.cons_append, firstL, if_neg h1, firstL_app A _ h3, List.length_cons]
    omega
/-- where the whole at a cell ends -/
def nxt (M : List Cl) (k : Nat) : Nat := k + firstL (M.drop k) 1
/-- the cells where so many wholes begin, from one on -/
def kids (M : List Cl) : Nat → Nat → List Nat
  | _, 0 => []
  | k, n + 1 => k :: kids M (nxt M k) n
theorem kids_len (M : List Cl) : ∀ n k, (kids M k n).length = n
  | 0, _ => rfl
  | n + 1, k => by rw [kids, List.length_cons, kids_len M n]
/-- from a cell on so many wholes are to come -/
def At (M : List Cl) (k o : Nat) : Prop := k ≤ M.length ∧ needs (M.drop k) o = true
theorem At.first {M : List Cl} (h : goodM M = true) : At M 0 1 := ⟨Nat.zero_le _, (goodM_some h).2.1⟩
theorem At.cell {M : List Cl} {k o : Nat} (h : At M k (o + 1)) : ∃ x, M[k]? = some x ∧ goodC x = true ∧ At M (k + 1) (o + wt x) := by
  obtain ⟨h1, h2⟩ := h
  by_cases hk : k < M.length
  · rw [List.drop_eq_getElem_cons hk] at h2
    obtain ⟨_, h4, h5⟩ := needs_cons h2
    exact ⟨M[k], List.getElem?_eq_getElem hk, h4, hk, by rwa [Nat.add_sub_cancel] at h5⟩
  · rw [List.drop_eq_nil_of_le (by omega)] at h2
    simp [needs] at h2
/-- behind a whole one less is to come -/
theorem At.next {M : List Cl} {k o : Nat} (h : At M k (o + 1)) : At M (nxt M k) o ∧ k < nxt M k ∧ skp (M.drop k) 1 k = ((nxt M k : Nat) : Int) := by
  obtain ⟨h1, h2⟩ := h
  rw [Nat.add_comm] at h2
  obtain ⟨A, B, e, hA, hB⟩ := needs_split _ 1 o h2
  have hf : firstL (M.drop k) 1 = A.length := by rw [e]; exact firstL_app A 1 hA
  have hn : nxt M k = k + A.length := by unfold nxt; rw [hf]
  have hd : M.drop (k + A.length) = B := by
    rw [← List.drop_drop, e, List.drop_left]
  have hl : A.length + B.length + k = M.length := by
    have := congrArg List.length e
    rw [List.length_drop, List.length_append] at this
    omega
  have hpos : 0 < A.length := by
    cases A with
    | nil => simp [needs] at hA
    | cons _ _ => simp
  refine ⟨⟨by omega, by rw [hn, hd]; exact hB⟩, by omega, ?_⟩
  rw [e, skp_app A 1 k hA, hn]
end Go.Proofs.YtppkgfcobnknfaaGreatDoor
/- Programs, in plain Lean: which may be, as the program tells it and as the reference does. -/
namespace Go.Proofs.YtppkgfcobnknfaaGreatDoor
open Go Go.RowKit
set_option maxRecDepth 100000
/-- an instruction -/
structure In1 where
  op : Int
  a : Int
  b : Int
/-- from where to where A and B may be -/
def bnd (op : Int) : Int × Int × Int × Int :=
  if op = 0 ∨ op = 21 then (-4611686018427387904, 4611686018427387903, 0, 0)
  else if op = 1 then (0, 39, 0, 0) else if op = 2 ∨ op = 3 then (0, 59, 0, 0) else if op = 4 then (0, 29, 0, 0)
  else if op = 6 then (1, 59, 0, 30) else if op = 10 ∨ op = 11 ∨ op = 33 then (0, 599, 0, 0) else if op = 19 then (0, 255, 1, 8)
  else if op = 20 then (0, 7, 0, 0) else if op = 22 then (0, 255, 0, 0) else if op = 36 then (0, 3, 0, 39) else (0, 0, 0, 0)
def inB (v lo hi : Int) : Bool := decide (lo ≤ v) && decide (v ≤ hi)
/-- as the program has it -/
def goodI (i : In1) : Bool :=
  decide (0 ≤ i.op) && decide (i.op < 38) && !(decide (i.op = 36) && decide (i.a ≠ 3) && decide (i.b ≠ 0)) && inB i.a (bnd i.op).1 (bnd i.op).2.1 && inB i.b (bnd i.op).2.2.1 (bnd i.op).2.2.2
/-- as the reference has it -/
def refI (i : In1) : Bool :=
  if i.op = 0 ∨ i.op = 21 then decide (i.b = 0) && inB i.a (-4611686018427387904) 4611686018427387903
  else if i.op = 1 then decide (i.b = 0) && inB i.a 0 39
  else if i.op = 2 ∨ i.op = 3 then decide (i.b = 0) && inB i.a 0 59
  else if i.op = 4 then decide (i.b = 0) && inB i.a 0 29
  else if i.op = 6 then inB i.a 1 59 && inB i.b 0 30
  else if i.op = 10 ∨ i.op = 11 ∨ i.op = 33 then decide (i.b = 0) && inB i.a 0 599
  else if i.op = 19 then inB i.a 0 255 && inB i.b 1 8
  else if i.op = 20 then decide (i.b = 0) && inB i.a 0 7
  else if i.op = 22 then decide (i.b = 0) && inB i.a 0 255
  else if i.op = 36 then inB i.a 0 3 && (decide (i.b = 0) || decide (i.a = 3) && inB i.b 0 39)
  else decide (0 ≤ i.op) && decide (i.op < 38) && decide (i.a = 0) && decide (i.b = 0)
theorem refI_is (i : In1) : refI i = goodI i := by
  obtain ⟨op, a, b⟩ := i
  unfold refI goodI bnd inB
  dsimp only
  by_cases h0 : op = 0 ∨ op = 21
  · simp only [if_pos h0]
    rw [Bool.eq_iff_iff]
    simp only [Bool.and_eq_true, decide_eq_true_eq, Bool.not_eq_true', Bool.and_eq_false_iff, decide_eq_false_iff_not]
    omega
  simp only [if_neg h0]
  by_cases h1 : op = 1
  · simp only [if_pos h1]
    rw [Bool.eq_iff_iff]
    simp only [Bool.and_eq_true, decide_eq_true_eq, Bool.not_eq_true', Bool.and_eq_false_iff, decide_eq_false_iff_not]
    omega
  simp only [if_neg h1]
  by_cases h2 : op = 2 ∨ op = 3
  · simp only [if_pos h2]
    rw [Bool.eq_iff_iff]
    simp only [Bool.and_eq_true, decide_eq_true_eq, Bool.not_eq_true', Bool.and_eq_false_iff, decide_eq_false_iff_not]
    omega
  simp only [if_neg h2]
  by_cases h3 : op = 4
  · simp only [if_pos h3]
    rw [Bool.eq_iff_iff]
    simp only [Bool.and_eq_true, decide_eq_true_eq, Bool.not_eq_true', Bool.and_eq_false_iff, decide_eq_false_iff_not]
    omega
  simp only [if_neg h3]
  by_cases h4 : op = 6
  · simp only [if_pos h4]
    rw [Bool.eq_iff_iff]
    simp only [Bool.and_eq_true, decide_eq_true_eq, Bool.not_eq_true', Bool.and_eq_false_iff, decide_eq_false_iff_not]
    omega
  simp only [if_neg h4]
  by_cases h5 : op = 10 ∨ op = 11 ∨ op = 33
  · simp only [if_pos h5]
    rw [Bool.eq_iff_iff]
    simp only [Bool.and_eq_true, decide_eq_true_eq, Bool.not_eq_true', Bool.and_eq_false_iff, decide_eq_false_iff_not]
    omega
  simp only [if_neg h5]
  by_cases h6 : op = 19
  · simp only [if_pos h6]
    rw [Bool.eq_iff_iff]
    simp only [Bool.and_eq_true, decide_eq_true_eq, Bool.not_eq_true', Bool.and_eq_false_iff, decide_eq_false_iff_not]
    omega
  simp only [if_neg h6]
  by_cases h7 : op = 20
  · simp only [if_pos h7]
    rw [Bool.eq_iff_iff]
    simp only [Bool.and_eq_true, decide_eq_true_eq, Bool.not_eq_true', Bool.and_eq_false_iff, decide_eq_false_iff_not]
    omega
  simp only [if_neg h7]
  by_cases h8 : op = 22
  · simp only [if_pos h8]
    rw [Bool.eq_iff_iff]
    simp only [Bool.and_eq_true, decide_eq_true_eq, Bool.not_eq_true', Bool.and_eq_false_iff, decide_eq_false_iff_not]
    omega
  simp only [if_neg h8]
  by_cases h9 : op = 36
  · simp only [if_pos h9]
    rw [Bool.eq_iff_iff]
    simp only [Bool.and_eq_true, Bool.or_eq_true, decide_eq_true_eq, Bool.not_eq_true', Bool.and_eq_false_iff, decide_eq_false_iff_not]
    omega
  simp only [if_neg h9]
  rw [Bool.eq_iff_iff]
  simp only [Bool.and_eq_true, decide_eq_true_eq, Bool.not_eq_true', Bool.and_eq_false_iff, decide_eq_false_iff_not]
  omega
/-- a form -/
structure Fo where
  kind : Int
  a : Int
  b : Int
  cons : List Int
/-- as the program has it: of so many -/
def goodFo (f : Fo) (n : Int) : Bool :=
  f.cons.all (fun c => inB c (-1) (n - 1)) && inB f.kind 1 7 && inB f.a 0 (if f.kind = 5 ∨ f.kind = 6 then n - 1 else 0) && inB f.b 0 (if f.kind = 5 then n - 1 else 0) && inB f.cons.length (if f.kind = 7 then 1 else 0) (if f.kind = 7 then 20 else 0)
/-- as the reference has it -/
def refFo (f : Fo) (n : Int) : Bool :=
  if f.kind = 1 ∨ f.kind = 2 ∨ f.kind = 3 ∨ f.kind = 4 then decide (f.a = 0) && decide (f.b = 0) && decide (f.cons.length = 0)
  else if f.kind = 5 then decide (0 ≤ f.a ∧ f.a < n) && decide (0 ≤ f.b ∧ f.b < n) && decide (f.cons.length = 0)
  else if f.kind = 6 then decide (0 ≤ f.a ∧ f.a < n) && decide (f.b = 0) && decide (f.cons.length = 0)
  else if f.kind = 7 then decide (f.a = 0) && decide (f.b = 0) && (decide (1 ≤ f.cons.length ∧ f.cons.length ≤ 20) && f.cons.all fun c => decide (-1 ≤ c) && decide (c < n))
  else false
theorem cons_nil {f : Fo} {n : Int} (h : f.cons.length = 0) : f.cons.all (fun c => inB c (-1) (n - 1)) = true := by
  rw [List.eq_nil_of_length_eq_zero h]; rfl
theorem refFo_is (f : Fo) (n : Int) : refFo f n = goodFo f n := by
  unfold refFo goodFo
  have hall : (f.cons.all fun c => decide (-1 ≤ c) && decide (c < n)) = f.cons.all (fun c => inB c (-1) (n - 1)) := by
    congr 1
    funext c
    unfold inB
    congr 1
    exact decide_eq_decide.2 (by omega)
  rw [hall]
  have hn := fun h => cons_nil (f := f) (n := n) h
  unfold inB at *
  generalize (f.cons.all fun c => decide (-1 ≤ c) && decide (c ≤ n - 1)) = A at *
  obtain ⟨kind, a, b, cons⟩ := f
  dsimp only at *
  generalize cons.length = L at *
  by_cases h1 : kind = 1 ∨ kind = 2 ∨ kind = 3 ∨ kind = 4
  · rw [if_pos h1, if_neg (by omega), if_neg (by omega), if_neg (by omega), if_neg (by omega), Bool.eq_iff_iff]
    simp only [Bool.and_eq_true, decide_eq_true_eq]
    constructor
    · rintro ⟨⟨h2, h3⟩, h4⟩
      exact ⟨⟨⟨⟨hn h4, by omega⟩, by omega⟩, by omega⟩, by omega⟩
    · rintro ⟨⟨⟨⟨_, _⟩, _⟩, _⟩, _⟩
      omega
  rw [if_neg h1]
  by_cases h5 : kind = 5
  · rw [if_pos h5, if_pos (.inl h5), if_pos h5, if_neg (by omega), if_neg (by omega), Bool.eq_iff_iff]
    simp only [Bool.and_eq_true, decide_eq_true_eq]
    constructor
    · rintro ⟨⟨h2, h3⟩, h4⟩
      exact ⟨⟨⟨⟨hn h4, by omega⟩, by omega⟩, by omega⟩, by omega⟩
    · rintro ⟨⟨⟨⟨_, _⟩, _⟩, _⟩, _⟩
      omega
  rw [if_neg h5]
  by_cases h6 : kind = 6
  · rw [if_pos h6, if_pos (.inr h6), if_neg h5, if_neg (by omega), if_neg (by omega), Bool.eq_iff_iff]
    simp only [Bool.and_eq_true, decide_eq_true_eq]
    constructor
    · rintro ⟨⟨h2, h3⟩, h4⟩
      exact ⟨⟨⟨⟨hn h4, by omega⟩, by omega⟩, by omega⟩, by omega⟩
    · rintro ⟨⟨⟨⟨_, _⟩, _⟩, _⟩, _⟩
      omega
  rw [if_neg h6]
  by_cases h7 : kind = 7
  · rw [if_pos h7, if_neg (by omega), if_neg h5, if_pos h7, if_pos h7, Bool.eq_iff_iff]
    simp only [Bool.and_eq_true, decide_eq_true_eq]
    constructor
    · rintro ⟨⟨h2, h3⟩, h4, h8⟩
      exact ⟨⟨⟨⟨h8, by omega⟩, by omega⟩, by omega⟩, by omega⟩
    · rintro ⟨⟨⟨⟨h8, _⟩, _⟩, _⟩, _⟩
      exact ⟨⟨by omega, by omega⟩, by omega, h8⟩
  rw [if_neg h7]
  symm
  rw [Bool.eq_false_iff]
  intro h
  simp only [Bool.and_eq_true, decide_eq_true_eq] at h
  omega
end Go.Proofs.YtppkgfcobnknfaaGreatDoor
/- Programs, in plain Lean: which may be (functions, texts, forms). -/
namespace Go.Proofs.YtppkgfcobnknfaaGreatDoor
open Go Go.RowKit
set_option maxRecDepth 100000
/-- a function -/
structure Fn where
  locals : Int
  free : Int
  code : List In1
/-- a program -/
structure Pg where
  funcs : List Fn
  strs : List ByteArray
  forms : List Fo
/-- as the program has it -/
def goodFn (f : Fn) (first : Bool) : Bool :=
  f.code.all goodI && inB f.locals (if first then 0 else 1) 60 && inB f.free 0 (if first then 0 else 30) && inB f.code.length 1 600
def goodFns : List Fn → Bool → Bool
  | [], _ => true
  | f :: F, first => goodFn f first && goodFns F false
def goodP (p : Pg) : Bool :=
  inB p.funcs.length 1 60 && decide (p.strs.length ≤ 40) && decide (p.forms.length ≤ 40) && goodFns p.funcs true && p.strs.all (fun s => decide (s.size ≤ 60)) && p.forms.all fun f => goodFo f p.forms.length
/-- as the reference has it -/
def refFn (f : Fn) (i : Nat) : Bool :=
  decide (((min i 1 : Nat) : Int) ≤ f.locals) && decide (f.locals ≤ 60) && decide (0 ≤ f.free) && decide (f.free ≤ 30) && !(decide (i = 0) && decide (f.free ≠ 0)) && decide (1 ≤ f.code.length) && decide (f.code.length ≤ 600) && f.code.all refI
def refFns : List Fn → Nat → Bool
  | [], _ => true
  | f :: F, i => refFn f i && refFns F (i + 1)
def refForms (l : List Fo) : Bool := (l.all fun f => refFo f l.length) && decide (l.length ≤ 40)
def refP (p : Pg) : Bool :=
  decide (1 ≤ p.funcs.length) && decide (p.funcs.length ≤ 60) && decide (p.strs.length ≤ 40) && refForms p.forms && p.strs.all (fun s => decide (s.size ≤ 60)) && refFns p.funcs 0
theorem refFn_is (f : Fn) (i : Nat) : refFn f i = goodFn f (decide (i = 0)) := by
  unfold refFn goodFn
  have hI : f.code.all refI = f.code.all goodI := by congr 1; funext x; exact refI_is x
  rw [hI]
  unfold inB
  generalize f.code.all goodI = A
  generalize f.code.length = L
  rw [Bool.eq_iff_iff]
  by_cases h : i = 0
  · subst h
    simp only [Bool.and_eq_true, decide_eq_true_eq, Bool.not_eq_true', Bool.and_eq_false_iff, decide_eq_false_iff_not, if_true, decide_true]
    constructor
    · rintro ⟨⟨⟨⟨⟨⟨⟨h1, h2⟩, h3⟩, h4⟩, h5⟩, h6⟩, h7⟩, h8⟩
      have h9 : f.free = 0 := by
        rcases h5 with h5 | h5
        · cases h5
        · omega
      exact ⟨⟨⟨h8, by omega⟩, by omega⟩, by omega⟩
    · rintro ⟨⟨⟨h8, h1⟩, h2⟩, h3⟩
      exact ⟨⟨⟨⟨⟨⟨⟨by omega, by omega⟩, by omega⟩, by omega⟩, .inr (by omega)⟩, by omega⟩, by omega⟩, h8⟩
  · have hm : min i 1 = 1 := by omega
    have hd : decide (i = 0) = false := decide_eq_false h
    rw [hm, hd]
    simp only [Bool.and_eq_true, decide_eq_true_eq, Bool.not_eq_true', Bool.false_and, Bool.false_eq_true, if_false]
    constructor
    · rintro ⟨⟨⟨⟨⟨⟨⟨h1, h2⟩, h3⟩, h4⟩, h5⟩, h6⟩, h7⟩, h8⟩
      exact ⟨⟨⟨h8, by omega⟩, by omega⟩, by omega⟩
    · rintro ⟨⟨⟨h8, h1⟩, h2⟩, h3⟩
      exact ⟨⟨⟨⟨⟨⟨⟨by omega, by omega⟩, by omega⟩, by omega⟩, by trivial⟩, by omega⟩, by omega⟩, h8⟩
theorem refFns_next : ∀ (F : List Fn) (i : Nat), refFns F (i + 1) = goodFns F false
  | [], _ => rfl
  | f :: F, i => by
    rw [refFns, goodFns, refFn_is, refFns_next F (i + 1), decide_eq_false (by omega)]
theorem refFns_is (F : List Fn) : refFns F 0 = goodFns F true := by
  cases F with
  | nil => rfl
  | cons f F => rw [refFns, goodFns, refFn_is, refFns_next F 0, decide_eq_true rfl]
theorem refForms_is (l : List Fo) : refForms l = ((l.all fun f => goodFo f l.length) && decide (l.length ≤ 40)) := by
  unfold refForms
  congr 1
  congr 1
  funext f
  exact refFo_is f _
/-- both tell the same programs -/
theorem refP_is (p : Pg) : refP p = goodP p := by
  unfold refP goodP
  rw [refForms_is, refFns_is]
  unfold inB
  generalize goodFns p.funcs true = A
  generalize (p.forms.all fun f => goodFo f p.forms.length) = B
  generalize (p.strs.all fun s => decide (s.size ≤ 60)) = C
  have e1 : decide ((1 : Int) ≤ (p.funcs.length : Int)) = decide (1 ≤ p.funcs.length) := decide_eq_decide.2 (by omega)
  have e2 : decide ((p.funcs.length : Int) ≤ 60) = decide (p.funcs.length ≤ 60) := decide_eq_decide.2 (by omega)
  rw [e1, e2]
  generalize decide (1 ≤ p.funcs.length) = x1
  generalize decide (p.funcs.length ≤ 60) = x2
  generalize decide (p.strs.length ≤ 40) = x3
  generalize decide (p.forms.length ≤ 40) = x4
  cases x1 <;> cases x2 <;> cases x3 <;> cases x4 <;> cases A <;> cases B <;> cases C <;> rfl
end Go.Proofs.YtppkgfcobnknfaaGreatDoor
/- Data, in plain Lean: which form a whole fits, as the reference has it and as the program does. -/
namespace Go.Proofs.YtppkgfcobnknfaaGreatDoor
open Go Go.RowKit
set_option maxRecDepth 100000
/-- does the whole at a cell fit a form (the first number: how many steps) -/
def fitsB (F : List Fo) (M : List Cl) : Nat → Nat → Nat → Bool
  | 0, _, _ => false
  | s + 1, k, at_ =>
    match F[k]?, M[at_]? with
    | some x, some c =>
      if x.kind = 1 then decide (c.kind = 0)
      else if x.kind = 2 then decide (c.kind = 0) && (decide (c.n = 0) || decide (c.n = 1))
      else if x.kind = 3 then decide (c.kind = 0) && decide (c.n = 0)
      else if x.kind = 4 then decide (c.kind = 2)
      else if x.kind = 5 then decide (c.kind = 1) && decide (c.tag = 0) && decide (c.n = 2) && fitsB F M s x.a.toNat (at_ + 1) && fitsB F M s x.b.toNat (nxt M (at_ + 1))
      else if x.kind = 6 then decide (c.kind = 0) && decide (c.n = 0) || decide (c.kind = 1) && decide (c.tag = 1) && decide (c.n = 2) && fitsB F M s x.a.toNat (at_ + 1) && fitsB F M s k (nxt M (at_ + 1))
      else if c.kind = 0 then decide (0 ≤ c.n) && decide (c.n < x.cons.length) && decide (x.cons.getD c.n.toNat 0 < 0)
      else decide (c.kind = 1) && decide (c.n = 1) && decide (c.tag < x.cons.length) && decide (0 ≤ x.cons.getD c.tag.toNat 0) && fitsB F M s (x.cons.getD c.tag.toNat 0).toNat (at_ + 1)
    | _, _ => false
/-- the cell behind, or 0 -/
def fitsN (F : List Fo) (M : List Cl) : Nat → Nat → Nat → Nat
  | 0, _, _ => 0
  | s + 1, k, at_ =>
    match F[k]?, M[at_]? with
    | some x, some c =>
      let one := fun b : Bool => if b then at_ + 1 else 0
      let two := fun a b => match fitsN F M s a (at_ + 1) with | 0 => 0 | n + 1 => fitsN F M s b (n + 1)
      if x.kind = 1 then one (decide (c.kind = 0))
      else if x.kind = 2 then one (decide (c.kind = 0) && decide (0 ≤ c.n) && decide (c.n ≤ 1))
      else if x.kind = 3 then one (decide (c.kind = 0) && decide (0 ≤ c.n) && decide (c.n ≤ 0))
      else if x.kind = 4 then one (decide (c.kind = 2))
      else if x.kind = 5 then if c.kind = 1 ∧ c.tag = 0 ∧ c.n = 2 then two x.a.toNat x.b.toNat else 0
      else if x.kind = 6 then if c.kind = 1 ∧ c.tag = 1 ∧ c.n = 2 then two x.a.toNat k else one (decide (c.kind = 0) && decide (0 ≤ c.n) && decide (c.n ≤ 0))
      else if c.kind = 1 ∧ c.n = 1 ∧ c.tag < x.cons.length ∧ 0 ≤ x.cons.getD c.tag.toNat 0 then fitsN F M s (x.cons.getD c.tag.toNat 0).toNat (at_ + 1)
      else one (decide (c.kind = 0) && decide (0 ≤ c.n) && decide (c.n ≤ x.cons.length - 1) && decide (x.cons.getD c.n.toNat 0 < 0))
    | _, _ => 0
theorem wt_leaf {c : Cl} (h : c.kind ≠ 1) : wt c = 0 := by unfold wt; rw [if_neg h]
theorem wt_block {c : Cl} (h : c.kind = 1) : wt c = c.n.toNat := by unfold wt; rw [if_pos h]
/-- a cell with nothing beneath ends behind itself -/
theorem nxt_leaf {M : List Cl} {k : Nat} {c : Cl} (h : M[k]? = some c) (hw : wt c = 0) : nxt M k = k + 1 := by
  unfold nxt
  obtain ⟨hk, e⟩ := List.getElem?_eq_some_iff.1 h
  rw [List.drop_eq_getElem_cons hk, e, firstL, if_neg (by omega), hw]
  cases M.drop (k + 1) <;> simp [firstL]
/-- so many wholes, one behind the other -/
theorem firstL_add {M : List Cl} : ∀ (A : List Cl) (a b : Nat), needs A a = true → firstL (A ++ M) (a + b) = A.length + firstL M b
  | [], a, b, h => by
    have : a = 0 := by simpa [needs] using h
    subst this
    simp
  | x :: A, a, b, h => by
    obtain ⟨h1, h2, h3⟩ := needs_cons h
    rw [List.cons_append, firstL, if_neg (by omega)]
    have e : a + b - 1 + wt x = (a - 1 + wt x) + b := by omega
    rw [e, firstL_add A _ b h3, List.length_cons]
    omega
/-- a cell with one whole beneath it -/
theorem nxt_one {M : List Cl} {k : Nat} {c : Cl} (h : M[k]? = some c) (hw : wt c = 1) : nxt M k = nxt M (k + 1) := by
  unfold nxt
  obtain ⟨hk, e⟩ := List.getElem?_eq_some_iff.1 h
  rw [List.drop_eq_getElem_cons hk, e, firstL, if_neg (by omega), hw]
  show k + (1 + firstL (M.drop (k + 1)) 1) = _
  omega
/-- a cell with two -/
theorem nxt_two {M : List Cl} {k o : Nat} {c : Cl} (ha : At M (k + 1) (o + 2)) (h : M[k]? = some c) (hw : wt c = 2) : nxt M k = nxt M (nxt M (k + 1)) := by
  obtain ⟨hk, e⟩ := List.getElem?_eq_some_iff.1 h
  obtain ⟨h1, h2⟩ := ha
  have e2 : o + 2 = 1 + (o + 1) := by omega
  rw [e2] at h2
  obtain ⟨A, B, eA, hA, hB⟩ := needs_split _ 1 (o + 1) h2
  have hf : firstL (M.drop (k + 1)) 1 = A.length := by rw [eA]; exact firstL_app A 1 hA
  have hn : nxt M (k + 1) = k + 1 + A.length := by unfold nxt; rw [hf]
  have hd : M.drop (k + 1 + A.length) = B := by rw [← List.drop_drop, eA, List.drop_left]
  have l1 : nxt M k = k + (1 + firstL (M.drop (k + 1)) 2) := by
    unfold nxt
    rw [List.drop_eq_getElem_cons hk, e, firstL, if_neg (by omega), hw]
  have l2 : firstL (M.drop (k + 1)) 2 = A.length + firstL B 1 := by
    rw [eA]
    exact firstL_add A 1 1 hA
  rw [l1, l2, hn]
  unfold nxt
  rw [hd]
  omega
end Go.Proofs.YtppkgfcobnknfaaGreatDoor
/- Data, in plain Lean: the program's fitting is the reference's. -/
namespace Go.Proofs.YtppkgfcobnknfaaGreatDoor
open Go Go.RowKit
set_option maxRecDepth 100000
theorem one_is {b b' : Bool} {n at_ : Nat} (hb : b = b') (hn : b' = true → n = at_ + 1) : (if b = true then at_ + 1 else 0) = if b' = true then n else 0 := by
  subst hb
  cases b with
  | false => rfl
  | true => rw [if_pos rfl, if_pos rfl, hn rfl]
theorem goodC_cases {x : Cl} (h : goodC x = true) : x.kind = 0 ∨ (x.kind = 1 ∧ 0 ≤ x.tag ∧ 1 ≤ x.n ∧ x.n ≤ 8) ∨ x.kind = 2 := by
  unfold goodC at h
  by_cases h0 : x.kind = 0
  · exact .inl h0
  · rw [if_neg h0] at h
    by_cases h1 : x.kind = 1
    · rw [if_pos h1] at h
      have := of_decide_eq_true h
      exact .inr (.inl ⟨h1, by omega, by omega, by omega⟩)
    · rw [if_neg h1] at h
      by_cases h2 : x.kind = 2
      · exact .inr (.inr h2)
      · rw [if_neg h2] at h; cases h
theorem goodFo_ab {f : Fo} {n : Nat} (h : goodFo f n = true) : (f.kind = 5 → f.a.toNat < n ∧ f.b.toNat < n) ∧ (f.kind = 6 → f.a.toNat < n) ∧ (∀ i, i < f.cons.length → 0 ≤ f.cons.getD i 0 → (f.cons.getD i 0).toNat < n) := by
  unfold goodFo inB at h
  simp only [Bool.and_eq_true, decide_eq_true_eq] at h
  obtain ⟨⟨⟨⟨h1, h2⟩, h3⟩, h4⟩, h5⟩ := h
  refine ⟨fun hk => ?_, fun hk => ?_, fun i hl hi => ?_⟩
  · rw [if_pos (.inl hk)] at h3
    rw [if_pos hk] at h4
    omega
  · rw [if_pos (.inr hk)] at h3
    omega
  · rw [List.all_eq_true] at h1
    have e : f.cons.getD i 0 = f.cons[i] := by rw [List.getD_eq_getElem?_getD, List.getElem?_eq_getElem hl]; rfl
    have := h1 f.cons[i] (List.getElem_mem hl)
    simp only [Bool.and_eq_true, decide_eq_true_eq] at this
    rw [e] at hi ⊢
    omega
/-- two wholes -/
theorem two_is {M : List Cl} {at_ o n1 : Nat} {B1 B2 : Bool} {g : Nat → Nat} {c : Cl} (hc : M[at_]? = some c) (hw : wt c = 2) (hA : At M (at_ + 1) (o + 2)) (h1 : n1 = if B1 = true then nxt M (at_ + 1) else 0) (h2 : g (nxt M (at_ + 1)) = if B2 = true then nxt M (nxt M (at_ + 1)) else 0) :
    (match (generalizing := false) n1 with | 0 => 0 | n + 1 => g (n + 1)) = if (B1 && B2) = true then nxt M at_ else 0 := by
  have hlt := (At.next (o := o + 1) hA).2.1
  cases B1 with
  | false =>
    rw [if_neg (by simp)] at h1
    subst h1
    simp
  | true =>
    rw [if_pos rfl] at h1
    obtain ⟨m, hm⟩ : ∃ m, n1 = m + 1 := ⟨n1 - 1, by omega⟩
    rw [hm]
    show g (m + 1) = _
    rw [← hm, h1, h2, nxt_two hA hc hw, Bool.true_and]
theorem fitsN_is {F : List Fo} {M : List Cl} (hF : ∀ x ∈ F, goodFo x F.length = true) : ∀ (s k at_ o : Nat), At M at_ (o + 1) → k < F.length → fitsN F M s k at_ = if fitsB F M s k at_ = true then nxt M at_ else 0
  | 0, k, at_, o, _, _ => by simp [fitsN, fitsB]
  | s + 1, k, at_, o, hA, hk => by
    obtain ⟨c, hc, hg, hN⟩ := hA.cell
    obtain ⟨x, hx⟩ : ∃ x, F[k]? = some x := ⟨_, List.getElem?_eq_getElem hk⟩
    obtain ⟨a1, a2, a3⟩ := goodFo_ab (hF x (List.mem_of_getElem? hx))
    have ih := fitsN_is (M := M) hF s
    have hleaf : c.kind ≠ 1 → nxt M at_ = at_ + 1 := fun h => nxt_leaf hc (wt_leaf h)
    have hgc := goodC_cases hg
    simp only [fitsN, fitsB, hx, hc]
    by_cases k1 : x.kind = 1
    · simp only [if_pos k1]
      exact one_is rfl fun h => hleaf (by have := of_decide_eq_true h; omega)
    simp only [if_neg k1]
    by_cases k2 : x.kind = 2
    · simp only [if_pos k2]
      refine one_is ?_ fun h => hleaf ?_
      · rw [Bool.eq_iff_iff]; simp only [Bool.and_eq_true, Bool.or_eq_true, decide_eq_true_eq]; omega
      · simp only [Bool.and_eq_true, decide_eq_true_eq] at h; omega
    simp only [if_neg k2]
    by_cases k3 : x.kind = 3
    · simp only [if_pos k3]
      refine one_is ?_ fun h => hleaf ?_
      · rw [Bool.eq_iff_iff]; simp only [Bool.and_eq_true, decide_eq_true_eq]; omega
      · simp only [Bool.and_eq_true, decide_eq_true_eq] at h; omega
    simp only [if_neg k3]
    by_cases k4 : x.kind = 4
    · simp only [if_pos k4]
      exact one_is rfl fun h => hleaf (by have := of_decide_eq_true h; omega)
    simp only [if_neg k4]
    by_cases k5 : x.kind = 5
    · simp only [if_pos k5]
      by_cases hb : c.kind = 1 ∧ c.tag = 0 ∧ c.n = 2
      · obtain ⟨b1, b2, b3⟩ := hb
        rw [if_pos ⟨b1, b2, b3⟩]
        have hw : wt c = 2 := by rw [wt_block b1, b3]; rfl
        rw [hw] at hN
        have hn1 := At.next (o := o + 1) hN
        refine (two_is (g := fun n => fitsN F M s x.b.toNat n) hc hw hN (ih _ _ _ hN (a1 k5).1) (ih _ _ _ hn1.1 (a1 k5).2)).trans ?_
        simp [b1, b2, b3]
      · rw [if_neg hb]
        symm
        rw [if_neg]
        intro h
        simp only [Bool.and_eq_true, decide_eq_true_eq] at h
        exact hb ⟨h.1.1.1.1, h.1.1.1.2, h.1.1.2⟩
    simp only [if_neg k5]
    by_cases k6 : x.kind = 6
    · simp only [if_pos k6]
      by_cases hb : c.kind = 1 ∧ c.tag = 1 ∧ c.n = 2
      · obtain ⟨b1, b2, b3⟩ := hb
        rw [if_pos ⟨b1, b2, b3⟩]
        have hw : wt c = 2 := by rw [wt_block b1, b3]; rfl
        rw [hw] at hN
        have hn1 := At.next (o := o + 1) hN
        refine (two_is (g := fun n => fitsN F M s k n) hc hw hN (ih _ _ _ hN (a2 k6)) (ih _ _ _ hn1.1 hk)).trans ?_
        simp [b1, b2, b3]
      · rw [if_neg hb]
        refine one_is ?_ fun h => hleaf ?_
        · rw [Bool.eq_iff_iff]
          simp only [Bool.and_eq_true, Bool.or_eq_true, decide_eq_true_eq]
          constructor
          · rintro ⟨⟨h1, h2⟩, h3⟩
            exact .inl ⟨h1, by omega⟩
          · rintro (⟨h1, h2⟩ | ⟨⟨⟨⟨h1, h2⟩, h3⟩, _⟩, _⟩)
            · exact ⟨⟨h1, by omega⟩, by omega⟩
            · exact absurd ⟨h1, h2, h3⟩ hb
        · simp only [Bool.and_eq_true, Bool.or_eq_true, decide_eq_true_eq] at h
          rcases h with h | h
          · omega
          · exact absurd ⟨h.1.1.1.1, h.1.1.1.2, h.1.1.2⟩ hb
    simp only [if_neg k6]
    by_cases hb : c.kind = 1 ∧ c.n = 1 ∧ c.tag < x.cons.length ∧ 0 ≤ x.cons.getD c.tag.toNat 0
    · rw [if_pos hb]
      obtain ⟨b1, b2, b3, b4⟩ := hb
      have hw : wt c = 1 := by rw [wt_block b1, b2]; rfl
      rw [hw] at hN
      have ht : 0 ≤ c.tag := by rcases hgc with h | h | h <;> omega
      refine (ih _ _ _ hN (a3 _ (by omega) b4)).trans ?_
      have hc0 : ¬ c.kind = 0 := by omega
      rw [nxt_one hc hw, if_neg hc0]
      simp only [b1, b2, b3, b4, decide_true, Bool.true_and]
    · rw [if_neg hb]
      by_cases h0 : c.kind = 0
      · rw [if_pos h0]
        refine one_is ?_ fun _ => hleaf (by omega)
        rw [Bool.eq_iff_iff]
        simp only [Bool.and_eq_true, decide_eq_true_eq]
        omega
      · rw [if_neg h0]
        refine one_is ?_ fun h => absurd ?_ hb
        · rw [decide_eq_false h0]
          symm
          rw [Bool.false_and, Bool.false_and, Bool.false_and, Bool.eq_false_iff]
          intro h
          simp only [Bool.and_eq_true, decide_eq_true_eq] at h
          exact hb ⟨h.1.1.1.1, h.1.1.1.2, h.1.1.2, h.1.2⟩
        · simp only [Bool.and_eq_true, decide_eq_true_eq] at h
          exact ⟨h.1.1.1.1, h.1.1.1.2, h.1.1.2, h.1.2⟩
end Go.Proofs.YtppkgfcobnknfaaGreatDoor
/- A text's bytes packed into words, in plain Lean. -/
namespace Go.Proofs.YtppkgfcobnknfaaGreatDoor
open Go
theorem pk_app (A : List UInt8) (x : UInt8) : pk (A ++ [x]) = pk A + x.toNat * 256 ^ A.length := by
  induction A with
  | nil => simp [pk]
  | cons a A ih =>
    rw [List.cons_append, pk, ih, pk, List.length_cons, Nat.pow_succ, Nat.mul_add, ← Nat.add_assoc]
    congr 1
    rw [Nat.mul_comm 256, Nat.mul_assoc]
theorem pk_lt (A : List UInt8) : pk A < 256 ^ A.length := by
  induction A with
  | nil => simp [pk]
  | cons a A ih =>
    have := a.toNat_lt
    rw [pk, List.length_cons, Nat.pow_succ]
    omega
theorem pieceN_here {s : List UInt8} {k : Nat} {x : UInt8} (hx : s[k]? = some x) : pieceN (s.take (k + 1)) (k / 8) = pieceN (s.take k) (k / 8) + ((x.toNat * 256 ^ (k % 8) : Nat) : Int) ∧ 0 ≤ pieceN (s.take k) (k / 8) ∧ pieceN (s.take k) (k / 8) < ((256 ^ (k % 8) : Nat) : Int) := by
  have hk : k < s.length := (List.getElem?_eq_some_iff.1 hx).1
  have ht : s.take (k + 1) = s.take k ++ [x] := by rw [List.take_succ_eq_append_getElem hk, (List.getElem?_eq_some_iff.1 hx).2]
  have hl : (s.take k).length = k := by rw [List.length_take]; omega
  have hd : (s.take (k + 1)).drop (8 * (k / 8)) = (s.take k).drop (8 * (k / 8)) ++ [x] := by rw [ht, List.drop_append_of_le_length (by omega)]
  have hA : ((s.take k).drop (8 * (k / 8))).length = k % 8 := by rw [List.length_drop, hl]; omega
  have hlt := pk_lt ((s.take k).drop (8 * (k / 8)))
  rw [hA] at hlt
  unfold pieceN
  rw [hd]
  generalize (s.take k).drop (8 * (k / 8)) = A at *
  have hm : k % 8 < 8 := Nat.mod_lt _ (by omega)
  rw [List.take_of_length_le (l := A ++ [x]) (by rw [List.length_append, hA, List.length_singleton]; omega), List.take_of_length_le (l := A) (by rw [hA]; omega), pk_app, hA]
  exact ⟨by simp, by omega, by exact_mod_cast hlt⟩
theorem pieceN_other {s : List UInt8} {k j : Nat} (hk : k < s.length) (hj : j ≠ k / 8) : pieceN (s.take (k + 1)) j = pieceN (s.take k) j := by
  have ht : s.take (k + 1) = s.take k ++ [s[k]] := by rw [List.take_succ_eq_append_getElem hk]
  have hl : (s.take k).length = k := by rw [List.length_take]; omega
  unfold pieceN
  rcases Nat.lt_or_gt_of_ne hj with h | h
  · rw [ht, List.drop_append_of_le_length (by omega), List.take_append_of_le_length (by rw [List.length_drop, hl]; omega)]
  · rw [List.drop_of_length_le (l := s.take (k + 1)) (by rw [List.length_take]; omega), List.drop_of_length_le (l := s.take k) (by rw [List.length_take]; omega)]
theorem pieces_step {s : List UInt8} {k m : Nat} {x : UInt8} (hx : s[k]? = some x) (f : Int → List Value) : (List.range m).map (fun j => f (pieceN (s.take (k + 1)) j)) = ((List.range m).map (fun j => f (pieceN (s.take k) j))).set (k / 8) (f (pieceN (s.take k) (k / 8) + ((x.toNat * 256 ^ (k % 8) : Nat) : Int))) := by
  have hk : k < s.length := (List.getElem?_eq_some_iff.1 hx).1
  apply List.ext_getElem?
  intro i
  rw [List.getElem?_set]
  by_cases hi : k / 8 = i
  · subst hi
    rw [if_pos rfl]
    by_cases hm : k / 8 < m
    · simp [hm, (pieceN_here hx).1]
    · simp [hm]
  · rw [if_neg hi]
    by_cases hm : i < m
    · simp [hm, pieceN_other hk (Ne.symm hi)]
    · simp [hm]
theorem pieceN_nil (j : Nat) : pieceN [] j = 0 := by simp [pieceN, pk]
theorem pieces_start (m : Nat) (f : Int → List Value) (s : List UInt8) : (List.range m).map (fun j => f (pieceN (s.take 0) j)) = List.replicate m (f 0) := by
  rw [List.take_zero]
  simp only [pieceN_nil]
  apply List.ext_getElem?
  intro i
  by_cases hi : i < m <;> simp [hi]
end Go.Proofs.YtppkgfcobnknfaaGreatDoor
/- Slices of pairs; the walk of keep.Pairs. -/
namespace Go.Proofs.YtppkgfcobnknfaaGreatDoor
open Go.RowKit Go.Maps
set_option maxHeartbeats 2000000
set_option maxRecDepth 100000
theorem info_pair : (Tryz.prog.info? 121).map (fun i => (i.zero, i.size, i.bytes)) = some (some (.agg #[.int .i64 0, .int .i64 0]), 2, 16) := by kernel_rfl
def pairC (r : Nat × Nat) : List Value := [.int .i64 r.1, .int .i64 r.2]
/-- a slice of pairs of the call's own -/
def PairRow (w : World) (base : Nat) (v : Value) (R : List (Nat × Nat)) : Prop := w.ownsRow base 121 2 v R.length (R.flatMap pairC)
theorem PairRow.nil (w : World) (base : Nat) : PairRow w base (.slice none 0 0) [] := World.ownsRow_nil _ _ _ _
theorem PairRow.alloc {w : World} {base : Nat} {v : Value} {R : List (Nat × Nat)} (h : PairRow w base v R) (o : Obj) : PairRow (w.alloc o) base v R := World.ownsRow.alloc h o
theorem PairRow.len {w : World} {base : Nat} {v : Value} {R : List (Nat × Nat)} (h : PairRow w base v R) : ∃ a c, v = .slice a R.length c ∧ R.length ≤ c ∧ c ≤ maxLen := by
  rcases h.2 with ⟨h1, h2⟩ | ⟨g, cap, cur, h1, _, _, h2, h3, _⟩
  · exact ⟨none, 0, by rw [h1, h2], by omega, Nat.zero_le _⟩
  · exact ⟨_, cap, h1, h2, h3⟩
theorem PairRow.own {w : World} {base : Nat} {v : Value} {R : List (Nat × Nat)} (h : PairRow w base v R) : ∀ b, v.ownBlock = some b → base ≤ b := by
  intro b hb
  rcases h.2 with ⟨h1, _⟩ | ⟨g, cap, cur, h1, hb1, _⟩
  · subst h1; simp [Value.ownBlock] at hb
  · subst h1; simp only [Value.ownBlock, Option.some.injEq] at hb; omega
theorem PairRow.mono {w : World} {base base' : Nat} {v : Value} {R : List (Nat × Nat)} (h : PairRow w base v R) (hb : base' ≤ base) : PairRow w base' v R := by
  refine ⟨h.1, ?_⟩
  rcases h.2 with h1 | ⟨g, cap, cur, h1, hb1, hg, h2⟩
  · exact .inl h1
  · exact .inr ⟨g, cap, cur, h1, by omega, hg, h2⟩
theorem PairRow.turn {w w' : World} {base : Nat} {bs : List Nat} {v : Value} {R : List (Nat × Nat)} (h : PairRow w base v R) (t : Turn bs w w') (hb : ∀ b ∈ bs, b < base) : PairRow w' base v R := by
  refine ⟨h.1, ?_⟩
  rcases h.2 with h1 | ⟨g, cap, cur, h1, hb1, hg, h2⟩
  · exact .inl h1
  · exact .inr ⟨g, cap, cur, h1, hb1, by rw [t.block g (Array.getElem?_eq_some_iff.1 hg).1 (fun hm => by have := hb g hm; omega)]; exact hg, h2⟩
theorem cell_pair {w : World} {a b : Value} {T : TypeId} : ∀ j u, [a, b][j]? = some u → (w.alloc (.cells #[a, b] T)).cell? ((⟨w.heap.size, 0, none⟩ : Addr).add j) = some u := by
  intro j u h
  have hb : (w.alloc (.cells #[a, b] T)).heap[w.heap.size]? = some (.cells #[a, b] T (0, 0)) := heap_alloc_new _ _
  match j, h with
  | 0, h => simp at h; subst h; simp [Addr.add]
  | 1, h => simp at h; subst h; simp [Addr.add]
  | j + 2, h => simp at h
theorem wpList_append_pair {ops : Array Oper} {rest : List Oper} {o : Oper} {a : Act} {Q : Exit → Act → World → Prop} {w : World} (hgd : o.guard = none) (s x : Operand)
    (ho : o.op = .call { callee := .builtin .append, args := #[s, x], argTypes := #[117, 117] })
    (base : Nat) (v : Value) (R : List (Nat × Nat)) (hs : a.eval s = v) (hown : PairRow w base v R) (r1 r2 : Nat) (g : Nat) (hx : a.eval x = .slice (some ⟨g, 0, none⟩) 1 1) (hgs : w.heap.size = g)
    (hlen : R.length + 1 ≤ 1099511627776) (hbase : base ≤ w.heap.size)
    (h : ∀ v' w', PairRow w' base v' (R ++ [(r1, r2)]) → (w.alloc (.cells #[.int .i64 r1, .int .i64 r2] 121)).grownBy w' v.ownBlock → wpList Tryz.prog ops Q rest (a.put o.dst v') w') :
    wpList Tryz.prog ops Q (o :: rest) a (w.alloc (.cells #[.int .i64 r1, .int .i64 r2] 121)) := by
  subst hgs
  obtain ⟨i0, hi, hz0, hz1, hz2⟩ := info_parts info_pair
  refine wpList_append_own (P := Tryz.prog) (w := w.alloc (.cells #[.int .i64 r1, .int .i64 r2] 121)) hgd s x 117 ho base 121 i0 _ 2 16 Tryz.underlying117 hi hz0 hz1 hz2 rfl (by decide) v R.length (R.flatMap pairC) hs (World.ownsRow.alloc hown _)
    ⟨w.heap.size, 0, none⟩ 1 1 (pairC (r1, r2)) hx rfl cell_pair ?_ (by unfold maxLen; omega) (by omega) (by simp; omega) ?_
  · intro u hu; simp [pairC] at hu; rcases hu with rfl | rfl <;> rfl
  · intro v' w' hown' hgrow _
    refine h v' w' ?_ hgrow
    unfold PairRow
    rw [List.length_append, List.flatMap_append]
    simpa using hown'
/-- a slice that reads as pairs, wherever it lies -/
def PairSl (w : World) (v : Value) (l : List (Nat × Nat)) : Prop := ∃ q c, v = .slice q l.length c ∧ l.length ≤ c ∧ c ≤ maxLen ∧ ∀ (i : Nat) (x : Nat × Nat), l[i]? = some x → ∃ b off, q = some ⟨b, off, none⟩ ∧ w.cell? ⟨b, off + i * 2, none⟩ = some (.int .i64 x.1) ∧ w.cell? ⟨b, off + i * 2 + 1, none⟩ = some (.int .i64 x.2)
theorem PairSl.ext {w w' : World} {v : Value} {l : List (Nat × Nat)} (h : PairSl w v l) (e : Ext w w') : PairSl w' v l := by
  obtain ⟨q, c, hv, h1, h2, hc⟩ := h
  exact ⟨q, c, hv, h1, h2, fun i x hx => by obtain ⟨b, off, hq, hc1, hc2⟩ := hc i x hx; exact ⟨b, off, hq, e.cell hc1, e.cell hc2⟩⟩
theorem flat2 : ∀ (l : List (Nat × Nat)) (i : Nat) (x : Nat × Nat), l[i]? = some x → (l.flatMap pairC)[i * 2]? = some (.int .i64 x.1) ∧ (l.flatMap pairC)[i * 2 + 1]? = some (.int .i64 x.2) := by
  intro l
  induction l with
  | nil => intro i x h; simp at h
  | cons y l ih =>
    intro i x h
    cases i with
    | zero => simp at h; subst h; simp [pairC]
    | succ i =>
      have h2 := ih i x (by simpa using h)
      rw [List.flatMap_cons]
      have e0 : (i + 1) * 2 = (pairC y).length + i * 2 := by simp [pairC]; omega
      have e1 : (i + 1) * 2 + 1 = (pairC y).length + (i * 2 + 1) := by simp [pairC]; omega
      rw [e0, show (pairC y).length + i * 2 + 1 = (pairC y).length + (i * 2 + 1) by omega, List.getElem?_append_right (by omega), List.getElem?_append_right (by omega)]
      simpa using h2
theorem PairRow.sl {w : World} {base : Nat} {v : Value} {l : List (Nat × Nat)} (h : PairRow w base v l) : PairSl w v l := by
  rcases h.2 with ⟨h1, h2⟩ | ⟨g, cap, cur, h1, hb, hg, h2, h3, h4, h5⟩
  · refine ⟨none, 0, by rw [h1, h2], by omega, Nat.zero_le _, fun i x hx => ?_⟩
    have := (List.getElem?_eq_some_iff.1 hx).1
    omega
  · refine ⟨_, cap, h1, h2, h3, fun i x hx => ⟨g, 0, rfl, ?_⟩⟩
    subst h1
    have hi : i < l.length := (List.getElem?_eq_some_iff.1 hx).1
    have hf := flat2 l i x hx
    rw [Nat.zero_add, World.ownsRow.cellAt h (i * 2) (by omega), World.ownsRow.cellAt h (i * 2 + 1) (by omega)]
    exact hf
theorem run_part2 (xs : Array Value) (i : Nat) (v : Value) (h : xs[i]? = some v) (w : World) : (part 3 xs i).run Tryz.prog w = .ok v w := by
  have hA : ∀ w, (isAgg 3).run Tryz.prog w = .ok false w := fun w => by kernel_rfl
  simp [part, hA, h]
theorem run_equal_pair' (dd : Nat) (a b c d : Int) (w : World) : (Op.equalIn (dd + 1 + 1) 121 (.agg #[.int .i64 a, .int .i64 b]) (.agg #[.int .i64 c, .int .i64 d])).run Tryz.prog w = .ok ((a == c) && (b == d)) w := by
  have hS : ∀ w, (sizeOf 3).run Tryz.prog w = .ok 1 w := fun w => by kernel_rfl
  have h0 : ∀ (x y : Value) w, (part 3 #[x, y] 0).run Tryz.prog w = .ok x w := fun x y w => run_part2 _ 0 x rfl w
  have h1 : ∀ (x y : Value) w, (part 3 #[x, y] 1).run Tryz.prog w = .ok y w := fun x y w => run_part2 _ 1 y rfl w
  have he : ∀ (x y : Int) w, (Op.equalIn (dd + 1) 3 (.int .i64 x) (.int .i64 y)).run Tryz.prog w = .ok (x == y) w := fun x y w => run_equalIn_int w dd 3 .i64 .i64 x y Tryz.underlying3
  rw [Op.equalIn]
  simp only [Sem.run_bind, run_underlying Tryz.underlying121, Result.andThen_ok, hS]
  simp [Std.Legacy.Range.forIn_eq_forIn_range', List.range', h0, h1, he]
  by_cases e1 : a = c <;> by_cases e2 : b = d <;> simp [e1, e2]
theorem run_equal_pair (a b c d : Int) (w : World) : (Op.equalIn 10000 121 (.agg #[.int .i64 a, .int .i64 b]) (.agg #[.int .i64 c, .int .i64 d])).run Tryz.prog w = .ok ((a == c) && (b == d)) w := run_equal_pair' 9998 a b c d w
end Go.Proofs.YtppkgfcobnknfaaGreatDoor
/- Slices of words; the walk of keep.Words. -/
namespace Go.Proofs.YtppkgfcobnknfaaGreatDoor
open Go.RowKit Go.Maps
set_option maxHeartbeats 2000000
set_option maxRecDepth 100000
theorem info_u64 : (Tryz.prog.info? 42).map (fun i => (i.zero, i.size, i.bytes)) = some (some (.int .u64 0), 1, 8) := by kernel_rfl
/-- a slice that reads as words, wherever it lies -/
def WordSl (w : World) (v : Value) (l : List Int) : Prop := ∃ q c, v = .slice q l.length c ∧ l.length ≤ c ∧ c ≤ maxLen ∧ ∀ (i : Nat) (x : Int), l[i]? = some x → ∃ b off, q = some ⟨b, off, none⟩ ∧ w.cell? ⟨b, off + i, none⟩ = some (.int .u64 x)
theorem WordSl.ext {w w' : World} {v : Value} {l : List Int} (h : WordSl w v l) (e : Ext w w') : WordSl w' v l := by
  obtain ⟨q, c, hv, h1, h2, hc⟩ := h
  exact ⟨q, c, hv, h1, h2, fun i x hx => by obtain ⟨b, off, hq, hcc⟩ := hc i x hx; exact ⟨b, off, hq, e.cell hcc⟩⟩
theorem WordSl.of_row {w : World} {base : Nat} {v : Value} {l : List Int} (h : w.ownsRow base 42 1 v l.length (l.map fun x => Value.int .u64 x)) : WordSl w v l := by
  rcases h.2 with ⟨h1, h2⟩ | ⟨g, cap, cur, h1, hb, hg, h2, h3, h4, h5⟩
  · refine ⟨none, 0, by rw [h1, h2], by omega, Nat.zero_le _, fun i x hx => ?_⟩
    have := (List.getElem?_eq_some_iff.1 hx).1
    omega
  · refine ⟨_, cap, h1, h2, h3, fun i x hx => ⟨g, 0, rfl, ?_⟩⟩
    subst h1
    have hi : i < l.length := (List.getElem?_eq_some_iff.1 hx).1
    rw [Nat.zero_add, World.ownsRow.cellAt h i (by omega), List.getElem?_map, hx]
    rfl
theorem keep_words {w : World} {va vb : Value} {a b : List Int} (ha : WordSl w va a) (hb : WordSl w vb b) : Calls Tryz.prog 18 #[va, vb] w fun e w' => e = .returned (.bool (decide (a = b))) ∧ Ext w w' := by
  obtain ⟨qa, ca, rfl, la1, la2, hca⟩ := ha
  obtain ⟨qb, cb, rfl, lb1, lb2, hcb⟩ := hb
  unfold maxLen at la2 lb2
  by_cases hl : a.length = b.length
  · have HA := Lib.hid hca; have HB := Lib.hid hcb
    have HL := Lib.hid hl.symm
    rw [← hl] at lb1 ⊢
    clear hca hcb hl
    go_enter Tryz.func18, Tryz.ntmps18
    go_wp2
    go_loopw [5] (fun i wr => ∃ k : Nat, k ≤ a.length ∧ i = .int .i64 k ∧ a.take k = b.take k ∧ Ext w wr) (fun i _ => a.length - (Go.RowKit.intOf i).toNat)
    case atStart => exact ⟨0, by omega, rfl, rfl, Ext.refl _⟩
    case round =>
      obtain ⟨k, hk, rfl, htk, hx⟩ := hrel
      have HT := Lib.hid htk
      clear htk
      by_cases hlt : k < a.length
      · have hltb : k < b.length := by rw [HL.out]; exact hlt
        obtain ⟨b1, o1, rfl, p0⟩ := HA.out k a[k] (List.getElem?_eq_getElem hlt)
        obtain ⟨b2, o2, rfl, q0⟩ := HB.out k b[k] (List.getElem?_eq_getElem hltb)
        have P0 := hx.cell p0; have Q0 := hx.cell q0
        clear p0 q0
        have HX := Lib.hid (show a[k] = b[k] → a.take (k + 1) = b.take (k + 1) by intro e; rw [List.take_succ_eq_append_getElem hlt, List.take_succ_eq_append_getElem hltb, e, HT.out])
        have HY := Lib.hid (show a[k] ≠ b[k] → decide (a = b) = false by intro e; exact decide_eq_false (fun h => e (by subst h; rfl)))
        generalize a[k] = x at *
        generalize b[k] = y at *
        have i1 : (k : Int) < (a.length : Int) := by omega
        by_cases hxy : x = y
        · subst hxy
          go_wp2
          go_big_quiet (fail)
          go_wp2
          exact ⟨⟨k + 1, by omega, by go_num, HX.out (by first | trivial | rfl), hx.trans (Ext.drewN _ _)⟩, by simp [Go.RowKit.intOf]; omega⟩
        · have hres := HY.out hxy
          have bne : (x == y) = false := beq_false_of_ne hxy
          have HRS := Lib.hid hres
          clear hres
          go_wp2
          go_big_quiet (fail)
          go_wp2
          go_ret
          rw [HRS.out]
          exact ⟨rfl, hx.trans (Ext.drewN _ _)⟩
      · obtain rfl : k = a.length := by omega
        have hab : a = b := by
          have := HT.out
          rw [List.take_length, ← HL.out, List.take_length] at this
          exact this
        have HAB := Lib.hid (decide_eq_true hab)
        clear hab
        go_wp2
        go_ret
        rw [HAB.out]
        exact ⟨rfl, hx⟩
  · have bl : ((a.length : Int) == (b.length : Int)) = false := beq_false_of_ne (by omega)
    have hab : decide (a = b) = false := decide_eq_false (fun e => hl (by rw [e]))
    rw [hab]
    clear hca hcb hab hl
    go_enter Tryz.func18, Tryz.ntmps18
    go_wp2
    go_ret
    exact ⟨rfl, Ext.refl _⟩
end Go.Proofs.YtppkgfcobnknfaaGreatDoor
