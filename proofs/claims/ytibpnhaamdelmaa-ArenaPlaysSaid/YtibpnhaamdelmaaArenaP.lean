/- Plain: an arena's regions, as a rising list of places and sizes. No program in sight. -/
import Derived.RowKit
import Derived.Maps.Own
import Derived.Maps.OwnSet
import Derived.Lib.SlKeysI
namespace Go.Proofs.Ytibpnhaamdelmaa
open Go.RowKit Go.Maps
namespace Arena
/-- regions: each with its size, rising, apart, within n words -/
def Good (n : Nat) (R : List (Nat × Nat)) : Prop := R.Pairwise (fun a b => a.1 + a.2 ≤ b.1) ∧ ∀ r ∈ R, 1 ≤ r.2 ∧ r.1 + r.2 ≤ n
/-- the map that holds them -/
def regD (R : List (Nat × Nat)) : DataW Unit := .map (R.map fun r => (Lit.int .i64 r.1, DataW.lit (.int .i64 r.2)))
def lenAt (R : List (Nat × Nat)) (k : Int) : Nat := match R.find? (fun r => decide ((r.1 : Int) = k)) with | some r => r.2 | none => 0
/-- the least place ahead of which no region with room lies -/
def scan (k : Nat) : Nat → List (Nat × Nat) → Nat
  | at_, [] => at_
  | at_, r :: R => if at_ + k ≤ r.1 then at_ else scan k (r.1 + r.2) R
def cutAt (n : Nat) (R : List (Nat × Nat)) (k : Nat) : Option Nat := if scan k 0 R + k ≤ n then some (scan k 0 R) else none
def ins (x : Nat × Nat) : List (Nat × Nat) → List (Nat × Nat)
  | [] => [x]
  | y :: R => if x.1 < y.1 then x :: y :: R else y :: ins x R
def drop (k : Int) (R : List (Nat × Nat)) : List (Nat × Nat) := R.filter fun r => !decide ((r.1 : Int) = k)

theorem sameKey_int (a : Nat) (k : Int) : (Lit.int .i64 a).sameKey (.int .i64 k) = decide ((a : Int) = k) := by simp [Lit.sameKey]
theorem regD_atKey (R : List (Nat × Nat)) (k : Int) : (regD R).atKey (.int .i64 k) (.lit (.int .i64 0)) = .lit (.int .i64 (lenAt R k)) := by
  unfold regD lenAt DataW.atKey
  simp only [List.find?_map]
  have : ((fun p : Lit × DataW Unit => p.1.sameKey (.int .i64 k)) ∘ fun r : Nat × Nat => (Lit.int .i64 r.1, DataW.lit (.int .i64 r.2))) = fun r => decide ((r.1 : Int) = k) := by
    funext r; exact sameKey_int r.1 k
  rw [this]
  cases R.find? (fun r => decide ((r.1 : Int) = k)) <;> rfl
theorem regD_del (R : List (Nat × Nat)) (k : Int) : (regD R).del (.int .i64 k) = regD (drop k R) := by
  unfold regD drop DataW.del
  simp only [List.filter_map]
  have : ((fun p : Lit × DataW Unit => !p.1.sameKey (.int .i64 k)) ∘ fun r : Nat × Nat => (Lit.int .i64 r.1, DataW.lit (.int .i64 r.2))) = fun r => !decide ((r.1 : Int) = k) := by
    funext r; simp [sameKey_int]
  rw [this]
theorem regD_insert (x : Nat × Nat) : ∀ R : List (Nat × Nat), DataW.insert (Lit.int .i64 x.1, DataW.lit (.int .i64 x.2)) (R.map fun r => (Lit.int .i64 r.1, (DataW.lit (.int .i64 r.2) : DataW Unit))) = (ins x R).map fun r => (Lit.int .i64 r.1, DataW.lit (.int .i64 r.2)) := by
  intro R
  induction R with
  | nil => rfl
  | cons y R ih =>
    simp only [List.map_cons, DataW.insert, ins, Lit.before]
    by_cases h : x.1 < y.1
    · have h2 : ((x.1 : Int) < (y.1 : Int)) := by omega
      simp [h, h2]
    · have h2 : ¬ ((x.1 : Int) < (y.1 : Int)) := by omega
      simp only [h, h2, decide_false, Bool.false_eq_true, if_false, List.map_cons]
      rw [ih]
theorem regD_put {R : List (Nat × Nat)} {x : Nat × Nat} (h : ∀ r ∈ R, r.1 ≠ x.1) : (regD R).put (.int .i64 x.1) (.lit (.int .i64 x.2)) = regD (ins x R) := by
  have hd : drop x.1 R = R := by
    unfold drop
    refine List.filter_eq_self.2 fun r hr => ?_
    have := h r hr
    simp; omega
  have he := regD_del R x.1
  rw [hd] at he
  unfold regD DataW.del at he
  injection he with he
  unfold regD DataW.put
  simp only
  rw [he, regD_insert]
theorem regD_keys (R : List (Nat × Nat)) : intKeys (regD R) = R.map fun r => (r.1 : Int) := by
  show (R.map _).map _ = _
  rw [List.map_map]
  rfl
theorem regD_size (R : List (Nat × Nat)) : Maps.size (regD R) = R.length := by
  unfold regD; rw [Maps.size_eq, List.length_map]

/-! ### laws of the places -/
theorem good_nil (n : Nat) : Good n [] := ⟨List.Pairwise.nil, fun r h => by cases h⟩
theorem good_ne {n : Nat} {R : List (Nat × Nat)} (hg : Good n R) {i j : Nat} (hij : i < j) (hj : j < R.length) : (R[i]'(by omega)).1 + (R[i]'(by omega)).2 ≤ R[j].1 :=
  List.pairwise_iff_getElem.1 hg.1 i j (by omega) hj hij
theorem good_tail {n : Nat} {r : Nat × Nat} {R : List (Nat × Nat)} (h : Good n (r :: R)) : Good n R := ⟨(List.pairwise_cons.1 h.1).2, fun x hx => h.2 x (.tail _ hx)⟩
theorem scan_apart {n k : Nat} : ∀ (R : List (Nat × Nat)) (at_ : Nat), Good n R → (∀ r ∈ R, at_ ≤ r.1) → at_ ≤ scan k at_ R ∧ ∀ r ∈ R, scan k at_ R + k ≤ r.1 ∨ r.1 + r.2 ≤ scan k at_ R := by
  intro R
  induction R with
  | nil => intro a _ _; exact ⟨Nat.le_refl _, fun r h => by cases h⟩
  | cons x R ih =>
    intro a hg ha
    have hx := List.pairwise_cons.1 hg.1
    unfold scan
    split
    · rename_i hk
      refine ⟨Nat.le_refl _, fun r hr => ?_⟩
      rcases List.mem_cons.1 hr with rfl | hr
      · exact .inl hk
      · have := hx.1 r hr; exact .inl (by omega)
    · obtain ⟨h1, h2⟩ := ih (x.1 + x.2) (good_tail hg) (fun r hr => hx.1 r hr)
      have hax := ha x (.head _)
      refine ⟨by omega, fun r hr => ?_⟩
      rcases List.mem_cons.1 hr with rfl | hr
      · exact .inr h1
      · exact h2 r hr
theorem scan_free {n k : Nat} {R : List (Nat × Nat)} (hg : Good n R) : ∀ r ∈ R, scan k 0 R + k ≤ r.1 ∨ r.1 + r.2 ≤ scan k 0 R := (scan_apart R 0 hg fun _ _ => Nat.zero_le _).2
theorem scan_ne {n k : Nat} {R : List (Nat × Nat)} (hg : Good n R) (hk : 1 ≤ k) : ∀ r ∈ R, r.1 ≠ scan k 0 R := by
  intro r hr
  have h1 := (hg.2 r hr).1
  rcases scan_free (k := k) hg r hr with h | h <;> omega
theorem scan_le {n k : Nat} : ∀ (R : List (Nat × Nat)) (a : Nat), Good n R → a ≤ n → scan k a R ≤ n := by
  intro R
  induction R with
  | nil => intro a _ h; exact h
  | cons x R ih =>
    intro a hg ha
    unfold scan
    split
    · exact ha
    · exact ih _ (good_tail hg) (hg.2 x (.head _)).2
theorem mem_ins {x r : Nat × Nat} : ∀ {R : List (Nat × Nat)}, r ∈ ins x R ↔ r = x ∨ r ∈ R := by
  intro R
  induction R with
  | nil => simp [ins]
  | cons y R ih =>
    unfold ins
    split
    · simp
    · simp only [List.mem_cons, ih]
      constructor
      · rintro (h | h | h)
        · exact .inr (.inl h)
        · exact .inl h
        · exact .inr (.inr h)
      · rintro (h | h | h)
        · exact .inr (.inl h)
        · exact .inl h
        · exact .inr (.inr h)
theorem length_ins (x : Nat × Nat) : ∀ R : List (Nat × Nat), (ins x R).length = R.length + 1 := by
  intro R
  induction R with
  | nil => rfl
  | cons y R ih =>
    unfold ins
    split
    · rfl
    · simp [ih]
theorem good_ins {n : Nat} {x : Nat × Nat} (h1 : 1 ≤ x.2) (h2 : x.1 + x.2 ≤ n) : ∀ {R : List (Nat × Nat)}, Good n R → (∀ r ∈ R, x.1 + x.2 ≤ r.1 ∨ r.1 + r.2 ≤ x.1) → Good n (ins x R) := by
  intro R
  induction R with
  | nil =>
    intro _ _
    refine ⟨List.pairwise_singleton _ _, fun r hr => ?_⟩
    obtain rfl := List.mem_singleton.1 hr
    exact ⟨h1, h2⟩
  | cons y R ih =>
    intro hg hx
    have hy := List.pairwise_cons.1 hg.1
    have hy1 := (hg.2 y (.head _)).1
    refine ⟨?_, fun r hr => ?_⟩
    · unfold ins
      split
      · rename_i hlt
        have hxy : x.1 + x.2 ≤ y.1 := by rcases hx y (.head _) with h | h <;> omega
        refine List.pairwise_cons.2 ⟨fun r hr => ?_, hg.1⟩
        rcases List.mem_cons.1 hr with rfl | hr
        · exact hxy
        · have := hy.1 r hr; omega
      · rename_i hlt
        have hxy : y.1 + y.2 ≤ x.1 := by rcases hx y (.head _) with h | h <;> omega
        refine List.pairwise_cons.2 ⟨fun r hr => ?_, (ih (good_tail hg) fun r hr => hx r (.tail _ hr)).1⟩
        rcases mem_ins.1 hr with rfl | hr
        · exact hxy
        · exact hy.1 r hr
    · rcases mem_ins.1 hr with rfl | hr
      · exact ⟨h1, h2⟩
      · exact hg.2 r hr
theorem good_cut {n k : Nat} {R : List (Nat × Nat)} (hg : Good n R) (hk : 1 ≤ k) (hn : scan k 0 R + k ≤ n) : Good n (ins (scan k 0 R, k) R) := good_ins hk hn hg (scan_free hg)
theorem good_drop {n : Nat} {R : List (Nat × Nat)} (k : Int) (hg : Good n R) : Good n (drop k R) := ⟨hg.1.sublist List.filter_sublist, fun r hr => hg.2 r (List.mem_filter.1 hr).1⟩
theorem lenAt_some {R : List (Nat × Nat)} {k : Int} (h : lenAt R k ≠ 0) : ∃ r ∈ R, (r.1 : Int) = k ∧ lenAt R k = r.2 := by
  unfold lenAt at *
  cases hf : R.find? (fun r => decide ((r.1 : Int) = k)) with
  | none => rw [hf] at h; exact absurd rfl h
  | some r =>
    have h1 := List.mem_of_find?_eq_some hf
    have h2 := List.find?_some hf
    exact ⟨r, h1, by simpa using h2, rfl⟩
theorem lenAt_mem {n : Nat} {r : Nat × Nat} : ∀ {R : List (Nat × Nat)}, Good n R → r ∈ R → lenAt R r.1 = r.2 := by
  intro R
  induction R with
  | nil => intro _ h; cases h
  | cons y R ih =>
    intro hg hr
    have hy := List.pairwise_cons.1 hg.1
    have hy1 := (hg.2 y (.head _)).1
    unfold lenAt
    rw [List.find?_cons]
    rcases List.mem_cons.1 hr with rfl | hr
    · simp
    · have := hy.1 r hr
      have hne : decide ((y.1 : Int) = (r.1 : Int)) = false := by simp; omega
      rw [hne]
      exact ih (good_tail hg) hr
theorem good_length {n : Nat} : ∀ (R : List (Nat × Nat)) (a : Nat), Good n R → (∀ r ∈ R, a ≤ r.1) → R ≠ [] → a + R.length ≤ n := by
  intro R
  induction R with
  | nil => intro a _ _ h; exact absurd rfl h
  | cons y R ih =>
    intro a hg ha _
    have hy := List.pairwise_cons.1 hg.1
    have hy1 := hg.2 y (.head _)
    have hay := ha y (.head _)
    by_cases hR : R = []
    · subst hR; simp; omega
    · have := ih (y.1 + y.2) (good_tail hg) (fun r hr => hy.1 r hr) hR
      simp only [List.length_cons]; omega
theorem good_len {n : Nat} {R : List (Nat × Nat)} (hg : Good n R) : R.length ≤ n := by
  by_cases h : R = []
  · subst h; exact Nat.zero_le _
  · have := good_length R 0 hg (fun _ _ => Nat.zero_le _) h; omega
/-- what is sorted out of the keys is the places, rising -/
theorem keys_sorted {n : Nat} {R : List (Nat × Nat)} {ss : List Int} (hg : Good n R) (h : ss.Perm (intKeys (regD R))) : ss.mergeSort (fun x y => decide (x ≤ y)) = R.map fun r => (r.1 : Int) := by
  rw [regD_keys] at h
  have hs : (R.map fun r => (r.1 : Int)).Pairwise (fun a b => a ≤ b) := by
    rw [List.pairwise_map]
    exact hg.1.imp fun {a b} hab => by omega
  have h1 : (ss.mergeSort (fun x y => decide (x ≤ y))).Pairwise (fun a b => a ≤ b) := by
    have := List.pairwise_mergeSort (le := fun x y : Int => decide (x ≤ y)) (fun a b c h1 h2 => by simp at *; omega) (fun a b => by simp; omega) ss
    exact this.imp fun {a b} h => by simpa using h
  exact List.Perm.eq_of_pairwise (fun a b _ _ h1 h2 => by omega) h1 hs ((List.mergeSort_perm ss _).trans h)
end Arena
end Go.Proofs.Ytibpnhaamdelmaa
