/- Plain: entries in a heap's order. No program in sight. -/
import Derived.RowKit
namespace Go.Proofs.Ytgapjglijpdkmaa
namespace Heap
/-- an entry: its key, its rank -/
abbrev Ent := Int × Int
/-- which of two comes first -/
def lt (a b : Ent) : Prop := a.2 < b.2 ∨ (a.2 = b.2 ∧ a.1 < b.1)
instance (a b : Ent) : Decidable (lt a b) := by unfold lt; exact inferInstance
theorem lt_irrefl (a : Ent) : ¬ lt a a := by unfold lt; omega
theorem lt_asymm {a b : Ent} (h : lt a b) : ¬ lt b a := by unfold lt at *; omega
theorem lt_trans {a b c : Ent} (h : lt a b) (k : lt b c) : lt a c := by unfold lt at *; omega
theorem le_trans {a b c : Ent} (h : ¬ lt b a) (k : ¬ lt c b) : ¬ lt c a := by unfold lt at *; omega
theorem le_of_lt {a b : Ent} (h : lt a b) : ¬ lt b a := lt_asymm h
theorem le_antisymm {a b : Ent} (h : ¬ lt a b) (k : ¬ lt b a) : a = b := by
  unfold lt at *
  have h1 : a.2 = b.2 := by omega
  have h2 : a.1 = b.1 := by omega
  exact Prod.ext h2 h1
/-- an entry by its place -/
def nth (L : List Ent) (i : Nat) : Ent := L.getD i (0, 0)
def swap (L : List Ent) (i j : Nat) : List Ent := (L.set i (nth L j)).set j (nth L i)
theorem swap_length (L : List Ent) (i j : Nat) : (swap L i j).length = L.length := by simp [swap]
theorem nth_set {L : List Ent} {i j : Nat} {x : Ent} (hi : i < L.length) : nth (L.set i x) j = if i = j then x else nth L j := by
  unfold nth
  rw [List.getD_eq_getElem?_getD, List.getD_eq_getElem?_getD, List.getElem?_set]
  split
  · simp [*]
  · rfl
theorem nth_swap {L : List Ent} {i j k : Nat} (hi : i < L.length) (hj : j < L.length) : nth (swap L i j) k = if k = j then nth L i else if k = i then nth L j else nth L k := by
  unfold swap
  rw [nth_set (by simpa using hj), nth_set hi]
  by_cases h1 : k = j
  · simp [h1]
  · by_cases h2 : k = i
    · subst h2; simp [h1, Ne.symm h1]
    · simp [h1, h2, Ne.symm h1, Ne.symm h2]
theorem swap_perm {L : List Ent} {i j : Nat} (hi : i < L.length) (hj : j < L.length) : (swap L i j).Perm L := by
  have e1 : nth L i = L[i] := by simp [nth, List.getD_eq_getElem?_getD, hi]
  have e2 : nth L j = L[j] := by simp [nth, List.getD_eq_getElem?_getD, hj]
  unfold swap
  rw [e1, e2]
  exact List.set_set_perm hi hj
/-- a place's parent -/
def par (i : Nat) : Nat := (i - 1) / 2
theorem par_lt {i : Nat} (h : 0 < i) : par i < i := by unfold par; omega
/-- a heap, in its first n places -/
def HeapN (L : List Ent) (n : Nat) : Prop := ∀ c, 0 < c → c < n → ¬ lt (nth L c) (nth L (par c))
/-- a heap but at j, on the way up -/
def UpAt (L : List Ent) (n j : Nat) : Prop := (∀ c, 0 < c → c < n → c ≠ j → ¬ lt (nth L c) (nth L (par c))) ∧ (0 < j → ∀ c, 0 < c → c < n → par c = j → ¬ lt (nth L c) (nth L (par j)))
theorem UpAt.done {L : List Ent} {n j : Nat} (h : UpAt L n j) (hj : j = 0 ∨ ¬ lt (nth L j) (nth L (par j))) : HeapN L n := by
  intro c h0 hc
  by_cases e : c = j
  · subst e
    rcases hj with rfl | hj
    · omega
    · exact hj
  · exact h.1 c h0 hc e
theorem UpAt.step {L : List Ent} {n j : Nat} (hn : n ≤ L.length) (h : UpAt L n j) (h0 : 0 < j) (hj : j < n) (hlt : lt (nth L j) (nth L (par j))) : UpAt (swap L (par j) j) n (par j) := by
  have hp := par_lt h0
  have hs := fun k => nth_swap (L := L) (i := par j) (j := j) (k := k) (by omega) (by omega)
  refine ⟨fun c hc0 hcn hcp => ?_, fun hp0 c hc0 hcn hcp => ?_⟩
  · have hpc := par_lt hc0
    rw [hs c, hs (par c)]
    by_cases e1 : c = j
    · subst e1
      rw [if_pos rfl, if_neg (by omega), if_pos rfl]
      exact lt_asymm hlt
    · rw [if_neg e1, if_neg hcp]
      by_cases e2 : par c = j
      · rw [if_pos e2]
        exact h.2 h0 c hc0 hcn e2
      · rw [if_neg e2]
        by_cases e3 : par c = par j
        · rw [if_pos e3]
          have := h.1 c hc0 hcn e1
          rw [e3] at this
          exact fun hh => this (lt_trans hh hlt)
        · rw [if_neg e3]
          exact h.1 c hc0 hcn e1
  · have hpp := par_lt hp0
    rw [hs c, hs (par (par j)), if_neg (show ¬ par (par j) = j by omega), if_neg (show ¬ par (par j) = par j by omega)]
    have hup := h.1 (par j) hp0 (by omega) (by omega)
    by_cases e1 : c = j
    · rw [if_pos e1]; exact hup
    · rw [if_neg e1, if_neg (by have := par_lt hc0; omega)]
      have := h.1 c hc0 hcn e1
      rw [hcp] at this
      exact le_trans hup this
/-- a heap but at k, on the way down from i0 -/
def DownAt (L : List Ent) (n i0 k : Nat) : Prop := (∀ c, 0 < c → c < n → par c ≠ k → (c ≠ k ∨ k ≠ i0) → ¬ lt (nth L c) (nth L (par c))) ∧ (0 < k → ∀ c, 0 < c → c < n → par c = k → ¬ lt (nth L c) (nth L (par k)))
theorem DownAt.done {L : List Ent} {n i0 k : Nat} (h : DownAt L n i0 k) (hk : ∀ c, 0 < c → c < n → par c = k → ¬ lt (nth L c) (nth L k)) : (k ≠ i0 → HeapN L n) ∧ (k = i0 → UpAt L n i0) := by
  constructor
  · intro hne c h0 hc
    by_cases e : par c = k
    · rw [e]; exact hk c h0 hc e
    · exact h.1 c h0 hc e (.inr hne)
  · rintro rfl
    refine ⟨fun c h0 hc hne => ?_, h.2⟩
    by_cases e : par c = k
    · rw [e]; exact hk c h0 hc e
    · exact h.1 c h0 hc e (.inl hne)
theorem DownAt.step {L : List Ent} {n i0 k j : Nat} (hn : n ≤ L.length) (h : DownAt L n i0 k) (h0 : 0 < j) (hj : j < n) (hp : par j = k) (hki : i0 ≤ k) (hlt : lt (nth L j) (nth L k)) (hmin : ∀ c, 0 < c → c < n → par c = k → ¬ lt (nth L c) (nth L j)) : DownAt (swap L k j) n i0 j := by
  have hkj : k < j := by rw [← hp]; exact par_lt h0
  have hs := fun x => nth_swap (L := L) (i := k) (j := j) (k := x) (by omega) (by omega)
  refine ⟨fun c hc0 hcn hcp _ => ?_, fun _ c hc0 hcn hcp => ?_⟩
  · have hpc := par_lt hc0
    rw [hs c, hs (par c), if_neg hcp]
    by_cases e1 : c = j
    · subst e1
      rw [if_pos rfl, if_pos hp]
      exact lt_asymm hlt
    · rw [if_neg e1]
      by_cases e2 : c = k
      · subst e2
        rw [if_pos rfl, if_neg (by omega)]
        exact h.2 hc0 j h0 hj hp
      · rw [if_neg e2]
        by_cases e3 : par c = k
        · rw [if_pos e3]
          exact hmin c hc0 hcn e3
        · rw [if_neg e3]
          exact h.1 c hc0 hcn e3 (.inl e2)
  · have hpc := par_lt hc0
    rw [hs c, hs (par j), hp, if_neg (by omega), if_neg (by omega), if_neg (by omega), if_pos rfl]
    have := h.1 c hc0 hcn (by omega) (.inl (by omega))
    rw [hcp] at this
    exact this
/-- what stands first in a heap comes first -/
theorem HeapN.first {L : List Ent} {n : Nat} (h : HeapN L n) : ∀ m c, c ≤ m → c < n → ¬ lt (nth L c) (nth L 0) := by
  intro m
  induction m with
  | zero =>
    intro c hc _
    obtain rfl : c = 0 := by omega
    exact lt_irrefl _
  | succ m ih =>
    intro c hc hn
    by_cases h0 : c = 0
    · subst h0; exact lt_irrefl _
    · have hp := par_lt (Nat.pos_of_ne_zero h0)
      exact le_trans (ih (par c) (by omega) (by omega)) (h c (by omega) hn)
end Heap
end Go.Proofs.Ytgapjglijpdkmaa
