/- ArenaLeast: the plain part. -/
import Derived.Test.YtibpnhaamdelmaaArenaX
namespace Go.Proofs.Ytibpnhaamdelmaa
open Go.RowKit Go.Maps Arena
namespace Arena
theorem drop_ins {x : Nat × Nat} : ∀ {R : List (Nat × Nat)}, (∀ r ∈ R, r.1 ≠ x.1) → drop x.1 (ins x R) = R := by
  intro R
  induction R with
  | nil => intro _; simp [ins, drop]
  | cons y R ih =>
    intro h
    have hy := h y (.head _)
    have hd : ∀ r ∈ y :: R, (!decide ((r.1 : Int) = (x.1 : Int))) = true := fun r hr => by have := h r hr; simp; omega
    unfold ins
    split
    · unfold drop
      rw [List.filter_cons_of_neg (by simp)]
      exact List.filter_eq_self.2 hd
    · unfold drop at *
      rw [List.filter_cons, if_pos (hd y (.head _)), ih fun r hr => h r (.tail _ hr)]
/-- what the law's own search has found among the first regions -/
def Found (n k : Nat) (R : List (Nat × Nat)) (i at_ : Nat) (want : Int) : Prop := at_ ≤ n ∧ ((want = -1 ∧ scan k 0 R = scan k at_ (R.drop i)) ∨ (want = (scan k 0 R : Int) ∧ scan k 0 R + k ≤ n))
theorem found_start (n k : Nat) (R : List (Nat × Nat)) : Found n k R 0 0 (-1) := ⟨Nat.zero_le _, .inl ⟨rfl, rfl⟩⟩
theorem found_take {n k : Nat} {R : List (Nat × Nat)} {i at_ : Nat} (hg : Good n R) (h : Found n k R i at_ (-1)) (hi : i < R.length) (hr : at_ + k ≤ R[i].1) : Found n k R (i + 1) (R[i].1 + R[i].2) at_ := by
  have hm := hg.2 R[i] (List.getElem_mem hi)
  rcases h.2 with ⟨_, h2⟩ | ⟨h2, _⟩
  · rw [List.drop_eq_getElem_cons hi, scan, if_pos hr] at h2
    exact ⟨hm.2, .inr ⟨by rw [h2], by omega⟩⟩
  · omega
theorem found_pass {n k : Nat} {R : List (Nat × Nat)} {i at_ : Nat} {want : Int} (hg : Good n R) (h : Found n k R i at_ want) (hi : i < R.length) (hr : want = -1 → ¬ at_ + k ≤ R[i].1) : Found n k R (i + 1) (R[i].1 + R[i].2) want := by
  have hm := hg.2 R[i] (List.getElem_mem hi)
  rcases h.2 with ⟨h1, h2⟩ | h2
  · rw [List.drop_eq_getElem_cons hi, scan, if_neg (hr h1)] at h2
    exact ⟨hm.2, .inl ⟨h1, h2⟩⟩
  · exact ⟨hm.2, .inr h2⟩
/-- behind the last gap: the least place with room, or none -/
theorem found_last {n k : Nat} {R : List (Nat × Nat)} {at_ : Nat} {want : Int} (h : Found n k R R.length at_ want) :
    (want = -1 ∧ scan k 0 R = at_) ∨ (want = (scan k 0 R : Int) ∧ scan k 0 R + k ≤ n) := by
  rcases h.2 with ⟨h1, h2⟩ | h2
  · rw [List.drop_eq_nil_of_le (Nat.le_refl _)] at h2
    exact .inl ⟨h1, h2⟩
  · exact .inr h2
end Arena
end Go.Proofs.Ytibpnhaamdelmaa
