/- BoxPlays, for every argument. -/
import Derived.Test.YtalfmlhiooaigaaBoxV
namespace Go.Proofs.Ytalfmlhiooaigaa
open Go Go.RowKit
theorem plays_walk {w : World} {v : Value} {L : List (Int × (Value × List Cl))} {x y : Int} (hv : StepsP w v L) : Calls Try.prog 3 #[.int .i64 x, .int .i64 y, v] w (TrueExt w) := by
  by_cases h : 1 ≤ x ∧ x ≤ 8 ∧ 0 ≤ y ∧ y ≤ 2000
  · obtain ⟨m, rfl⟩ := Int.eq_ofNat_of_zero_le (show 0 ≤ x by omega)
    obtain ⟨n, rfl⟩ := Int.eq_ofNat_of_zero_le h.2.2.1
    exact plays_yes hv (by omega) (by omega) (by omega)
  · exact plays_not hv h
end Go.Proofs.Ytalfmlhiooaigaa
