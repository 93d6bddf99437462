/- BoxRoom, for every argument. -/
import Derived.Test.YtalfmlhiooaigaaBoxO
import Derived.Test.YtalfmlhiooaigaaMsgIn
namespace Go.Proofs.Ytalfmlhiooaigaa
open Go.RowKit Go
theorem room_walk {w : World} {v : Value} {L : List (Value × List Cl)} {x y : Int} (hx : (Lit.int .u8 x).wf = true) (hy : (Lit.int .u8 y).wf = true) (hv : MsgsP w v L) : Calls Try.prog 5 #[.int .u8 x, .int .u8 y, v] w (TrueExt w) := by
  have h3 : IntKind.u8.min ≤ x ∧ x ≤ IntKind.u8.max := by simpa [Lit.wf] using hx
  have h4 : 0 ≤ x ∧ x ≤ 255 := h3
  have g3 : IntKind.u8.min ≤ y ∧ y ≤ IntKind.u8.max := by simpa [Lit.wf] using hy
  have g4 : 0 ≤ y ∧ y ≤ 255 := g3
  obtain ⟨m, rfl⟩ := Int.eq_ofNat_of_zero_le h4.1
  obtain ⟨n, rfl⟩ := Int.eq_ofNat_of_zero_le g4.1
  exact room_nat hv (by omega) (by omega)
end Go.Proofs.Ytalfmlhiooaigaa
