/- A slice of words among the arguments; rows that the call owns may be written. -/
import Derived.Test.YtibpnhaamdelmaaArenaX
import Derived.Test.YtibpnhaamdelmaaArgs
import Derived.ProofKit
import Derived.OpenShut
import Derived.ChangeSlices
namespace Go.Proofs.Ytibpnhaamdelmaa
open Go.ChangeShapes Go.WideShapes Go.ChangeAt Go.RowKit Arena
theorem open_u64s {H : Type} {enc : TypeId × Value → H} {W : World} {v : Value} {d : DataW H} {ps : List MemPlace} {base : Nat} (hval : Value.okWide Try.prog W .any base 42 v) (h : DataW.Trod enc Try.prog W 0 (fun _ => true) true 42 v d ps) : ∃ l, WordSl W v l := by
  obtain ⟨a0, len, cap, rfl⟩ := okWide_slice Try.underlying42 hval
  obtain ⟨fuel, hf⟩ := h
  simp only [Value.cells] at hf
  rcases open_ints Try.underlying42 Try.underlying29 (by kernel_rfl) hf with ⟨hcs, hx⟩ | ⟨a, len', cap', zs, hcs, hb, hlc, hcm, hzl, hx, hcell, hwf⟩
  · simp only [List.cons.injEq, and_true, Value.slice.injEq] at hcs
    obtain ⟨rfl, rfl, rfl⟩ := hcs
    exact ⟨[], none, 0, rfl, Nat.le_refl _, Nat.zero_le _, fun i x hx => by simp at hx⟩
  · simp only [List.cons.injEq, and_true, Value.slice.injEq] at hcs
    obtain ⟨rfl, rfl, rfl⟩ := hcs
    simp only [if_true] at hzl
    have hl : (zs.take len).length = len := by rw [List.length_take]; omega
    refine ⟨zs.take len, some a, cap, by rw [hl], by rw [hl]; exact hlc, hcm, fun i z hz => ?_⟩
    have hi : i < (zs.take len).length := (List.getElem?_eq_some_iff.1 hz).1
    rw [List.length_take] at hi
    rw [List.getElem?_take_of_lt (by omega)] at hz
    obtain ⟨b, off, rfl, hc⟩ := ints_at hcell (by omega)
    refine ⟨b, off, rfl, ?_⟩
    have hc := hc i (by omega)
    rw [List.getD_eq_getElem?_getD, hz] at hc
    exact hc
end Go.Proofs.Ytibpnhaamdelmaa
