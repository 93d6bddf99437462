/- A slice of bytes among the arguments, as a walk wants it. -/
import Derived.Test.YtibpnhaamdelmaaArenaM
import Derived.Test.YtibpnhaamdelmaaArgs
import Derived.ProofKit
import Derived.OpenShut
import Derived.ChangeSlices
namespace Go.Proofs.Ytibpnhaamdelmaa
open Go.ChangeShapes Go.WideShapes Go.ChangeAt Go.RowKit Arena
theorem open_u8s {H : Type} {enc : TypeId × Value → H} {W : World} {v : Value} {d : DataW H} {ps : List MemPlace} {base : Nat} (hval : Value.okWide Try.prog W .any base 54 v) (h : DataW.Trod enc Try.prog W 0 (fun _ => true) true 54 v d ps) : ∃ l, ByteSl W v l := by
  obtain ⟨a0, len, cap, rfl⟩ := okWide_slice Try.underlying54 hval
  obtain ⟨fuel, hf⟩ := h
  simp only [Value.cells] at hf
  rcases open_ints Try.underlying54 Try.underlying5 (by kernel_rfl) hf with ⟨hcs, hx⟩ | ⟨a, len', cap', zs, hcs, hb, hlc, hcm, hzl, hx, hcell, hwf⟩
  · simp only [List.cons.injEq, and_true, Value.slice.injEq] at hcs
    obtain ⟨rfl, rfl, rfl⟩ := hcs
    exact ⟨[], none, 0, rfl, Nat.le_refl _, Nat.zero_le _, fun i x hx => by simp at hx⟩
  · simp only [List.cons.injEq, and_true, Value.slice.injEq] at hcs
    obtain ⟨rfl, rfl, rfl⟩ := hcs
    simp only [if_true] at hzl
    have hl : ((zs.take len).map Int.toNat).length = len := by rw [List.length_map, List.length_take]; omega
    refine ⟨(zs.take len).map Int.toNat, some a, cap, by rw [hl], by rw [hl]; exact hlc, hcm, fun i x hx => ?_⟩
    rw [List.getElem?_map] at hx
    obtain ⟨z, hz, rfl⟩ := Option.map_eq_some_iff.1 hx
    have hi : i < (zs.take len).length := (List.getElem?_eq_some_iff.1 hz).1
    rw [List.length_take] at hi
    rw [List.getElem?_take_of_lt (by omega)] at hz
    have hm : z ∈ zs := List.mem_of_getElem? hz
    have hw := hwf z hm
    have hw2 : 0 ≤ z ∧ z ≤ 255 := by
      have h3 : IntKind.u8.min ≤ z ∧ z ≤ IntKind.u8.max := by simpa [Lit.wf] using hw
      exact h3
    have hc := hcell i (by omega)
    rw [List.getD_eq_getElem?_getD, hz] at hc
    have hn : ((z.toNat : Nat) : Int) = z := by omega
    refine ⟨by omega, a, rfl, by rw [hn]; exact hc, ?_⟩
    by_cases hlt : a.block < W.heap.size
    · exact hlt
    · have hnone : W.heap[a.block]? = none := Array.getElem?_eq_none (by omega)
      simp [World.cell?, add_block, hnone] at hc
theorem least_walk' {v : Value} {l : List Nat} {x : Int} {w : World} (hv : ByteSl w v l) (hw : (Lit.int .u8 x).wf = true) : Calls Try.prog 5 #[v, .int .u8 x] w (TrueExt w) := by
  have h3 : IntKind.u8.min ≤ x ∧ x ≤ IntKind.u8.max := by simpa [Lit.wf] using hw
  have h4 : 0 ≤ x ∧ x ≤ 255 := h3
  obtain ⟨kn, rfl⟩ := Int.eq_ofNat_of_zero_le h4.1
  exact least_walk hv (by omega)
end Go.Proofs.Ytibpnhaamdelmaa
