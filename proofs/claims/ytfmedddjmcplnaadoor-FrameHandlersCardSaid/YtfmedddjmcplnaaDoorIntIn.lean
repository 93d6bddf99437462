/- A slice of numbers among the arguments, as a walk wants it. -/
import Derived.Test.YtfmedddjmcplnaaDoorArgs
import Derived.ProofKit
import Derived.OpenShut
import Derived.ChangeSlices
namespace Go.Proofs.YtfmedddjmcplnaaDoor
open Go.ChangeShapes Go.WideShapes Go.ChangeAt Go.RowKit
/-- a slice that reads as numbers of a kind, wherever it lies -/
def IntSl (w : World) (v : Value) (k : IntKind) (l : List Int) : Prop := (∃ q c, v = .slice q l.length c ∧ l.length ≤ c ∧ c ≤ maxLen ∧ ∀ (i : Nat) (x : Int), l[i]? = some x → ∃ b off, q = some ⟨b, off, none⟩ ∧ w.cell? ⟨b, off + i, none⟩ = some (.int k x)) ∧ ∀ x ∈ l, (Lit.int k x).wf = true
theorem IntSl.ext {w w' : World} {v : Value} {k : IntKind} {l : List Int} (h : IntSl w v k l) (e : Ext w w') : IntSl w' v k l := by
  obtain ⟨⟨q, c, hv, h1, h2, hc⟩, hw⟩ := h
  exact ⟨⟨q, c, hv, h1, h2, fun i x hx => by obtain ⟨b, off, hq, hcc⟩ := hc i x hx; exact ⟨b, off, hq, e.cell hcc⟩⟩, hw⟩
theorem open_nums {H : Type} {enc : TypeId × Value → H} {P : Program} {W : World} {v : Value} {d : DataW H} {ps : List MemPlace} {base : Nat} {t e : TypeId} {k : IntKind} (ht : P.underlying t = some (.slice e)) (he : P.underlying e = some (.int k)) (hs : P.cellsOf e = 1)
    (hval : Value.okWide P W .any base t v) (h : DataW.Trod enc P W 0 (fun _ => true) true t v d ps) : ∃ l, IntSl W v k l := by
  obtain ⟨a0, len, cap, rfl⟩ := okWide_slice ht hval
  obtain ⟨fuel, hf⟩ := h
  simp only [Value.cells] at hf
  rcases open_ints ht he hs hf with ⟨hcs, hx⟩ | ⟨a, len', cap', zs, hcs, hb, hlc, hcm, hzl, hx, hcell, hwf⟩
  · simp only [List.cons.injEq, and_true, Value.slice.injEq] at hcs
    obtain ⟨rfl, rfl, rfl⟩ := hcs
    exact ⟨[], ⟨none, 0, rfl, Nat.le_refl _, Nat.zero_le _, fun i x hx => by simp at hx⟩, fun x h => by cases h⟩
  · simp only [List.cons.injEq, and_true, Value.slice.injEq] at hcs
    obtain ⟨rfl, rfl, rfl⟩ := hcs
    simp only [if_true] at hzl
    have hl : (zs.take len).length = len := by rw [List.length_take]; omega
    refine ⟨zs.take len, ⟨some a, cap, by rw [hl], by rw [hl]; exact hlc, hcm, fun i x hx => ?_⟩, fun x hx => hwf x (List.mem_of_mem_take hx)⟩
    have hi : i < (zs.take len).length := (List.getElem?_eq_some_iff.1 hx).1
    rw [hl] at hi
    rw [List.getElem?_take_of_lt (by omega)] at hx
    have hc := hcell i (by omega)
    rw [List.getD_eq_getElem?_getD, hx] at hc
    have hc0 := hcell 0 (by omega)
    obtain ⟨b, off, spot⟩ := a
    have hspot : spot = none := by simpa [Addr.add] using World.cell?_spot hc0
    subst hspot
    refine ⟨b, off, rfl, ?_⟩
    simpa [add_plain] using hc
end Go.Proofs.YtfmedddjmcplnaaDoor
