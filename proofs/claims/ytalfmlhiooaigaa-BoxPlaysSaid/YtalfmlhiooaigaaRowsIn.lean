/- A slice among the arguments, whatever its elements: each element's cells, and that they read. -/
import Derived.Test.YtalfmlhiooaigaaArgs
import Derived.Deep.Slices
namespace Go.Proofs.Ytalfmlhiooaigaa
open Go.ChangeShapes Go.WideShapes Go.ChangeAt Go.RowKit Go.Deep
/-- a slice whose elements are rows of s cells, wherever it lies -/
def RowsSl (w : World) (v : Value) (s : Nat) (l : List (List Value)) : Prop := ∃ q c, v = .slice q l.length c ∧ l.length ≤ c ∧ c ≤ maxLen ∧
  ∀ (i : Nat) (cs : List Value), l[i]? = some cs → cs.length = s ∧ ∃ b off, q = some ⟨b, off, none⟩ ∧ ∀ (f : Nat) (u : Value), cs[f]? = some u → w.cell? ⟨b, off + i * s + f, none⟩ = some u
theorem RowsSl.ext {w w' : World} {v : Value} {s : Nat} {l : List (List Value)} (h : RowsSl w v s l) (e : Ext w w') : RowsSl w' v s l := by
  obtain ⟨q, c, hv, h1, h2, hc⟩ := h
  exact ⟨q, c, hv, h1, h2, fun i cs hcs => by obtain ⟨hl, b, off, hq, hf⟩ := hc i cs hcs; exact ⟨hl, b, off, hq, fun f u hu => e.cell (hf f u hu)⟩⟩
/-- what an argument's element reads as -/
def ReadsAs {H : Type} (enc : TypeId × Value → H) (P : Program) (w : World) (e : TypeId) (cs : List Value) : Prop := ∃ n x, DataW.trod enc P w 0 (fun _ => true) true n e cs = some x
theorem open_rows {H : Type} {enc : TypeId × Value → H} {P : Program} {w : World} {base : Nat} {t e : TypeId} {s : Nat} {v : Value} {d : DataW H} {ps : List MemPlace} (ht : P.underlying t = some (.slice e)) (hs : P.cellsOf e = s) (h1 : 1 ≤ s)
    (hval : Value.okWide P w .any base t v) (h : DataW.Trod enc P w 0 (fun _ => true) true t v d ps) : ∃ l, RowsSl w v s l ∧ ∀ cs ∈ l, ReadsAs enc P w e cs := by
  obtain ⟨a0, len, cap, rfl⟩ := okWide_slice ht hval
  obtain ⟨fuel, hf⟩ := h
  simp only [Value.cells] at hf
  rcases open_slice ht hf with ⟨hcs, _⟩ | ⟨a, len', cap', m, n, D, Pl, hcs, _, hlc, hcm, hm, _, hel⟩
  · simp only [List.cons.injEq, and_true, Value.slice.injEq] at hcs
    obtain ⟨rfl, rfl, rfl⟩ := hcs
    exact ⟨[], ⟨none, 0, rfl, Nat.le_refl _, Nat.zero_le _, fun i cs h => by simp at h⟩, fun cs h => by cases h⟩
  · simp only [List.cons.injEq, and_true, Value.slice.injEq] at hcs
    obtain ⟨rfl, rfl, rfl⟩ := hcs
    simp only [if_true] at hm
    rw [hs] at hel
    rw [hm] at hel
    obtain ⟨V, hV⟩ := choose_lt (n := cap) (p := fun i cs => w.cells? 0 (a.add (i * s)) s = some cs ∧ DataW.trod enc P w 0 (fun _ => true) true n e cs = some (D i, Pl i)) (fun i hi => hel i hi)
    have hl : ((List.range len).map V).length = len := by simp
    refine ⟨(List.range len).map V, ⟨some a, cap, by rw [hl], by rw [hl]; exact hlc, hcm, fun i cs hi => ?_⟩, fun cs hcs => ?_⟩
    · have hil : i < len := by have := (List.getElem?_eq_some_iff.1 hi).1; simpa using this
      have hcs : V i = cs := by simpa [hil] using hi
      subst hcs
      obtain ⟨_, hlen, hcell⟩ := World.cells?_some (hV i (by omega)).1
      obtain ⟨_, hlen0, hcell0⟩ := World.cells?_some (hV 0 (by omega)).1
      have hc0 := hcell0 0 (by omega)
      rw [List.getElem?_eq_getElem (by omega : 0 < (V 0).length), Go.Deep.add_add] at hc0
      obtain ⟨b, off, spot⟩ := a
      have hspot : spot = none := by simpa [Addr.add] using World.cell?_spot hc0
      subst hspot
      refine ⟨hlen, b, off, rfl, fun f u hu => ?_⟩
      have hfl : f < s := by rw [← hlen]; exact (List.getElem?_eq_some_iff.1 hu).1
      have := hcell f hfl
      rw [Go.Deep.add_add, add_plain, hu] at this
      rw [Nat.add_assoc]
      exact this
    · obtain ⟨i, hi, rfl⟩ := List.mem_map.1 hcs
      have hil := List.mem_range.1 hi
      exact ⟨n, _, (hV i (by omega)).2⟩
end Go.Proofs.Ytalfmlhiooaigaa
