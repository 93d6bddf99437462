/- A row of messages among the arguments; what a box does not take. -/
import Derived.Test.YtalfmlhiooaigaaBoxM
import Derived.Test.YtalfmlhiooaigaaRowsIn
namespace Go.Proofs.Ytalfmlhiooaigaa
open Go.RowKit Go
set_option maxHeartbeats 4000000
set_option maxRecDepth 100000
/-- a row of messages, wherever it lies -/
def MsgsP (w : World) (v : Value) (L : List (Value × List Cl)) : Prop := RowsSl w v 1 (L.map fun x => [x.1]) ∧ ∀ x ∈ L, MsgP w x.1 x.2
theorem MsgsP.ext {w w' : World} {v : Value} {L : List (Value × List Cl)} (h : MsgsP w v L) (e : Ext w w') : MsgsP w' v L := ⟨h.1.ext e, fun x hx => (h.2 x hx).ext e⟩
theorem MsgsP.at {w : World} {v : Value} {L : List (Value × List Cl)} (h : MsgsP w v L) : ∃ q c, v = .slice q L.length c ∧ L.length ≤ c ∧ c ≤ maxLen ∧
    ∀ (i : Nat) (x : Value × List Cl), L[i]? = some x → MsgP w x.1 x.2 ∧ ∃ b off, q = some ⟨b, off, none⟩ ∧ w.cell? ⟨b, off + i, none⟩ = some x.1 := by
  obtain ⟨⟨q, c, hv, h1, h2, hc⟩, hm⟩ := h
  rw [List.length_map] at hv h1
  refine ⟨q, c, hv, h1, h2, fun i x hx => ⟨hm x (List.mem_of_getElem? hx), ?_⟩⟩
  obtain ⟨_, b, off, hq, hf⟩ := hc i [x.1] (by rw [List.getElem?_map, hx]; rfl)
  have := hf 0 x.1 rfl
  rw [Nat.mul_one, Nat.add_zero] at this
  exact ⟨b, off, hq, this⟩
theorem put_no {w : World} {g c cap most : Nat} {L : List (Value × List Cl)} {v : Value} {M : List Cl} (h : BoxAt w g c cap most L) (hm : MsgP w v M) (hb : ¬ (goodM M = true ∧ L.length < cap ∧ bsum L + wsum M ≤ most)) : Calls Try.prog 11 #[.pointer (some ⟨g, 0, none⟩), v] w fun e w' => e = .returned (.bool false) ∧ Ext w w' := by
  cases hg : goodM M with
  | false => exact put_bad h hm (.inl hg)
  | true =>
    by_cases hs : bsum L + wsum M ≤ most
    · exact put_full h hm hg hs (by have := h.len; have : ¬ L.length < cap := fun hl => hb ⟨hg, hl, hs⟩; omega)
    · exact put_bad h hm (.inr ⟨hg, by omega⟩)
theorem len_q {w : World} {g c cap most : Nat} {L : List (Value × List Cl)} (h : BoxAt w g c cap most L) (d : Nat) (os : Array Obj) : Calls Try.prog 15 #[.pointer (some ⟨g, 0, none⟩)] (Go.Sort.grow (redrawn w d) os) fun e w'' => e = .returned (.int .i64 L.length) ∧ ∃ p : Regrown, w'' = Go.Sort.grow (redrawn w p.d) p.os :=
  quiet_same ((len_box (h.ext (Ext.regrown w d os))).mono fun _ _ ⟨a, b⟩ => ⟨a, b.symm⟩)
theorem words_q {w : World} {g c cap most : Nat} {L : List (Value × List Cl)} (h : BoxAt w g c cap most L) (d : Nat) (os : Array Obj) : Calls Try.prog 16 #[.pointer (some ⟨g, 0, none⟩)] (Go.Sort.grow (redrawn w d) os) fun e w'' => e = .returned (.int .i64 (bsum L : Nat)) ∧ ∃ p : Regrown, w'' = Go.Sort.grow (redrawn w p.d) p.os :=
  quiet_same ((words_box (h.ext (Ext.regrown w d os))).mono fun _ _ ⟨a, b⟩ => ⟨a, b.symm⟩)
theorem refwords_q {w : World} {v : Value} {M : List Cl} (h : MsgP w v M) (hg : goodM M = true) (d : Nat) (os : Array Obj) : Calls Try.prog 10 #[v] (Go.Sort.grow (redrawn w d) os) fun e w'' => e = .returned (.int .i64 (wsum M)) ∧ ∃ p : Regrown, w'' = Go.Sort.grow (redrawn w p.d) p.os :=
  quiet_ext (refwords_msg (h.ext (Ext.regrown w d os)) hg)
end Go.Proofs.Ytalfmlhiooaigaa
