/- BoxOrder: what holds between the rounds. -/
import Derived.Test.YtalfmlhiooaigaaBoxN
namespace Go.Proofs.Ytalfmlhiooaigaa
open Go.RowKit Go
set_option maxHeartbeats 4000000
set_option maxRecDepth 100000
theorem EMsg : ElemT Try.prog 27 29 1 24 := ⟨Try.underlying27, ⟨.slice none 0 0, by kernel_rfl, rfl⟩, by decide⟩
structure OrdInv (w wr : World) (g c : Nat) (vin : Value) (In B : List (Value × List Cl)) : Prop where
  box : BoxAt wr g c 8 2000 B
  same : B.map Prod.snd = In.map Prod.snd
  own : OwnP wr (g + 1) 29 vin 1 (In.map fun x => [x.1])
  rd : ∀ x ∈ In, MsgP w x.1 x.2
  ext : Ext w wr
  sep : ∀ x ∈ B, ∀ b, x.1.ownBlock = some b → vin.ownBlock ≠ some b
theorem OrdInv.step {w wr w2 w3 w3' w4 wx : World} {g c bm : Nat} {vin vin' m v3 xv : Value} {In B : List (Value × List Cl)} {M : List Cl} (hc : w.heap.size ≤ c) (H : OrdInv w wr g c vin In B)
    (ho2 : OwnP w2 wr.heap.size 41 m 4 (M.map celC)) (hm : m.ownBlock = some bm) (hx2 : Ext wr w2) (t3 : Turn [g, c] w2 w3) (h3 : BoxAt w3 g c 8 2000 (B ++ [(v3, M)])) (o3 : OwnP w3 w2.heap.size 41 v3 4 (M.map celC))
    (hx3 : Ext w3 w3') (hg4 : w3'.grownBy w4 vin.ownBlock) (ho4 : OwnP w4 (g + 1) 29 vin' 1 ((In.map fun x => [x.1]) ++ [[xv]])) (hb4 : vin'.ownBlock = vin.ownBlock ∨ vin'.ownBlock = some w3'.heap.size)
    (t5 : Turn [bm] w4 wx) (hr : MsgP w xv M) : OrdInv w wx g c vin' (In ++ [(xv, M)]) (B ++ [(v3, M)]) := by
  have s0 := Below.size H.ext
  have s2 := Below.size hx2
  have s3 := t3.size
  have s3' := Below.size hx3
  have hgw : g < wr.heap.size := (Array.getElem?_eq_some_iff.1 H.box.blk).1
  have hne := H.box.ne
  obtain ⟨hm1, hm2⟩ := ho2.own bm hm
  have hv : ∀ b, vin.ownBlock = some b → g + 1 ≤ b ∧ b < wr.heap.size := H.own.own
  have hB : ∀ x ∈ B, ∀ b, x.1.ownBlock = some b → g + 1 ≤ b ∧ b < wr.heap.size := fun x hx b hb => (H.box.its x hx).2.own b hb
  have h3o : ∀ b, v3.ownBlock = some b → w2.heap.size ≤ b ∧ b < w3.heap.size := o3.own
  have hv' : ∀ b, vin'.ownBlock = some b → (vin.ownBlock = some b) ∨ b = w3'.heap.size := fun b hb => by
    rcases hb4 with h | h
    · exact .inl (h ▸ hb)
    · exact .inr (Option.some.inj (hb.symm.trans h))
  have t4 : Turn vin.ownBlock.toList w3' w4 := Turn.of_grown hg4 (fun b hb => .inl (by rw [hb]; simp))
  have s4 := t4.size
  have box4 : BoxAt w4 g c 8 2000 (B ++ [(v3, M)]) := (h3.ext hx3).turn t4 (fun h => by rw [Option.mem_toList] at h; have := hv g h; omega) (fun h => by rw [Option.mem_toList] at h; have := hv c h; omega) (fun x hx b hb h => by
    rw [Option.mem_toList] at h
    have h1 := hv b h
    rcases List.mem_append.1 hx with hx | hx
    · exact H.sep x hx b hb h
    · rw [List.mem_singleton.1 hx] at hb
      have := h3o b hb
      omega)
  refine ⟨box4.turn t5 (by simp; omega) (by simp; omega) (fun x hx b hb h => ?_), by simp [H.same], ?_, fun x hx => ?_, ?_, fun x hx b hb h => ?_⟩
  · simp at h
    rcases List.mem_append.1 hx with hx | hx
    · have := hB x hx b hb; omega
    · rw [List.mem_singleton.1 hx] at hb
      have := h3o b hb
      omega
  · have := ho4.turn t5 (fun b hb h => by
      simp at h
      rcases hv' b hb with h1 | h1
      · have := hv b h1; omega
      · omega)
    simpa using this
  · rcases List.mem_append.1 hx with hx | hx
    · exact H.rd x hx
    · rw [List.mem_singleton.1 hx]; exact hr
  · have e3 : Ext w w3' := Ext.trans (Below.trans (Ext.trans H.ext hx2) (t3.below (by omega) (by intro b hb; simp at hb; omega))) hx3
    exact Below.trans (Below.trans e3 (t4.below (by have := Below.size e3; omega) (fun b hb => by rw [Option.mem_toList] at hb; have := hv b hb; omega))) (t5.below (by have := Below.size e3; omega) (by intro b hb; simp at hb; omega))
  · rcases hv' b h with h1 | h1
    · rcases List.mem_append.1 hx with hx | hx
      · exact H.sep x hx b hb h1
      · rw [List.mem_singleton.1 hx] at hb
        have := h3o b hb
        have := hv b h1
        omega
    · rcases List.mem_append.1 hx with hx | hx
      · have := hB x hx b hb; omega
      · rw [List.mem_singleton.1 hx] at hb
        have := h3o b hb
        omega
theorem OrdInv.go {w wr w' : World} {g c : Nat} {vin : Value} {In B : List (Value × List Cl)} (H : OrdInv w wr g c vin In B) (e : Ext wr w') : OrdInv w w' g c vin In B :=
  ⟨H.box.ext e, H.same, H.own.ext e, H.rd, H.ext.trans e, H.sep⟩
theorem OrdInv.len {w wr : World} {g c : Nat} {vin : Value} {In B : List (Value × List Cl)} (H : OrdInv w wr g c vin In B) : B.length = In.length ∧ In.length ≤ 8 := by
  have h1 : B.length = In.length := by have := congrArg List.length H.same; simpa using this
  have := H.box.len
  exact ⟨h1, by omega⟩
end Go.Proofs.Ytalfmlhiooaigaa
