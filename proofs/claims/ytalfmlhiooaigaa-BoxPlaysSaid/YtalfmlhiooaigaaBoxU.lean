/- BoxPlays: what holds between the rounds; its steps among the arguments. -/
import Derived.Test.YtalfmlhiooaigaaBoxR
import Derived.Test.YtalfmlhiooaigaaMsgIn
import Derived.Test.YtalfmlhiooaigaaFifo
namespace Go.Proofs.Ytalfmlhiooaigaa
open Go Go.RowKit Go.ChangeShapes Go.WideShapes Go.ChangeAt Go.Deep
set_option maxHeartbeats 4000000
set_option maxRecDepth 100000
structure PlayInv (w wr : World) (g c cap most : Nat) (vh : Value) (H B : List (Value × List Cl)) : Prop where
  box : BoxAt wr g c cap most B
  same : B.map Prod.snd = H.map Prod.snd
  own : FifoP wr (g + 1) 29 vh (H.map Prod.fst)
  rd : ∀ x ∈ H, MsgP w x.1 x.2
  ext : Ext w wr
  sep : ∀ x ∈ B, ∀ b, x.1.ownBlock = some b → vh.ownBlock ≠ some b
theorem PlayInv.go {w wr w' : World} {g c cap most : Nat} {vh : Value} {H B : List (Value × List Cl)} (h : PlayInv w wr g c cap most vh H B) (e : Ext wr w') : PlayInv w w' g c cap most vh H B :=
  ⟨h.box.ext e, h.same, h.own.ext e, h.rd, h.ext.trans e, h.sep⟩
theorem PlayInv.len {w wr : World} {g c cap most : Nat} {vh : Value} {H B : List (Value × List Cl)} (h : PlayInv w wr g c cap most vh H B) : B.length = H.length ∧ H.length ≤ 8 := by
  have h1 : B.length = H.length := by have := congrArg List.length h.same; simpa using this
  have := h.box.len
  have := h.box.cap8
  exact ⟨h1, by omega⟩
theorem PlayInv.put {w wr w2 w3 w3' w4 : World} {g c cap most : Nat} {vh vh' v3 xv : Value} {H B : List (Value × List Cl)} {M : List Cl} (hc : w.heap.size ≤ c) (I : PlayInv w wr g c cap most vh H B)
    (hx2 : Ext wr w2) (t3 : Turn [g, c] w2 w3) (h3 : BoxAt w3 g c cap most (B ++ [(v3, M)])) (o3 : OwnP w3 w2.heap.size 41 v3 4 (M.map celC))
    (hx3 : Ext w3 w3') (t4 : Turn vh.ownBlock.toList w3' w4) (ho4 : FifoP w4 (g + 1) 29 vh' (H.map Prod.fst ++ [xv])) (hb4 : vh'.ownBlock = vh.ownBlock ∨ vh'.ownBlock = some w3'.heap.size)
    (hr : MsgP w xv M) : PlayInv w w4 g c cap most vh' (H ++ [(xv, M)]) (B ++ [(v3, M)]) := by
  have s0 := Below.size I.ext
  have s2 := Below.size hx2
  have s3 := t3.size
  have s3' := Below.size hx3
  have hgw : g < wr.heap.size := (Array.getElem?_eq_some_iff.1 I.box.blk).1
  have hne := I.box.ne
  have hv : ∀ b, vh.ownBlock = some b → g + 1 ≤ b ∧ b < wr.heap.size := I.own.own
  have hB : ∀ x ∈ B, ∀ b, x.1.ownBlock = some b → g + 1 ≤ b ∧ b < wr.heap.size := fun x hx b hb => (I.box.its x hx).2.own b hb
  have h3o : ∀ b, v3.ownBlock = some b → w2.heap.size ≤ b ∧ b < w3.heap.size := o3.own
  have hv' : ∀ b, vh'.ownBlock = some b → (vh.ownBlock = some b) ∨ b = w3'.heap.size := fun b hb => by
    rcases hb4 with h | h
    · exact .inl (h ▸ hb)
    · exact .inr (Option.some.inj (hb.symm.trans h))
  have box4 : BoxAt w4 g c cap most (B ++ [(v3, M)]) := (h3.ext hx3).turn t4 (fun h => by rw [Option.mem_toList] at h; have := hv g h; omega) (fun h => by rw [Option.mem_toList] at h; have := hv c h; omega) (fun x hx b hb h => by
    rw [Option.mem_toList] at h
    have h1 := hv b h
    rcases List.mem_append.1 hx with hx | hx
    · exact I.sep x hx b hb h
    · rw [List.mem_singleton.1 hx] at hb
      have := h3o b hb
      omega)
  refine ⟨box4, by simp [I.same], by simpa using ho4, fun x hx => ?_, ?_, fun x hx b hb h => ?_⟩
  · rcases List.mem_append.1 hx with hx | hx
    · exact I.rd x hx
    · rw [List.mem_singleton.1 hx]; exact hr
  · have e3 : Ext w w3' := Ext.trans (Below.trans (Ext.trans I.ext hx2) (t3.below (by omega) (by intro b hb; simp at hb; omega))) hx3
    exact Below.trans e3 (t4.below (by have := Below.size e3; omega) (fun b hb => by rw [Option.mem_toList] at hb; have := hv b hb; omega))
  · rcases hv' b h with h1 | h1
    · rcases List.mem_append.1 hx with hx | hx
      · exact I.sep x hx b hb h1
      · rw [List.mem_singleton.1 hx] at hb
        have := h3o b hb
        have := hv b h1
        omega
    · rcases List.mem_append.1 hx with hx | hx
      · have := hB x hx b hb; omega
      · rw [List.mem_singleton.1 hx] at hb
        have := h3o b hb
        omega
theorem PlayInv.take {w wr w3 : World} {g c cap most : Nat} {vh vh' : Value} {x y : Value × List Cl} {H B : List (Value × List Cl)} (hc : w.heap.size ≤ c) (I : PlayInv w wr g c cap most vh (x :: H) (y :: B))
    (t3 : Turn [g, c] wr w3) (h3 : BoxAt w3 g c cap most B) (ho : FifoP w3 (g + 1) 29 vh' (H.map Prod.fst)) (hb : vh'.ownBlock = vh.ownBlock) : PlayInv w w3 g c cap most vh' H B := by
  have s0 := Below.size I.ext
  have hne := I.box.ne
  refine ⟨h3, ?_, ho, fun z hz => I.rd z (.tail _ hz), I.ext.turn t3 (by intro b hb; simp at hb; omega), fun z hz b hb' h => I.sep z (.tail _ hz) b hb' (hb ▸ h)⟩
  have := I.same
  simp only [List.map_cons, List.cons.injEq] at this
  exact this.2
theorem PlayInv.heads {w wr : World} {g c cap most : Nat} {vh : Value} {x y : Value × List Cl} {H B : List (Value × List Cl)} (I : PlayInv w wr g c cap most vh (x :: H) (y :: B)) : y.2 = x.2 := by
  have := I.same
  simp only [List.map_cons, List.cons.injEq] at this
  exact this.1
theorem PlayInv.own_turn {w wr w3 : World} {g c cap most : Nat} {vh : Value} {H B : List (Value × List Cl)} (I : PlayInv w wr g c cap most vh H B) (t3 : Turn [g, c] wr w3) : FifoP w3 (g + 1) 29 vh (H.map Prod.fst) :=
  I.own.turn t3 (fun b hb hm => by have := (I.own.own b hb).1; have := I.box.ne; simp at hm; omega)
/-- steps, wherever they lie -/
def StepsP (w : World) (v : Value) (L : List (Int × (Value × List Cl))) : Prop := RowsSl w v 2 (L.map fun x => [.int .i64 x.1, x.2.1]) ∧ ∀ x ∈ L, MsgP w x.2.1 x.2.2
theorem StepsP.at {w : World} {v : Value} {L : List (Int × (Value × List Cl))} (h : StepsP w v L) : ∃ q c, v = .slice q L.length c ∧ L.length ≤ c ∧ c ≤ maxLen ∧
    ∀ (i : Nat) (x : Int × (Value × List Cl)), L[i]? = some x → MsgP w x.2.1 x.2.2 ∧ ∃ b off, q = some ⟨b, off, none⟩ ∧ w.cell? ⟨b, off + i * 2, none⟩ = some (.int .i64 x.1) ∧ w.cell? ⟨b, off + i * 2 + 1, none⟩ = some x.2.1 := by
  obtain ⟨⟨q, c, hv, h1, h2, hc⟩, hm⟩ := h
  rw [List.length_map] at hv h1
  refine ⟨q, c, hv, h1, h2, fun i x hx => ⟨hm x (List.mem_of_getElem? hx), ?_⟩⟩
  obtain ⟨_, b, off, hq, hf⟩ := hc i _ (by rw [List.getElem?_map, hx]; rfl)
  exact ⟨b, off, hq, hf 0 _ rfl, hf 1 _ rfl⟩
theorem step_reads {Hh : Type} {enc : TypeId × Value → Hh} {w : World} {cs : List Value} (h : ReadsAs enc Try.prog w 31 cs) : ∃ (k : Int) (v : Value) (M : List Cl), cs = [.int .i64 k, v] ∧ MsgP w v M := by
  obtain ⟨n, y, h⟩ := h
  obtain ⟨xs, k, rfl, _, hlen, hxl, hf⟩ := DataW.trod_struct Try.underlying31 h
  have hc : Try.prog.cellsOf 31 = 2 := by kernel_rfl
  rw [hc] at hlen
  match cs, hlen, xs, hxl with
  | [v0, v1], _, [y0, y1], _ =>
    have g0 := hf 0 _ rfl
    have g1 := hf 1 _ rfl
    have ci : Try.prog.cellsOf 3 = 1 := by kernel_rfl
    have cm : Try.prog.cellsOf 29 = 1 := by kernel_rfl
    simp [ci, cm] at g0 g1
    obtain ⟨a0, e0, _, w0⟩ := DataW.trod_int Try.underlying3 g0
    obtain ⟨v, M, e1, hp⟩ := msg_reads (enc := enc) ⟨_, _, g1⟩
    simp at e0 e1
    subst e0; subst e1
    exact ⟨a0, _, M, rfl, hp⟩
theorem open_steps {Hh : Type} {enc : TypeId × Value → Hh} {W : World} {v : Value} {d : DataW Hh} {ps : List MemPlace} {base : Nat} (hval : Value.okWide Try.prog W .any base 22 v) (h : DataW.Trod enc Try.prog W 0 (fun _ => true) true 22 v d ps) : ∃ L, StepsP W v L := by
  obtain ⟨l, hr, hl⟩ := open_rows Try.underlying22 (show Try.prog.cellsOf 31 = 2 by kernel_rfl) (by omega) hval h
  have each : ∀ cs ∈ l, ∃ x : {x : Int × (Value × List Cl) // MsgP W x.2.1 x.2.2}, cs = [.int .i64 x.1.1, x.1.2.1] := fun cs hm => by
    obtain ⟨k, v, M, rfl, hp⟩ := step_reads (hl cs hm)
    exact ⟨⟨(k, v, M), hp⟩, rfl⟩
  cases l with
  | nil => exact ⟨[], hr, fun x hx => by cases hx⟩
  | cons c l =>
    obtain ⟨x0, _⟩ := each c (.head _)
    haveI : Inhabited {x : Int × (Value × List Cl) // MsgP W x.2.1 x.2.2} := ⟨x0⟩
    obtain ⟨M, hM⟩ := choose_form (fun x : {x : Int × (Value × List Cl) // MsgP W x.2.1 x.2.2} => [.int .i64 x.1.1, x.1.2.1]) (c :: l) each
    rw [hM] at hr
    refine ⟨M.map (·.1), by rw [List.map_map]; exact hr, fun x hx => ?_⟩
    obtain ⟨y, _, rfl⟩ := List.mem_map.1 hx
    exact y.2
end Go.Proofs.Ytalfmlhiooaigaa
