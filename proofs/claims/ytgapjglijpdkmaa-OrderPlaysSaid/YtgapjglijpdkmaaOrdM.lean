/- The order laws' arguments; what is pushed, plainly. -/
import Derived.Test.YtgapjglijpdkmaaOrdL
import Derived.Test.YtgapjglijpdkmaaRowsIn
namespace Go.Proofs.Ytgapjglijpdkmaa
open Go.ChangeShapes Go.WideShapes Go.ChangeAt Go.RowKit Go.Maps Heap
set_option maxHeartbeats 4000000
set_option maxRecDepth 100000
def TrueExt (w : World) (e : Ending) (w' : World) : Prop := e = .returned (.bool true) ∧ Ext w w'
/-- a slice that reads as pairs of small numbers, wherever it lies -/
def Pair8 (w : World) (v : Value) (l : List (Int × Int)) : Prop := ∃ q c, v = .slice q l.length c ∧ l.length ≤ c ∧ c ≤ maxLen ∧
  ∀ (i : Nat) (x : Int × Int), l[i]? = some x → (-128 ≤ x.1 ∧ x.1 ≤ 127) ∧ (-128 ≤ x.2 ∧ x.2 ≤ 127) ∧ ∃ b off, q = some ⟨b, off, none⟩ ∧ w.cell? ⟨b, off + i * 2, none⟩ = some (.int .i8 x.1) ∧ w.cell? ⟨b, off + i * 2 + 1, none⟩ = some (.int .i8 x.2)
theorem pair8_cells {H : Type} {enc : TypeId × Value → H} {w : World} {cs : List Value} (h : ReadsAs enc Try.prog w 43 cs) :
    ∃ x : Int × Int, cs = [.int .i8 x.1, .int .i8 x.2] ∧ (-128 ≤ x.1 ∧ x.1 ≤ 127) ∧ (-128 ≤ x.2 ∧ x.2 ≤ 127) := by
  obtain ⟨n, y, h⟩ := h
  obtain ⟨xs, k, rfl, _, hlen, hxl, hf⟩ := DataW.trod_array Try.underlying43 h
  have hc : Try.prog.cellsOf 43 = 2 := by kernel_rfl
  rw [hc] at hlen
  match cs, hlen, xs, hxl with
  | [v0, v1], _, [y0, y1], _ =>
    have ci : Try.prog.cellsOf 42 = 1 := by kernel_rfl
    have g0 := hf 0 (by omega)
    have g1 := hf 1 (by omega)
    simp [ci] at g0 g1
    obtain ⟨a0, e0, _, w0⟩ := DataW.trod_int Try.underlying42 g0
    obtain ⟨a1, e1, _, w1⟩ := DataW.trod_int Try.underlying42 g1
    simp at e0 e1
    subst e0; subst e1
    exact ⟨⟨a0, a1⟩, rfl, bounds_i8 w0, bounds_i8 w1⟩
theorem open_pairs8 {H : Type} {enc : TypeId × Value → H} {W : World} {v : Value} {d : DataW H} {ps : List MemPlace} {base : Nat} (hval : Value.okWide Try.prog W .any base 41 v) (h : DataW.Trod enc Try.prog W 0 (fun _ => true) true 41 v d ps) : ∃ l, Pair8 W v l := by
  obtain ⟨l, ⟨q, c, rfl, h1, h2, hc⟩, hr⟩ := open_rows Try.underlying41 (show Try.prog.cellsOf 43 = 2 by kernel_rfl) (by omega) hval h
  have each : ∀ i, i < l.length → ∃ x : Int × Int, l[i]? = some [.int .i8 x.1, .int .i8 x.2] ∧ (-128 ≤ x.1 ∧ x.1 ≤ 127) ∧ (-128 ≤ x.2 ∧ x.2 ≤ 127) := fun i hi => by
    obtain ⟨x, hx, hw⟩ := pair8_cells (hr _ (List.getElem_mem hi))
    exact ⟨x, by rw [List.getElem?_eq_getElem hi, hx], hw⟩
  obtain ⟨X, hX⟩ := Go.Deep.choose_lt each
  have hl : ((List.range l.length).map X).length = l.length := by simp
  refine ⟨(List.range l.length).map X, q, c, by rw [hl], by rw [hl]; exact h1, h2, fun i x hx => ?_⟩
  have hil : i < l.length := by have := (List.getElem?_eq_some_iff.1 hx).1; simpa using this
  have hxx : X i = x := by simpa [hil] using hx
  subst hxx
  obtain ⟨g1, g2, g3⟩ := hX i hil
  obtain ⟨_, b, off, hq, hcell⟩ := hc i _ g1
  exact ⟨g2, g3, b, off, hq, hcell 0 _ rfl, hcell 1 _ rfl⟩
structure StepQ where
  kind : Int
  key : Int
  rank : Int
/-- a slice that reads as steps, wherever it lies -/
def StepSl (w : World) (v : Value) (l : List StepQ) : Prop := ∃ q c, v = .slice q l.length c ∧ l.length ≤ c ∧ c ≤ maxLen ∧
  ∀ (i : Nat) (x : StepQ), l[i]? = some x → ∃ b off, q = some ⟨b, off, none⟩ ∧ w.cell? ⟨b, off + i * 3, none⟩ = some (.int .i64 x.kind) ∧
    w.cell? ⟨b, off + i * 3 + 1, none⟩ = some (.int .i64 x.key) ∧ w.cell? ⟨b, off + i * 3 + 2, none⟩ = some (.int .i64 x.rank)
theorem step_cells {H : Type} {enc : TypeId × Value → H} {w : World} {cs : List Value} (h : ReadsAs enc Try.prog w 31 cs) :
    ∃ x : StepQ, cs = [.int .i64 x.kind, .int .i64 x.key, .int .i64 x.rank] := by
  obtain ⟨n, y, h⟩ := h
  obtain ⟨xs, k, rfl, _, hlen, hxl, hf⟩ := DataW.trod_struct Try.underlying31 h
  have hc : Try.prog.cellsOf 31 = 3 := by kernel_rfl
  rw [hc] at hlen
  match cs, hlen, xs, hxl with
  | [v0, v1, v2], _, [y0, y1, y2], _ =>
    have g0 := hf 0 _ rfl
    have g1 := hf 1 _ rfl
    have g2 := hf 2 _ rfl
    have ci : Try.prog.cellsOf 3 = 1 := by kernel_rfl
    simp [ci] at g0 g1 g2
    obtain ⟨a0, e0, _, w0⟩ := DataW.trod_int Try.underlying3 g0
    obtain ⟨a1, e1, _, w1⟩ := DataW.trod_int Try.underlying3 g1
    obtain ⟨a2, e2, _, w2⟩ := DataW.trod_int Try.underlying3 g2
    simp at e0 e1 e2
    subst e0; subst e1; subst e2
    exact ⟨⟨a0, a1, a2⟩, rfl⟩
theorem open_steps {H : Type} {enc : TypeId × Value → H} {W : World} {v : Value} {d : DataW H} {ps : List MemPlace} {base : Nat} (hval : Value.okWide Try.prog W .any base 22 v) (h : DataW.Trod enc Try.prog W 0 (fun _ => true) true 22 v d ps) : ∃ l, StepSl W v l := by
  obtain ⟨l, ⟨q, c, rfl, h1, h2, hc⟩, hr⟩ := open_rows Try.underlying22 (show Try.prog.cellsOf 31 = 3 by kernel_rfl) (by omega) hval h
  have each : ∀ i, i < l.length → ∃ x : StepQ, l[i]? = some [.int .i64 x.kind, .int .i64 x.key, .int .i64 x.rank] := fun i hi => by
    obtain ⟨x, hx⟩ := step_cells (hr _ (List.getElem_mem hi))
    exact ⟨x, by rw [List.getElem?_eq_getElem hi, hx]⟩
  haveI : Inhabited StepQ := ⟨⟨0, 0, 0⟩⟩
  obtain ⟨X, hX⟩ := Go.Deep.choose_lt each
  have hl : ((List.range l.length).map X).length = l.length := by simp
  refine ⟨(List.range l.length).map X, q, c, by rw [hl], by rw [hl]; exact h1, h2, fun i x hx => ?_⟩
  have hil : i < l.length := by have := (List.getElem?_eq_some_iff.1 hx).1; simpa using this
  have hxx : X i = x := by simpa [hil] using hx
  subst hxx
  obtain ⟨_, b, off, hq, hcell⟩ := hc i _ (hX i hil)
  exact ⟨b, off, hq, hcell 0 _ rfl, hcell 1 _ rfl, hcell 2 _ rfl⟩
/-- what a row of pushes leaves -/
def put1 (S : List Ent) (e : Ent) : List Ent := if fresh S e.1 then sortE (S ++ [e]) else S
def pushed (l : List Ent) : List Ent := l.foldl put1 []
theorem pushed_snoc (l : List Ent) (e : Ent) : pushed (l ++ [e]) = put1 (pushed l) e := by unfold pushed; rw [List.foldl_append]; rfl
theorem put1_length (S : List Ent) (e : Ent) : (put1 S e).length = if fresh S e.1 then S.length + 1 else S.length := by
  unfold put1
  split
  · rw [(sortE_perm _).length_eq]; simp
  · rfl
theorem put1_mem {S : List Ent} {e x : Ent} (h : x ∈ put1 S e) : x ∈ S ∨ x = e := by
  unfold put1 at h
  split at h
  · have := (sortE_perm _).mem_iff.1 h
    simpa using this
  · exact .inl h
theorem foldl_put (P : List Ent → List Ent → Prop) (h0 : P [] []) (hs : ∀ l e, P l (pushed l) → P (l ++ [e]) (put1 (pushed l) e)) (l : List Ent) : P l (pushed l) := by
  suffices h : ∀ n, P (l.take n) (pushed (l.take n)) by have := h l.length; rwa [List.take_length] at this
  intro n
  induction n with
  | zero => simpa [pushed] using h0
  | succ n ih =>
    by_cases hn : n < l.length
    · rw [List.take_succ_eq_append_getElem hn, pushed_snoc]
      exact hs _ _ ih
    · rw [List.take_of_length_le (by omega)]
      rwa [List.take_of_length_le (by omega)] at ih
theorem pushed_length (l : List Ent) : (pushed l).length ≤ l.length := by
  refine foldl_put (fun l S => S.length ≤ l.length) (Nat.le_refl _) (fun l e h => ?_) l
  rw [put1_length]
  simp only [List.length_append, List.length_cons, List.length_nil]
  split <;> omega
theorem pushed_mem {l : List Ent} {x : Ent} (h : x ∈ pushed l) : x ∈ l := by
  refine (foldl_put (fun l S => ∀ x ∈ S, x ∈ l) (by simp) (fun l e h x hx => ?_) l) x h
  rcases put1_mem hx with h1 | rfl
  · exact List.mem_append_left _ (h x h1)
  · simp
/-- an order without two of one key is strict -/
theorem strict {S : List Ent} (h : S.Pairwise fun a b => ¬ lt b a) (hk : (S.map (·.1)).Nodup) : S.Pairwise lt := by
  have h2 : S.Pairwise fun a b => a.1 ≠ b.1 := by rw [List.nodup_iff_pairwise_ne, List.pairwise_map] at hk; exact hk
  refine (h.and h2).imp fun {a b} ⟨h1, h3⟩ => ?_
  unfold lt at *
  omega
end Go.Proofs.Ytgapjglijpdkmaa
