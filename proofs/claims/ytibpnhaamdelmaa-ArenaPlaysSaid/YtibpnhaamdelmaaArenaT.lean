/- Steps among the arguments; keep.Mod; what is set in one region leaves another's words. -/
import Derived.Test.YtibpnhaamdelmaaArenaS
import Derived.Test.YtibpnhaamdelmaaArenaO
import Derived.Test.YtibpnhaamdelmaaRowsIn
import Derived.Deep.AppendLies
import Derived.Deep.CutBlock
namespace Go.Proofs.Ytibpnhaamdelmaa
open Go.ChangeShapes Go.WideShapes Go.ChangeAt Go.RowKit Arena
set_option maxHeartbeats 4000000
set_option maxRecDepth 100000
structure StepD where
  kind : Int
  n : Int
  at_ : Int
  wd : Int
/-- a slice that reads as steps, wherever it lies -/
def StepSl (w : World) (v : Value) (l : List StepD) : Prop := ∃ q c, v = .slice q l.length c ∧ l.length ≤ c ∧ c ≤ maxLen ∧
  ∀ (i : Nat) (x : StepD), l[i]? = some x → (Lit.int .i64 x.n).wf = true ∧ (Lit.int .i64 x.at_).wf = true ∧ ∃ b off, q = some ⟨b, off, none⟩ ∧ w.cell? ⟨b, off + i * 4, none⟩ = some (.int .i64 x.kind) ∧
    w.cell? ⟨b, off + i * 4 + 1, none⟩ = some (.int .i64 x.n) ∧ w.cell? ⟨b, off + i * 4 + 2, none⟩ = some (.int .i64 x.at_) ∧ w.cell? ⟨b, off + i * 4 + 3, none⟩ = some (.int .u64 x.wd)
theorem step_cells {H : Type} {enc : TypeId × Value → H} {w : World} {cs : List Value} (h : ReadsAs enc Try.prog w 31 cs) :
    ∃ x : StepD, cs = [.int .i64 x.kind, .int .i64 x.n, .int .i64 x.at_, .int .u64 x.wd] ∧ (Lit.int .i64 x.n).wf = true ∧ (Lit.int .i64 x.at_).wf = true := by
  obtain ⟨n, y, h⟩ := h
  obtain ⟨xs, k, rfl, _, hlen, hxl, hf⟩ := DataW.trod_struct Try.underlying31 h
  have hc : Try.prog.cellsOf 31 = 4 := by kernel_rfl
  rw [hc] at hlen
  match cs, hlen, xs, hxl with
  | [v0, v1, v2, v3], _, [y0, y1, y2, y3], _ =>
    have g0 := hf 0 _ rfl
    have g1 := hf 1 _ rfl
    have g2 := hf 2 _ rfl
    have g3 := hf 3 _ rfl
    have ci : Try.prog.cellsOf 3 = 1 := by kernel_rfl
    have cu : Try.prog.cellsOf 29 = 1 := by kernel_rfl
    simp [ci, cu] at g0 g1 g2 g3
    obtain ⟨a0, e0, _, w0⟩ := DataW.trod_int Try.underlying3 g0
    obtain ⟨a1, e1, _, w1⟩ := DataW.trod_int Try.underlying3 g1
    obtain ⟨a2, e2, _, w2⟩ := DataW.trod_int Try.underlying3 g2
    obtain ⟨a3, e3, _, w3⟩ := DataW.trod_int Try.underlying29 g3
    simp at e0 e1 e2 e3
    subst e0; subst e1; subst e2; subst e3
    exact ⟨⟨a0, a1, a2, a3⟩, rfl, w1, w2⟩
theorem open_steps {H : Type} {enc : TypeId × Value → H} {W : World} {v : Value} {d : DataW H} {ps : List MemPlace} {base : Nat} (hval : Value.okWide Try.prog W .any base 22 v) (h : DataW.Trod enc Try.prog W 0 (fun _ => true) true 22 v d ps) : ∃ l, StepSl W v l := by
  obtain ⟨l, ⟨q, c, rfl, h1, h2, hc⟩, hr⟩ := open_rows Try.underlying22 (show Try.prog.cellsOf 31 = 4 by kernel_rfl) (by omega) hval h
  have each : ∀ i, i < l.length → ∃ x : StepD, l[i]? = some [.int .i64 x.kind, .int .i64 x.n, .int .i64 x.at_, .int .u64 x.wd] ∧ (Lit.int .i64 x.n).wf = true ∧ (Lit.int .i64 x.at_).wf = true := fun i hi => by
    obtain ⟨x, hx, hw⟩ := step_cells (hr _ (List.getElem_mem hi))
    exact ⟨x, by rw [List.getElem?_eq_getElem hi, hx], hw⟩
  haveI : Inhabited StepD := ⟨⟨0, 0, 0, 0⟩⟩
  obtain ⟨X, hX⟩ := Go.Deep.choose_lt each
  have hl : ((List.range l.length).map X).length = l.length := by simp
  refine ⟨(List.range l.length).map X, q, c, by rw [hl], by rw [hl]; exact h1, h2, fun i x hx => ?_⟩
  have hil : i < l.length := by have := (List.getElem?_eq_some_iff.1 hx).1; simpa using this
  have hxx : X i = x := by simpa [hil] using hx
  subst hxx
  obtain ⟨g1, g2, g3⟩ := hX i hil
  obtain ⟨_, b, off, hq, hcell⟩ := hc i _ g1
  exact ⟨g2, g3, b, off, hq, hcell 0 _ rfl, hcell 1 _ rfl, hcell 2 _ rfl, hcell 3 _ rfl⟩
theorem setMany_below : ∀ (vs ws : List Int) (o : Nat) {i : Nat}, i < o → (setMany ws o vs)[i]? = ws[i]? := by
  intro vs
  induction vs with
  | nil => intro ws o i _; rfl
  | cons v vs ih =>
    intro ws o i h
    show (setMany (ws.set o v) (o + 1) vs)[i]? = _
    rw [ih _ _ (by omega), List.getElem?_set_ne (by omega)]
theorem mod_is {k : Int} {n : Nat} {w : World} (hk : (Lit.int .i64 k).wf = true) (h1 : 1 ≤ n) (h2 : n ≤ 1000000) :
    Calls Try.prog 25 #[.int .i64 k, .int .i64 n] w fun e w' => (∃ j : Nat, j < n ∧ e = .returned (.int .i64 j)) ∧ w = w' := by
  have hw : -9223372036854775808 ≤ k ∧ k ≤ 9223372036854775807 := by
    have h3 : IntKind.i64.min ≤ k ∧ k ≤ IntKind.i64.max := by simpa [Lit.wf] using hk
    exact h3
  have b1 : decide ((n : Int) < 1) = false := decide_eq_false (by omega)
  have b2 : ((n : Int) == 0) = false := beq_false_of_ne (by omega)
  have m1 : -(n : Int) < k.tmod n := Int.lt_tmod_of_pos k (by omega)
  have m2 : k.tmod n < n := Int.tmod_lt_of_pos k (by omega)
  clear hk
  go_enter Try.func25, Try.ntmps25
  go_wp2_with fail
  go_ret
  have d1 : 0 ≤ (k.tmod n + n) % n := Int.emod_nonneg _ (by omega)
  have d2 : (k.tmod n + n) % n < n := Int.emod_lt_of_pos _ (by omega)
  refine ⟨⟨((k.tmod n + n) % n).toNat, by omega, ?_⟩, rfl⟩
  rw [Int.toNat_of_nonneg d1]
  rfl
/-- a region's words -/
def wordsOf (ws : List Int) (r : Nat × Nat) : List Int := (ws.drop r.1).take r.2
theorem words_apart {n : Nat} {R : List (Nat × Nat)} {ws : List Int} (hg : Arena.Good n R) {i j : Nat} (hi : i < R.length) (hj : j < R.length) (hne : i ≠ j) {a : Nat} (ha : a < R[i].2) (v : Int) : wordsOf (ws.set (R[i].1 + a) v) R[j] = wordsOf ws R[j] := by
  have hap : R[i].1 + R[i].2 ≤ R[j].1 ∨ R[j].1 + R[j].2 ≤ R[i].1 := by
    rcases Nat.lt_or_gt_of_ne hne with h | h
    · exact .inl (List.pairwise_iff_getElem.1 hg.1 i j hi hj h)
    · exact .inr (List.pairwise_iff_getElem.1 hg.1 j i hj hi h)
  unfold wordsOf
  apply List.ext_getElem?
  intro x
  by_cases hx : x < R[j].2
  · rw [List.getElem?_take_of_lt hx, List.getElem?_take_of_lt hx, List.getElem?_drop, List.getElem?_drop, List.getElem?_set_ne (by omega)]
  · rw [List.getElem?_eq_none (by rw [List.length_take]; omega), List.getElem?_eq_none (by rw [List.length_take]; omega)]
theorem wordsOf_length {n : Nat} {R : List (Nat × Nat)} {ws : List Int} (hg : Arena.Good n R) (hl : ws.length = n) {r : Nat × Nat} (hr : r ∈ R) : (wordsOf ws r).length = r.2 := by
  have := (hg.2 r hr).2
  unfold wordsOf
  rw [List.length_take, List.length_drop]
  omega
/-- a cut's words are 0 -/
theorem wordsOf_cut {ws : List Int} : ∀ (k o : Nat), o + k ≤ ws.length → wordsOf (setMany ws o (List.replicate k 0)) (o, k) = List.replicate k 0 := by
  intro k
  induction k generalizing ws with
  | zero => intro o _; simp [wordsOf]
  | succ k ih =>
    intro o h
    have h2 := ih (ws := ws.set o 0) (o + 1) (by rw [List.length_set]; omega)
    rw [List.replicate_succ]
    show wordsOf (setMany (ws.set o 0) (o + 1) (List.replicate k 0)) (o, k + 1) = _
    have hz : (setMany (ws.set o 0) (o + 1) (List.replicate k 0))[o]? = some 0 := by
      rw [setMany_below _ _ _ (by omega), List.getElem?_set_self (by omega)]
    unfold wordsOf at h2 ⊢
    dsimp only at h2 ⊢
    have hlt : o < (setMany (ws.set o 0) (o + 1) (List.replicate k 0)).length := (List.getElem?_eq_some_iff.1 hz).1
    rw [List.drop_eq_getElem_cons hlt, List.take_succ_cons, h2]
    congr 1
    rw [List.getElem?_eq_getElem hlt] at hz
    exact Option.some.inj hz
theorem info_sl : (Try.prog.info? 42).map (fun i => (i.zero, i.size, i.bytes)) = some (some (.slice none 0 0), 1, 24) := by kernel_rfl
theorem wpList_append_sl {ops : Array Oper} {rest : List Oper} {o : Oper} {a : Act} {Q : Exit → Act → World → Prop} {w : World} (hgd : o.guard = none) (s x : Operand)
    (ho : o.op = .call { callee := .builtin .append, args := #[s, x], argTypes := #[57, 57] })
    (base : Nat) (v : Value) (Vs : List Value) (hs : a.eval s = v) (hown : w.ownsRow base 42 1 v Vs.length Vs) (V : Value) (hV : V.oneCell' = true) (g : Nat) (hx : a.eval x = .slice (some ⟨g, 0, none⟩) 1 1) (hgs : w.heap.size = g)
    (hlen : Vs.length + 1 ≤ 1000000) (hbase : base ≤ w.heap.size)
    (h : ∀ v' w', w'.ownsRow base 42 1 v' (Vs.length + 1) (Vs ++ [V]) → (w.alloc (.cells #[V] 42)).grownBy w' v.ownBlock → wpList Try.prog ops Q rest (a.put o.dst v') w') :
    wpList Try.prog ops Q (o :: rest) a (w.alloc (.cells #[V] 42)) := by
  subst hgs
  obtain ⟨i0, hi, hz0, hz1, hz2⟩ := info_parts info_sl
  refine wpList_append_own (P := Try.prog) (w := w.alloc (.cells #[V] 42)) hgd s x 57 ho base 42 i0 _ 1 24 Try.underlying57 hi hz0 hz1 hz2 rfl (by decide) v Vs.length Vs hs (World.ownsRow.alloc hown _)
    ⟨w.heap.size, 0, none⟩ 1 1 [V] hx rfl (World.news_of_block (cs := #[V]) (heap_alloc_new w _)) ?_ (by unfold maxLen; omega) (by omega) (by simp; omega) ?_
  · intro u hu; simp at hu; subst hu; exact hV
  · intro v' w' hown' hgrow _
    exact h v' w' hown' hgrow
end Go.Proofs.Ytibpnhaamdelmaa
