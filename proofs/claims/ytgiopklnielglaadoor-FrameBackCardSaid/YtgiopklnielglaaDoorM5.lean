/- Proved here: the contracts and laws of RefaB, Src, RefaC, Args, RowsIn, ArenaT, RefaD, RefaE, ObjJ, ObjK, ObjL, ObjM of this claim, each beneath its own remark; conditions: those that each theorem names. -/
import Derived.Test.YtgiopklnielglaaDoorM4
import Derived.Test.YtgiopklnielglaaDoorM1
import Derived.Test.YtgiopklnielglaaDoorM2
import Derived.Deep.RegionHeld3
import Derived.Deep.AppendLies
import Derived.Deep.DrawnRows
import Derived.Maps.AppendAt
import Derived.ProofKit
import Derived.OpenShut
import Derived.Deep.DeepHandedRow
import Derived.SizedLaws
import Derived.Deep.Slices
import Derived.Deep.CutBlock
/- The reference's arena: what writes its words; a new one. -/
namespace Go.Proofs.YtgiopklnielglaaDoor
open Go.RowKit Go.Maps Arena
set_option maxHeartbeats 4000000
set_option maxRecDepth 100000
theorem RefAt.store {w : World} {q gq B n : Nat} {ws : List Int} {vR : Value} {R : List (Nat × Nat)} (h : RefAt w q gq B n ws vR R) (i : Nat) (v : Int) : RefAt (w.setCell ⟨gq, i, none⟩ (.int .u64 v)) q gq B n (ws.set i v) vR R := by
  have t : Turn [gq] w (w.setCell ⟨gq, i, none⟩ (.int .u64 v)) := (Turn.refl _ _).setCell (.inl (by simp)) _
  obtain ⟨lq, lg⟩ := h.lt
  refine ⟨by rw [t.block q lq (by simp; exact h.ne)]; exact h.row, ?_, by rw [List.length_set]; exact h.len, h.regs.turn t (by intro b hb; simp at hb; subst hb; exact h.gB), h.good, h.ne, h.qB, h.gB, h.least⟩
  rw [heap_setCell_same w gq i _ _ _ h.words]
  rw [List.map_set]
  simp
theorem refset_yes {w : World} {q gq B n : Nat} {ws : List Int} {vR : Value} {R : List (Nat × Nat)} (h : RefAt w q gq B n ws vR R) {r : Nat × Nat} (hr : r ∈ R) {a : Nat} (ha : a < r.2) {v : Int} :
    Calls Tryd.prog 26 #[.pointer (some ⟨q, 0, none⟩), .int .i64 r.1, .int .i64 a, .int .u64 v] w fun e w' => e = .returned (.bool true) ∧ RefAt w' q gq B n (ws.set (r.1 + a) v) vR R ∧ Turn [gq] w w' := by
  have HF := Lib.hid (size_yes h hr)
  obtain ⟨c0, c1, _⟩ := h.cells
  obtain ⟨h1, h2⟩ := h.good.2 r hr
  obtain ⟨k0, k1⟩ := h.word (i := r.1 + a) (by omega)
  have hn := h.least
  have b1 : decide ((a : Int) < 0) = false := decide_eq_false (by omega)
  have b2 : decide ((r.2 : Int) ≤ (a : Int)) = false := decide_eq_false (by omega)
  have HST := Lib.hid (h.store (r.1 + a) v)
  generalize ws.getD (r.1 + a) 0 = u at *
  clear h hr
  go_enter Tryd.func26, Tryd.ntmps26
  go_wp2_with fail
  refine HF.out.mono ?_; rintro e w' ⟨rfl, rfl⟩
  go_wp2
  go_ret
  exact ⟨rfl, HST.out, (Turn.refl _ _).setCell (.inl (by simp)) _⟩
theorem refset_no {w : World} {q gq B n : Nat} {ws : List Int} {vR : Value} {R : List (Nat × Nat)} (h : RefAt w q gq B n ws vR R) {x a v : Int} (h0 : lenAt R x = 0) :
    Calls Tryd.prog 26 #[.pointer (some ⟨q, 0, none⟩), .int .i64 x, .int .i64 a, .int .u64 v] w fun e w' => e = .returned (.bool false) ∧ w = w' := by
  have HF := Lib.hid (size_no h h0)
  clear h h0
  by_cases hneg : a < 0
  · have b1 : decide (a < 0) = true := decide_eq_true hneg
    go_enter Tryd.func26, Tryd.ntmps26
    go_wp2
    go_ret
    exact ⟨rfl, rfl⟩
  · have b1 : decide (a < 0) = false := decide_eq_false hneg
    have b2 : decide ((-1 : Int) ≤ a) = true := decide_eq_true (by omega)
    go_enter Tryd.func26, Tryd.ntmps26
    go_wp2_with fail
    refine HF.out.mono ?_; rintro e w' ⟨rfl, rfl⟩
    go_wp2
    go_ret
    exact ⟨rfl, rfl⟩
theorem refset_out {w : World} {q gq B n : Nat} {ws : List Int} {vR : Value} {R : List (Nat × Nat)} (h : RefAt w q gq B n ws vR R) {r : Nat × Nat} (hr : r ∈ R) {a v : Int} (ha : a < 0 ∨ (r.2 : Int) ≤ a) :
    Calls Tryd.prog 26 #[.pointer (some ⟨q, 0, none⟩), .int .i64 r.1, .int .i64 a, .int .u64 v] w fun e w' => e = .returned (.bool false) ∧ w = w' := by
  have HF := Lib.hid (size_yes h hr)
  clear h hr
  by_cases hneg : a < 0
  · have b1 : decide (a < 0) = true := decide_eq_true hneg
    clear ha
    go_enter Tryd.func26, Tryd.ntmps26
    go_wp2
    go_ret
    exact ⟨rfl, rfl⟩
  · have b1 : decide (a < 0) = false := decide_eq_false hneg
    have b2 : decide ((r.2 : Int) ≤ a) = true := decide_eq_true (by omega)
    clear ha
    go_enter Tryd.func26, Tryd.ntmps26
    go_wp2_with fail
    refine HF.out.mono ?_; rintro e w' ⟨rfl, rfl⟩
    go_wp2
    go_ret
    exact ⟨rfl, rfl⟩
theorem refnew_no {w : World} {n : Int} (hn : n < 1 ∨ 20000 < n) : Calls Tryd.prog 22 #[.int .i64 n] w fun e w' => e = .returned (.pointer none) ∧ w = w' := by
  by_cases h1 : n < 1
  · have b1 : decide (n < 1) = true := decide_eq_true h1
    clear hn
    go_enter Tryd.func22, Tryd.ntmps22
    go_wp2
    go_ret
    exact ⟨rfl, rfl⟩
  · have b1 : decide (n < 1) = false := decide_eq_false h1
    have b2 : decide (20000 < n) = true := decide_eq_true (by omega)
    clear hn
    go_enter Tryd.func22, Tryd.ntmps22
    go_wp2
    go_ret
    exact ⟨rfl, rfl⟩
theorem made_zeros' (n : Nat) : madeCells #[Value.int .u64 0] n = ((List.replicate n (0 : Int)).map fun x => Value.int .u64 x).toArray := by
  apply Array.ext'
  rw [toList_madeCells_one]
  simp
theorem refnew_is {w : World} {n : Nat} (h1 : 1 ≤ n) (h2 : n ≤ 20000) : Calls Tryd.prog 22 #[.int .i64 n] w fun e w' =>
    ∃ q gq, e = .returned (.pointer (some ⟨q, 0, none⟩)) ∧ RefAt w' q gq w'.heap.size n (List.replicate n 0) (.slice none 0 0) [] ∧ Ext w w' ∧ w.heap.size ≤ q ∧ w.heap.size ≤ gq := by
  have b1 : decide ((n : Int) < 1) = false := decide_eq_false (by omega)
  have b2 : decide (20000 < (n : Int)) = false := decide_eq_false (by omega)
  have hmk := run_make_row' (P := Tryd.prog) 29 32 (.int .u64 0) 8 Tryd.underlying29 info_u64 rfl .i64 .i64 n (by omega) (by omega)
  go_enter Tryd.func22, Tryd.ntmps22
  go_wp2
  go_ret
  refine ⟨w.heap.size + 1, w.heap.size, rfl, ⟨?_, ?_, by simp, PairRow.nil _ _, good_nil _, by omega, by simp, by simp; omega, h2⟩, (Ext.alloc _ _).trans (Ext.alloc _ _), by omega, by omega⟩
  · have := heap_alloc_new (w.alloc (.cells (madeCells #[Value.int .u64 0] n) 32)) (.cells #[.slice (some ⟨w.heap.size, 0, none⟩) n n, .slice none 0 0] 94)
    simpa using this
  · rw [Below.block (Below.alloc (B := w.heap.size + 1) (Below.refl _ _) (by simp) _) w.heap.size (by omega), heap_alloc_new, made_zeros']
end Go.Proofs.YtgiopklnielglaaDoor
/- Pairs appended to pairs: what an append may take them from. -/
namespace Go.Proofs.YtgiopklnielglaaDoor
open Go.RowKit Go.Maps
set_option maxHeartbeats 4000000
set_option maxRecDepth 100000
/-- what an append may take its elements from: a slice that reads as pairs, nil or at an address -/
def PairSrc (w : World) (u : Value) (L : List (Nat × Nat)) : Prop := PairSl w u L ∧ ((∃ ad m c, u = .slice (some ad) m c) ∨ u = .slice none 0 0)
theorem pairSl_take {w : World} {q : Option Addr} {c k : Nat} {R : List (Nat × Nat)} (h : PairSl w (.slice q R.length c) R) (hk : k ≤ R.length) : PairSl w (sliced q 0 k c 2) (R.take k) := by
  obtain ⟨q', c', he, h1, h2, hc⟩ := h
  obtain ⟨rfl, _, rfl⟩ := Value.slice.inj he
  have hl : (R.take k).length = k := by rw [List.length_take]; omega
  refine ⟨if c = 0 then q else q.map (·.add (0 * 2)), c, by unfold sliced; rw [hl, Nat.sub_zero, Nat.sub_zero], by omega, h2, fun i x hx => ?_⟩
  have hi : i < (R.take k).length := (List.getElem?_eq_some_iff.1 hx).1
  rw [List.getElem?_take_of_lt (by omega)] at hx
  obtain ⟨b, off, rfl, p0, p1⟩ := hc i x hx
  exact ⟨b, off, by split <;> simp [Addr.add], p0, p1⟩
theorem pairSl_drop {w : World} {q : Option Addr} {c k : Nat} {R : List (Nat × Nat)} (h : PairSl w (.slice q R.length c) R) (hk : k ≤ R.length) : PairSl w (sliced q k R.length c 2) (R.drop k) := by
  obtain ⟨q', c', he, h1, h2, hc⟩ := h
  obtain ⟨rfl, _, rfl⟩ := Value.slice.inj he
  have hl : (R.drop k).length = R.length - k := by rw [List.length_drop]
  refine ⟨if c = k then q else q.map (·.add (k * 2)), c - k, by unfold sliced; rw [hl], by omega, by omega, fun i x hx => ?_⟩
  have hi : i < (R.drop k).length := (List.getElem?_eq_some_iff.1 hx).1
  rw [List.getElem?_drop] at hx
  obtain ⟨b, off, rfl, p0, p1⟩ := hc (k + i) x hx
  refine ⟨b, off + k * 2, ?_, ?_, ?_⟩
  · rw [if_neg (by omega)]; simp [Addr.add]
  · rw [show off + k * 2 + i * 2 = off + (k + i) * 2 by omega]; exact p0
  · rw [show off + k * 2 + i * 2 + 1 = off + (k + i) * 2 + 1 by omega]; exact p1
theorem flat2_length (L : List (Nat × Nat)) : (L.flatMap pairC).length = L.length * 2 := by
  induction L with
  | nil => rfl
  | cons x L ih => rw [List.flatMap_cons, List.length_append, ih]; simp [pairC]; omega
theorem pair_elem : Tryd.prog.elem 92 = 96 := by kernel_rfl
theorem pair_size (w : World) : (sizeOf (Tryd.prog.elem 92)).run Tryd.prog w = .ok 2 w := by kernel_rfl
theorem src_of {w : World} {q : Option Addr} {n c l h m : Nat} {L : List (Nat × Nat)} (hv : (∃ ad, q = some ad) ∨ (q = none ∧ c = 0 ∧ n = 0)) (hh : h ≤ m) (hm : m ≤ c) (hs : PairSl w (sliced q l h m 2) L) : PairSrc w (sliced q l h m 2) L := by
  refine ⟨hs, ?_⟩
  rcases hv with ⟨ad, rfl⟩ | ⟨rfl, rfl, rfl⟩
  · left
    unfold sliced
    split
    · exact ⟨_, _, _, rfl⟩
    · exact ⟨_, _, _, rfl⟩
  · right
    obtain rfl : m = 0 := by omega
    obtain rfl : h = 0 := by omega
    unfold sliced
    simp
theorem PairRow.nilOr {w : World} {B : Nat} {v : Value} {R : List (Nat × Nat)} (h : PairRow w B v R) : ∃ q c, v = .slice q R.length c ∧ R.length ≤ c ∧ ((∃ ad, q = some ad) ∨ (q = none ∧ c = 0 ∧ R.length = 0)) := by
  rcases h.2 with ⟨h1, h2⟩ | ⟨b, c, cur, h1, hb, hg, h2, h3, h4, h5⟩
  · exact ⟨none, 0, by rw [h1, h2], by omega, .inr ⟨rfl, rfl, h2⟩⟩
  · exact ⟨_, c, h1, h2, .inl ⟨_, rfl⟩⟩
theorem head_src {w : World} {B k : Nat} {v : Value} {R : List (Nat × Nat)} (h : PairRow w B v R) (hk : k ≤ R.length) :
    ∃ u, (∀ W, (Instr.slice 92 v none (some (.int .i64 k)) none).run Tryd.prog W = .ok u W) ∧ ∀ W, PairRow W B v R → PairSrc W u (R.take k) := by
  obtain ⟨q, c, rfl, hc, hn⟩ := h.nilOr
  refine ⟨sliced q 0 k c 2, fun W => ?_, fun W hW => src_of hn (by omega) (Nat.le_refl _) (pairSl_take hW.sl hk)⟩
  rw [run_slice_h W 92 q R.length c (by rw [pair_elem]; exact Tryd.underlying92) .i64 k (by omega) (by omega), pair_size]
  simp
theorem tail_src {w : World} {B k : Nat} {v : Value} {R : List (Nat × Nat)} (h : PairRow w B v R) (hk : k ≤ R.length) :
    ∃ u, (∀ W, (Instr.slice 92 v (some (.int .i64 k)) none none).run Tryd.prog W = .ok u W) ∧ ∀ W, PairRow W B v R → PairSrc W u (R.drop k) := by
  obtain ⟨q, c, rfl, hc, hn⟩ := h.nilOr
  refine ⟨sliced q k R.length c 2, fun W => ?_, fun W hW => src_of hn (by omega) (Nat.le_refl _) (pairSl_drop hW.sl hk)⟩
  rw [run_slice_l W 92 q R.length c (by rw [pair_elem]; exact Tryd.underlying92) .i64 k (by omega) (by omega), pair_size]
  simp
/-- an append of pairs, wherever they lie, to a row of the call's own, at a step of a region that draws -/
theorem step_append_pairs {w : World} {ops : Array Oper} {o : Oper} {a : Act} {K : Act → World → Prop} {Q : Exit → Act → World → Prop} {E : Prop} (hgd : o.guard = none) (s x : Operand)
    (ho : o.op = .call { callee := .builtin .append, args := #[s, x], argTypes := #[92, 92] })
    (base : Nat) (v u : Value) (R L : List (Nat × Nat)) (hs : a.eval s = v) (hown : PairRow w base v R) (hx : a.eval x = u) (hu : PairSrc w u L)
    (h63 : R.length + L.length ≤ 1000000) (hbase : base ≤ w.heap.size)
    (h : ∀ v' w', PairRow w' base v' (R ++ L) → w.grownBy w' v.ownBlock → K (a.put o.dst v') w') :
    if Region.wanted o (yielded ops a.tmps) = true then Oper.wp Tryd.prog o a w K Q else E := by
  have hw : Region.wanted o (yielded ops a.tmps) = true := by simp [Region.wanted, hgd]
  rw [if_pos hw]
  obtain ⟨i0, hi, hz0, hz1, hz2⟩ := info_parts info_pair
  have hrun : ∃ v' w', (Builtin.append_ #[92, 92] o.type #[v, u]).run Tryd.prog w = .ok v' w' ∧ PairRow w' base v' (R ++ L) ∧ w.grownBy w' v.ownBlock := by
    obtain ⟨⟨q, c, hv, h1, h2, hc⟩, hsrc⟩ := hu
    rcases hsrc with ⟨ad, m, c', rfl⟩ | rfl
    · obtain ⟨rfl, rfl, rfl⟩ := Value.slice.inj hv
      have hnews : ∀ j y, (L.flatMap pairC)[j]? = some y → w.cell? (ad.add j) = some y := by
        intro j y hj
        have hjl : j < (L.flatMap pairC).length := (List.getElem?_eq_some_iff.1 hj).1
        rw [flat2_length L] at hjl
        obtain ⟨b, off, hq, p0, p1⟩ := hc (j / 2) _ (List.getElem?_eq_getElem (by omega))
        obtain rfl := Option.some.inj hq
        obtain ⟨f0, f1⟩ := flat2 L (j / 2) _ (List.getElem?_eq_getElem (by omega))
        rw [Go.WideShapes.add_plain]
        rcases Nat.mod_two_eq_zero_or_one j with e | e
        · have ej : j / 2 * 2 = j := by omega
          rw [ej] at f0 p0
          rw [p0, ← f0, hj]
        · have ej : j / 2 * 2 + 1 = j := by omega
          rw [ej] at f1
          rw [Nat.add_assoc, ej] at p1
          rw [p1, ← f1, hj]
      have hone : ∀ y ∈ L.flatMap pairC, y.oneCell' = true := by
        intro y hy
        obtain ⟨r, _, hr⟩ := List.mem_flatMap.1 hy
        simp [pairC] at hr
        rcases hr with rfl | rfl <;> rfl
      obtain ⟨v', w', hr, h3, h4, _, _⟩ := run_append_own_at (P := Tryd.prog) w base 92 o.type 96 i0 _ 2 16 Tryd.underlying92 hi hz0 hz1 hz2 rfl (by decide) v R.length (R.flatMap pairC) hown
        ad L.length c' (L.flatMap pairC) (flat2_length L) hnews hone (by unfold maxLen; omega) (by omega) hbase
      exact ⟨v', w', hr, by unfold PairRow; rw [List.length_append, List.flatMap_append]; exact h3, h4⟩
    · obtain ⟨_, hl, _⟩ := Value.slice.inj hv
      obtain rfl : L = [] := List.length_eq_zero_iff.1 hl.symm
      refine ⟨v, w, run_append_owned_none w base 92 o.type 96 i0 2 Tryd.underlying92 hi v R.length (R.flatMap pairC) hown, by rw [List.append_nil]; exact hown, ?_⟩
      exact ⟨rfl, rfl, rfl, Nat.le_refl _, fun _ _ _ => rfl⟩
  obtain ⟨v', w', hr, h2, h3⟩ := hrun
  unfold Oper.wp execOp
  simp only [ho, resolve, invoke, builtin, Sem.run_bind, Sem.run_pure, Result.andThen_ok, List.map_toArray, List.map_cons, List.map_nil, hs, hx, hr]
  exact h v' w' h2 h3
theorem keep3 {w w' : World} {a : Addr} {v : Value} (h : w.cell? a = some v) (f : w.frozen? a = false) (e : Ext w w') : w'.cell? a = some v ∧ w'.frozen? a = false ∧ Ext w w' :=
  ⟨e.cell h, (e.frozen h).trans f, e⟩
theorem ext_grown {w W W' : World} {v : Value} (e : Ext w W) (hg : W.grownBy W' v.ownBlock) (hv : ∀ b, v.ownBlock = some b → w.heap.size ≤ b) : Ext w W' :=
  Below.grown e hg e.size hv
theorem empty_row (w : World) : PairRow (w.alloc (.cells #[] 96)).drew w.heap.size (.slice (some ⟨w.heap.size, 0, none⟩) 0 0) [] :=
  World.ownsRow.drew (World.ownsRow_lit w #[] 0 (Nat.le_refl _) (Nat.zero_le _) rfl)
theorem empty_at {w : World} {b B : Nat} (hb : w.heap[b]? = some (.cells #[] 96 (0, 0))) (hB : B ≤ b) : PairRow w B (.slice (some ⟨b, 0, none⟩) 0 0) [] :=
  ⟨rfl, .inr ⟨b, 0, #[], rfl, hB, hb, Nat.le_refl _, Nat.zero_le _, rfl, rfl⟩⟩
theorem pair_at {w : World} {b x y : Nat} (hb : w.heap[b]? = some (.cells #[.int .i64 x, .int .i64 y] 96 (0, 0))) : PairSrc w (.slice (some ⟨b, 0, none⟩) 1 1) [(x, y)] := by
  refine ⟨⟨_, 1, rfl, by simp, by unfold maxLen; omega, fun i z hz => ?_⟩, .inl ⟨_, _, _, rfl⟩⟩
  have hi : i = 0 := by
    have := (List.getElem?_eq_some_iff.1 hz).1
    simp at this; exact this
  subst hi
  simp at hz
  subst hz
  exact ⟨b, 0, rfl, by simp [World.cell?, hb], by simp [World.cell?, hb]⟩
end Go.Proofs.YtgiopklnielglaaDoor
/- The reference's arena: what makes its regions anew. -/
namespace Go.Proofs.YtgiopklnielglaaDoor
open Go.RowKit Go.Maps Arena
set_option maxHeartbeats 4000000
set_option maxRecDepth 100000
attribute [local go_sem ↓] Go.wp_at_zero Go.wp_at_succ
/-- the rest of a row without one of its places -/
theorem drop_at {n : Nat} {R : List (Nat × Nat)} (hg : Arena.Good n R) {i : Nat} (hi : i < R.length) : R.take i ++ R.drop (i + 1) = Arena.drop (R[i].1 : Int) R := by
  have h1 : Arena.drop (R[i].1 : Int) (R.take i ++ R[i] :: R.drop (i + 1)) = R.take i ++ R.drop (i + 1) := by
    unfold Arena.drop
    rw [List.filter_append, List.filter_cons]
    simp only [decide_true, Bool.not_true, Bool.false_eq_true, if_false]
    congr 1
    · refine List.filter_eq_self.2 fun r hr => ?_
      obtain ⟨j, hj, rfl⟩ := List.getElem_of_mem hr
      rw [List.length_take] at hj
      have := good_ne hg (i := j) (j := i) (by omega) hi
      have := (hg.2 R[j] (List.getElem_mem (by omega))).1
      simp only [List.getElem_take, Bool.not_eq_true', decide_eq_false_iff_not]
      omega
    · refine List.filter_eq_self.2 fun r hr => ?_
      obtain ⟨j, hj, rfl⟩ := List.getElem_of_mem hr
      rw [List.length_drop] at hj
      have := good_ne hg (i := i) (j := i + 1 + j) (by omega) (by omega)
      have := (hg.2 R[i] (List.getElem_mem (by omega))).1
      simp only [List.getElem_drop, Bool.not_eq_true', decide_eq_false_iff_not]
      omega
  rw [← h1, List.getElem_cons_drop, List.take_append_drop]
theorem RefAt.newRegs {w w' : World} {q gq B n : Nat} {ws : List Int} {vR v : Value} {R R' : List (Nat × Nat)} (h : RefAt w q gq B n ws vR R) (e : Ext w w') (hB : B ≤ w.heap.size) (hv : PairRow w' w.heap.size v R') (hg : Arena.Good n R') :
    RefAt (w'.setCell ⟨q, 1, none⟩ v) q gq B n ws v R' := by
  have hlt := h.lt
  have t : Turn [q] w' (w'.setCell ⟨q, 1, none⟩ v) := (Turn.refl _ _).setCell (.inl (by simp)) _
  have h2 := h.ext e
  obtain ⟨lq, lg⟩ := h2.lt
  refine ⟨?_, by rw [t.block gq lg (by simp; exact fun e => h.ne e.symm)]; exact h2.words, h.len, (hv.turn t (by simp; omega)).mono hB, hg, h.ne, h.qB, h.gB, h.least⟩
  rw [heap_setCell_same w' q 1 _ _ _ h2.row]
  rfl
end Go.Proofs.YtgiopklnielglaaDoor
/- Arguments that were read are read again behind a call that turned nothing of what lay before it. -/
namespace Go.Proofs.YtgiopklnielglaaDoor
open Go.ChangeShapes Go.WideShapes Go.ChangeAt Go.RowKit
theorem args_stay {H : Type} {enc : TypeId × Value → H} {P : Program} {W W' : World} {sp' : Nat → Bool} (hl : laidOutB P = true) :
    ∀ {ts : List TypeId} {vs : List Value} {ds : List (DataW H)} {ps : List MemPlace}, (∀ t ∈ ts, P.readableRec t = true ∧ t < P.types.size) → DataW.TrodAll enc P W 0 (fun _ => true) true ts vs ds ps →
      (∀ p ∈ ps, W.sameAt W' p) → (∀ p ∈ ps, sp' p.block = true) → DataW.TrodAll enc P W' 0 sp' true ts vs ds ps := by
  intro ts
  induction ts with
  | nil =>
    intro vs ds ps _ h _ _
    obtain ⟨rfl, rfl, rfl⟩ := trodAll_nil h
    exact trodAll_mk0
  | cons t ts ih =>
    intro vs ds ps hr h hsame hs
    obtain ⟨v, vs', d, ds', p, q, rfl, rfl, rfl, h0, r0⟩ := trodAll_cons h
    have ht := hr t (.head _)
    exact trodAll_cons_mk (WideElems.Trod_stays hl ht.1 ht.2 h0 (fun x hx => hsame x (List.mem_append_left _ hx)) (fun x hx => hs x (List.mem_append_left _ hx)))
      (ih (fun t ht => hr t (.tail _ ht)) r0 (fun x hx => hsame x (List.mem_append_right _ hx)) (fun x hx => hs x (List.mem_append_right _ hx)))
end Go.Proofs.YtgiopklnielglaaDoor
/- A slice among the arguments, whatever its elements: each element's cells, and that they read. -/
namespace Go.Proofs.YtgiopklnielglaaDoor
open Go.ChangeShapes Go.WideShapes Go.ChangeAt Go.RowKit Go.Deep
/-- a slice whose elements are rows of s cells, wherever it lies -/
def RowsSl (w : World) (v : Value) (s : Nat) (l : List (List Value)) : Prop := ∃ q c, v = .slice q l.length c ∧ l.length ≤ c ∧ c ≤ maxLen ∧
  ∀ (i : Nat) (cs : List Value), l[i]? = some cs → cs.length = s ∧ ∃ b off, q = some ⟨b, off, none⟩ ∧ ∀ (f : Nat) (u : Value), cs[f]? = some u → w.cell? ⟨b, off + i * s + f, none⟩ = some u
theorem RowsSl.ext {w w' : World} {v : Value} {s : Nat} {l : List (List Value)} (h : RowsSl w v s l) (e : Ext w w') : RowsSl w' v s l := by
  obtain ⟨q, c, hv, h1, h2, hc⟩ := h
  exact ⟨q, c, hv, h1, h2, fun i cs hcs => by obtain ⟨hl, b, off, hq, hf⟩ := hc i cs hcs; exact ⟨hl, b, off, hq, fun f u hu => e.cell (hf f u hu)⟩⟩
/-- what an argument's element reads as -/
def ReadsAs {H : Type} (enc : TypeId × Value → H) (P : Program) (w : World) (e : TypeId) (cs : List Value) : Prop := ∃ n x, DataW.trod enc P w 0 (fun _ => true) true n e cs = some x
theorem open_rows {H : Type} {enc : TypeId × Value → H} {P : Program} {w : World} {base : Nat} {t e : TypeId} {s : Nat} {v : Value} {d : DataW H} {ps : List MemPlace} (ht : P.underlying t = some (.slice e)) (hs : P.cellsOf e = s) (h1 : 1 ≤ s)
    (hval : Value.okWide P w .any base t v) (h : DataW.Trod enc P w 0 (fun _ => true) true t v d ps) : ∃ l, RowsSl w v s l ∧ ∀ cs ∈ l, ReadsAs enc P w e cs := by
  obtain ⟨a0, len, cap, rfl⟩ := okWide_slice ht hval
  obtain ⟨fuel, hf⟩ := h
  simp only [Value.cells] at hf
  rcases open_slice ht hf with ⟨hcs, _⟩ | ⟨a, len', cap', m, n, D, Pl, hcs, _, hlc, hcm, hm, _, hel⟩
  · simp only [List.cons.injEq, and_true, Value.slice.injEq] at hcs
    obtain ⟨rfl, rfl, rfl⟩ := hcs
    exact ⟨[], ⟨none, 0, rfl, Nat.le_refl _, Nat.zero_le _, fun i cs h => by simp at h⟩, fun cs h => by cases h⟩
  · simp only [List.cons.injEq, and_true, Value.slice.injEq] at hcs
    obtain ⟨rfl, rfl, rfl⟩ := hcs
    simp only [if_true] at hm
    rw [hs] at hel
    rw [hm] at hel
    obtain ⟨V, hV⟩ := choose_lt (n := cap) (p := fun i cs => w.cells? 0 (a.add (i * s)) s = some cs ∧ DataW.trod enc P w 0 (fun _ => true) true n e cs = some (D i, Pl i)) (fun i hi => hel i hi)
    have hl : ((List.range len).map V).length = len := by simp
    refine ⟨(List.range len).map V, ⟨some a, cap, by rw [hl], by rw [hl]; exact hlc, hcm, fun i cs hi => ?_⟩, fun cs hcs => ?_⟩
    · have hil : i < len := by have := (List.getElem?_eq_some_iff.1 hi).1; simpa using this
      have hcs : V i = cs := by simpa [hil] using hi
      subst hcs
      obtain ⟨_, hlen, hcell⟩ := World.cells?_some (hV i (by omega)).1
      obtain ⟨_, hlen0, hcell0⟩ := World.cells?_some (hV 0 (by omega)).1
      have hc0 := hcell0 0 (by omega)
      rw [List.getElem?_eq_getElem (by omega : 0 < (V 0).length), Go.Deep.add_add] at hc0
      obtain ⟨b, off, spot⟩ := a
      have hspot : spot = none := by simpa [Addr.add] using World.cell?_spot hc0
      subst hspot
      refine ⟨hlen, b, off, rfl, fun f u hu => ?_⟩
      have hfl : f < s := by rw [← hlen]; exact (List.getElem?_eq_some_iff.1 hu).1
      have := hcell f hfl
      rw [Go.Deep.add_add, add_plain, hu] at this
      rw [Nat.add_assoc]
      exact this
    · obtain ⟨i, hi, rfl⟩ := List.mem_map.1 hcs
      have hil := List.mem_range.1 hi
      exact ⟨n, _, (hV i (by omega)).2⟩
end Go.Proofs.YtgiopklnielglaaDoor
/- Steps among the arguments; keep.Mod; what is set in one region leaves another's words. -/
namespace Go.Proofs.YtgiopklnielglaaDoor
open Go.ChangeShapes Go.WideShapes Go.ChangeAt Go.RowKit Arena
set_option maxHeartbeats 4000000
set_option maxRecDepth 100000
structure StepD where
  kind : Int
  n : Int
  at_ : Int
  wd : Int
/-- a slice that reads as steps, wherever it lies -/
def StepSl (w : World) (v : Value) (l : List StepD) : Prop := ∃ q c, v = .slice q l.length c ∧ l.length ≤ c ∧ c ≤ maxLen ∧
  ∀ (i : Nat) (x : StepD), l[i]? = some x → (Lit.int .i64 x.n).wf = true ∧ (Lit.int .i64 x.at_).wf = true ∧ ∃ b off, q = some ⟨b, off, none⟩ ∧ w.cell? ⟨b, off + i * 4, none⟩ = some (.int .i64 x.kind) ∧
    w.cell? ⟨b, off + i * 4 + 1, none⟩ = some (.int .i64 x.n) ∧ w.cell? ⟨b, off + i * 4 + 2, none⟩ = some (.int .i64 x.at_) ∧ w.cell? ⟨b, off + i * 4 + 3, none⟩ = some (.int .u64 x.wd)
theorem setMany_below : ∀ (vs ws : List Int) (o : Nat) {i : Nat}, i < o → (setMany ws o vs)[i]? = ws[i]? := by
  intro vs
  induction vs with
  | nil => intro ws o i _; rfl
  | cons v vs ih =>
    intro ws o i h
    show (setMany (ws.set o v) (o + 1) vs)[i]? = _
    rw [ih _ _ (by omega), List.getElem?_set_ne (by omega)]
/-- a region's words -/
def wordsOf (ws : List Int) (r : Nat × Nat) : List Int := (ws.drop r.1).take r.2
theorem words_apart {n : Nat} {R : List (Nat × Nat)} {ws : List Int} (hg : Arena.Good n R) {i j : Nat} (hi : i < R.length) (hj : j < R.length) (hne : i ≠ j) {a : Nat} (ha : a < R[i].2) (v : Int) : wordsOf (ws.set (R[i].1 + a) v) R[j] = wordsOf ws R[j] := by
  have hap : R[i].1 + R[i].2 ≤ R[j].1 ∨ R[j].1 + R[j].2 ≤ R[i].1 := by
    rcases Nat.lt_or_gt_of_ne hne with h | h
    · exact .inl (List.pairwise_iff_getElem.1 hg.1 i j hi hj h)
    · exact .inr (List.pairwise_iff_getElem.1 hg.1 j i hj hi h)
  unfold wordsOf
  apply List.ext_getElem?
  intro x
  by_cases hx : x < R[j].2
  · rw [List.getElem?_take_of_lt hx, List.getElem?_take_of_lt hx, List.getElem?_drop, List.getElem?_drop, List.getElem?_set_ne (by omega)]
  · rw [List.getElem?_eq_none (by rw [List.length_take]; omega), List.getElem?_eq_none (by rw [List.length_take]; omega)]
theorem wordsOf_length {n : Nat} {R : List (Nat × Nat)} {ws : List Int} (hg : Arena.Good n R) (hl : ws.length = n) {r : Nat × Nat} (hr : r ∈ R) : (wordsOf ws r).length = r.2 := by
  have := (hg.2 r hr).2
  unfold wordsOf
  rw [List.length_take, List.length_drop]
  omega
/-- a cut's words are 0 -/
theorem wordsOf_cut {ws : List Int} : ∀ (k o : Nat), o + k ≤ ws.length → wordsOf (setMany ws o (List.replicate k 0)) (o, k) = List.replicate k 0 := by
  intro k
  induction k generalizing ws with
  | zero => intro o _; simp [wordsOf]
  | succ k ih =>
    intro o h
    have h2 := ih (ws := ws.set o 0) (o + 1) (by rw [List.length_set]; omega)
    rw [List.replicate_succ]
    show wordsOf (setMany (ws.set o 0) (o + 1) (List.replicate k 0)) (o, k + 1) = _
    have hz : (setMany (ws.set o 0) (o + 1) (List.replicate k 0))[o]? = some 0 := by
      rw [setMany_below _ _ _ (by omega), List.getElem?_set_self (by omega)]
    unfold wordsOf at h2 ⊢
    dsimp only at h2 ⊢
    have hlt : o < (setMany (ws.set o 0) (o + 1) (List.replicate k 0)).length := (List.getElem?_eq_some_iff.1 hz).1
    rw [List.drop_eq_getElem_cons hlt, List.take_succ_cons, h2]
    congr 1
    rw [List.getElem?_eq_getElem hlt] at hz
    exact Option.some.inj hz
end Go.Proofs.YtgiopklnielglaaDoor
/- The reference's arena: Cut. -/
namespace Go.Proofs.YtgiopklnielglaaDoor
open Go.RowKit Go.Maps Arena
set_option maxHeartbeats 4000000
set_option maxRecDepth 100000
attribute [local go_sem ↓] Go.wp_at_zero Go.wp_at_succ
theorem ins_split {x : Nat × Nat} : ∀ (A L : List (Nat × Nat)), (∀ r ∈ A, r.1 < x.1) → (∀ r, L.head? = some r → x.1 < r.1) → ins x (A ++ L) = A ++ x :: L := by
  intro A
  induction A with
  | nil =>
    intro L _ hL
    cases L with
    | nil => rfl
    | cons y L =>
      have := hL y rfl
      simp [ins, this]
  | cons y A ih =>
    intro L hA hL
    have := hA y (.head _)
    rw [List.cons_append, List.cons_append]
    unfold ins
    rw [if_neg (by omega), ih L (fun r hr => hA r (.tail _ hr)) hL]
theorem setMany_snoc (v : Int) : ∀ (vs ws : List Int) (o : Nat), setMany ws o (vs ++ [v]) = (setMany ws o vs).set (o + vs.length) v := by
  intro vs
  induction vs with
  | nil => intro ws o; rfl
  | cons u vs ih =>
    intro ws o
    show setMany (ws.set o u) (o + 1) (vs ++ [v]) = _
    rw [ih]
    show _ = (setMany (ws.set o u) (o + 1) vs).set _ v
    rw [List.length_cons, show o + 1 + vs.length = o + (vs.length + 1) by omega]
/-- where the loop stands: every region ahead ends at or ahead of a; the scan goes on from there -/
def CutAt (k : Nat) (R : List (Nat × Nat)) (j a : Nat) : Prop := (∀ r ∈ R.take j, r.1 + r.2 ≤ a) ∧ scan k 0 R = scan k a (R.drop j)
theorem cutAt_next {n k : Nat} {R : List (Nat × Nat)} {j a : Nat} (hg : Arena.Good n R) (h : CutAt k R j a) (hj : j < R.length) (hno : ¬ a + k ≤ R[j].1) : CutAt k R (j + 1) (R[j].1 + R[j].2) := by
  refine ⟨fun r hr => ?_, ?_⟩
  · rw [List.take_succ_eq_append_getElem hj, List.mem_append, List.mem_singleton] at hr
    rcases hr with hr | rfl
    · obtain ⟨i, hi, rfl⟩ := List.getElem_of_mem hr
      rw [List.length_take] at hi
      rw [List.getElem_take]
      have := good_ne hg (i := i) (j := j) (by omega) hj
      omega
    · exact Nat.le_refl _
  · rw [h.2, List.drop_eq_getElem_cons hj]
    exact (scan_round (r := R[j]) (R := R.drop (j + 1))).2 hno
theorem cutAt_here {n k : Nat} {R : List (Nat × Nat)} {j a : Nat} (hk : 1 ≤ k) (hg : Arena.Good n R) (h : CutAt k R j a) (hj : j < R.length) (hyes : a + k ≤ R[j].1) : scan k 0 R = a ∧ ins (a, k) R = R.take j ++ (a, k) :: R.drop j := by
  refine ⟨by rw [h.2, List.drop_eq_getElem_cons hj]; exact (scan_round (r := R[j]) (R := R.drop (j + 1))).1 hyes, ?_⟩
  have := ins_split (x := (a, k)) (R.take j) (R.drop j) (fun r hr => ?_) (fun r hr => ?_)
  · rw [List.take_append_drop] at this; exact this
  · have h1 := h.1 r hr
    have h2 := (hg.2 r (List.mem_of_mem_take hr)).1
    simp; omega
  · rw [List.drop_eq_getElem_cons hj] at hr
    obtain rfl := Option.some.inj (show some R[j] = some r from hr)
    simp; omega
theorem cutAt_end {n k : Nat} {R : List (Nat × Nat)} {a : Nat} (hg : Arena.Good n R) (h : CutAt k R R.length a) : scan k 0 R = a ∧ ins (a, k) R = R.take R.length ++ (a, k) :: R.drop R.length := by
  refine ⟨by rw [h.2, List.drop_length]; rfl, ?_⟩
  have := ins_split (x := (a, k)) (R.take R.length) (R.drop R.length) (fun r hr => ?_) (fun r hr => ?_)
  · rw [List.take_append_drop] at this; exact this
  · have h1 := h.1 r hr
    have h2 := (hg.2 r (List.mem_of_mem_take hr)).1
    simp; omega
  · rw [List.drop_length] at hr; cases hr
theorem refcut_small {w : World} {q gq B n : Nat} {ws : List Int} {vR : Value} {R : List (Nat × Nat)} (h : RefAt w q gq B n ws vR R) {k : Int} (hk : k < 1) :
    Calls Tryd.prog 24 #[.pointer (some ⟨q, 0, none⟩), .int .i64 k] w fun e w' => e = .returned (.int .i64 (-1)) ∧ Ext w w' := by
  obtain ⟨qa, ca, rfl, la1, la2, hca⟩ := h.regs.sl
  obtain ⟨c0, c1, _⟩ := h.cells
  have HA := Lib.hid hca
  have HG := Lib.hid h.good
  have hrl := good_len h.good
  have hn := h.least
  have b0 : decide (k < 1) = true := decide_eq_true hk
  unfold maxLen at la2
  clear hca h
  go_enter Tryd.func24, Tryd.ntmps24
  go_wp2
  go_loopw [5, 6] (fun a j wx => ∃ (jj aa : Nat), jj ≤ R.length ∧ j = .int .i64 jj ∧ a = .int .i64 aa ∧ aa ≤ n ∧ Ext w wx) (fun _ j _ => R.length - (Go.RowKit.intOf j).toNat)
  case atStart => exact ⟨0, 0, by omega, rfl, rfl, by omega, Ext.refl _⟩
  case round =>
    obtain ⟨jj, aa, hjj, rfl, rfl, haa, hx⟩ := hrel
    have C0 := hx.cell c0; have C1 := hx.cell c1
    by_cases hlt : jj < R.length
    · have i1 : (jj : Int) < (R.length : Int) := by omega
      obtain ⟨b, off, rfl, p0, p1⟩ := HA.out jj _ (List.getElem?_eq_getElem hlt)
      have P0 := hx.cell p0; have P1 := hx.cell p1
      have hb := HG.out.2 R[jj] (List.getElem_mem hlt)
      clear p0 p1
      generalize R[jj] = y at *
      go_wp2_with fail
      go_big_quiet (fail)
      go_wp2
      exact ⟨⟨jj + 1, y.1 + y.2, by omega, by go_num, by go_num, by omega, hx.trans (Ext.drewN _ _)⟩, by simp [Go.RowKit.intOf]; omega⟩
    · obtain rfl : jj = R.length := by omega
      go_wp2
      go_ret
      exact ⟨rfl, hx⟩
theorem refcut_is {w : World} {q gq B n : Nat} {ws : List Int} {vR : Value} {R : List (Nat × Nat)} (h : RefAt w q gq B n ws vR R) (hB : B ≤ w.heap.size) {k : Nat} (hk : 1 ≤ k) (hk2 : k ≤ 9223372036854775807) :
    Calls Tryd.prog 24 #[.pointer (some ⟨q, 0, none⟩), .int .i64 k] w fun e w' =>
      (scan k 0 R + k ≤ n ∧ e = .returned (.int .i64 (scan k 0 R)) ∧ (∃ v, RefAt w' q gq B n (setMany ws (scan k 0 R) (List.replicate k 0)) v (ins (scan k 0 R, k) R)) ∧ Turn [q, gq] w w') ∨
      (¬ scan k 0 R + k ≤ n ∧ e = .returned (.int .i64 (-1)) ∧ Ext w w') := by
  have H := Lib.hid h
  obtain ⟨qa, ca, hvR, la1, la2, hca⟩ := h.regs.sl
  obtain ⟨c0, c1, f1⟩ := h.cells
  have HA := Lib.hid hca
  have HG := Lib.hid h.good
  have hrl := good_len h.good
  have hn := h.least
  have hlt := h.lt
  have hqg := h.ne
  have b0 : decide ((k : Int) < 1) = false := decide_eq_false (by omega)
  unfold maxLen at la2
  clear hca h
  subst hvR
  go_enter Tryd.func24, Tryd.ntmps24
  go_upto_block 0 with fail
  go_cut [5, 6] from 8 to 51 (fun a j wx => ∃ (jj aa : Nat), jj ≤ R.length ∧ j = .int .i64 jj ∧ a = .int .i64 aa ∧ aa ≤ n ∧ scan k 0 R = aa ∧ ins (aa, k) R = R.take jj ++ (aa, k) :: R.drop jj ∧ Ext w wx)
  case first =>
    go_wp2_with fail
    go_loopw [5, 6] (fun a j wx => ∃ (jj aa : Nat), jj ≤ R.length ∧ j = .int .i64 jj ∧ a = .int .i64 aa ∧ aa ≤ n ∧ CutAt k R jj aa ∧ Ext w wx) (fun _ j _ => R.length - (Go.RowKit.intOf j).toNat)
    case atStart => exact ⟨0, 0, by omega, rfl, rfl, by omega, ⟨fun r hr => by simp at hr, rfl⟩, Ext.refl _⟩
    case round =>
      obtain ⟨jj, aa, hjj, rfl, rfl, haa, hcut, hx⟩ := hrel
      have C0 := hx.cell c0; have C1 := hx.cell c1
      have HC := Lib.hid hcut
      clear hcut
      by_cases hlt : jj < R.length
      · have i1 : (jj : Int) < (R.length : Int) := by omega
        obtain ⟨b, off, rfl, p0, p1⟩ := HA.out jj _ (List.getElem?_eq_getElem hlt)
        have P0 := hx.cell p0; have P1 := hx.cell p1
        have hb := HG.out.2 R[jj] (List.getElem_mem hlt)
        clear p0 p1
        by_cases hroom : aa + k ≤ R[jj].1
        · have HN := Lib.hid (cutAt_here hk HG.out HC.out hlt hroom)
          generalize R[jj] = y at *
          have t1 : decide ((y.1 : Int) - (aa : Int) < (k : Int)) = false := decide_eq_false (by omega)
          clear hroom
          go_wp2_with fail
          go_meet
          exact ⟨jj, aa, hjj, rfl, rfl, haa, HN.out.1, HN.out.2, hx⟩
        · have HN := Lib.hid (cutAt_next HG.out HC.out hlt hroom)
          generalize R[jj] = y at *
          have t1 : decide ((y.1 : Int) - (aa : Int) < (k : Int)) = true := decide_eq_true (by omega)
          clear hroom
          go_wp2_with fail
          go_big_quiet (fail)
          go_wp2
          exact ⟨⟨jj + 1, y.1 + y.2, by omega, by go_num, by go_num, by omega, HN.out, hx.trans (Ext.drewN _ _)⟩, by simp [Go.RowKit.intOf]; omega⟩
      · obtain rfl : jj = R.length := by omega
        have HN := Lib.hid (cutAt_end HG.out HC.out)
        go_wp2_with fail
        go_meet
        exact ⟨R.length, aa, hjj, rfl, rfl, haa, HN.out.1, HN.out.2, hx⟩
  case rest =>
    obtain ⟨jj, aa, hjj, rfl, rfl, haa, hsc, hins, hx⟩ := hcut
    have HSC := Lib.hid hsc; have HIN := Lib.hid hins
    have C0 := hx.cell c0; have C1 := hx.cell c1
    have HX := Lib.hid hx
    clear hsc hins hx
    by_cases hfit : aa + k ≤ n
    · have t1 : decide ((n : Int) - (aa : Int) < (k : Int)) = false := decide_eq_false (by omega)
      have HRC := Lib.hid (H.out.ext HX.out)
      have hBc : B ≤ wc.heap.size := by have := HX.out.size; omega
      have F1 := (HX.out.frozen c1).trans f1
      obtain ⟨u1, hs1, hp1⟩ := head_src (k := jj) HRC.out.regs hjj
      obtain ⟨u2, hs2, hp2⟩ := tail_src (k := jj) HRC.out.regs hjj
      have HP1 := Lib.hid hp1; have HP2 := Lib.hid hp2
      clear hp1 hp2
      go_upto_region 7 with fail
      go_cut [] from 65 to 87 (fun wx => ∃ v, RefAt wx q gq B n ws v (ins (aa, k) R) ∧ Turn [q] wc wx)
      case first =>
        refine wp_region_noPanic ?_
        refine wp_region_last 23 (S := (fun w' => w'.cell? ⟨q, 1, none⟩ = some (.slice qa R.length ca) ∧ w'.frozen? ⟨q, 1, none⟩ = false ∧ Ext wc w')) (by kernel_rfl) (by kernel_rfl) _ rfl ?_ (fun hHeld => ?_)
        · (refine keep3 C1 F1 ?_; first | exact Ext.drew _ | exact e1 | exact e1b | exact e2 | exact e3 | exact e4 | exact e5)
        simp only [List.take_succ_cons, List.take_zero]
        refine wpAnyH_take (i := 0) (v := ?v1) rfl (by kernel_rfl) (by kernel_rfl) (by kernel_rfl) (fun _ _ _ h => h) (Or.inl ⟨by rfl, ?y1⟩) (by assumption) ?r1
        case y1 => intro w hSw; (try dsimp only at hSw); go_simp; (try with_reducible rfl)
        (try simp only [Act.put, List.setIfInBounds_toArray, List.set_cons_zero, List.set_cons_succ, List.getElem_toArray, List.getElem_cons_zero, List.getElem_cons_succ])
        refine wpAnyH_take (i := 2) (v := ?v2) rfl (by kernel_rfl) (by kernel_rfl) (by kernel_rfl) (fun _ _ _ h => h) (Or.inl ⟨by rfl, ?y2⟩) (by assumption) ?r2
        case y2 => intro w hSw; (try dsimp only at hSw); go_simp; (try with_reducible rfl)
        (try simp only [Act.put, List.setIfInBounds_toArray, List.set_cons_zero, List.set_cons_succ, List.getElem_toArray, List.getElem_cons_zero, List.getElem_cons_succ])
        refine wpAnyH_take (i := 3) (v := ?v3) rfl (by kernel_rfl) (by kernel_rfl) (by kernel_rfl) (fun _ _ _ h => h) (Or.inl ⟨by rfl, ?y3⟩) (by assumption) ?r3
        case y3 => intro w hSw; (try dsimp only at hSw); go_simp; (try with_reducible rfl)
        (try simp only [Act.put, List.setIfInBounds_toArray, List.set_cons_zero, List.set_cons_succ, List.getElem_toArray, List.getElem_cons_zero, List.getElem_cons_succ])
        refine wpAnyH_take (i := 4) (v := ?v4) rfl (by kernel_rfl) (by kernel_rfl) (by kernel_rfl) (fun _ _ _ h => h) (Or.inl ⟨by rfl, ?y4⟩) (by assumption) ?r4
        case y4 => intro w hSw; (try dsimp only at hSw); go_simp; (try with_reducible rfl)
        (try simp only [Act.put, List.setIfInBounds_toArray, List.set_cons_zero, List.set_cons_succ, List.getElem_toArray, List.getElem_cons_zero, List.getElem_cons_succ])
        refine wpAnyH_take (i := 5) (v := ?v5) rfl (by kernel_rfl) (by kernel_rfl) (by kernel_rfl) (fun _ _ _ h => h) (Or.inl ⟨by rfl, ?y5⟩) (by assumption) ?r5
        case y5 => intro w hSw; (try dsimp only at hSw); go_simp; (try with_reducible rfl)
        (try simp only [Act.put, List.setIfInBounds_toArray, List.set_cons_zero, List.set_cons_succ, List.getElem_toArray, List.getElem_cons_zero, List.getElem_cons_succ])
        refine wpAnyH_take (i := 6) (v := ?v6) rfl (by kernel_rfl) (by kernel_rfl) (by kernel_rfl) (fun _ _ _ h => h) (Or.inl ⟨by rfl, ?y6⟩) (by assumption) ?r6
        case y6 => intro w hSw; (try dsimp only at hSw); go_simp; (try with_reducible rfl)
        (try simp only [Act.put, List.setIfInBounds_toArray, List.set_cons_zero, List.set_cons_succ, List.getElem_toArray, List.getElem_cons_zero, List.getElem_cons_succ])
        refine wpAnyH_take (i := 7) (v := ?v7) rfl (by kernel_rfl) (by kernel_rfl) (by kernel_rfl) (fun _ _ _ h => h) (Or.inl ⟨by rfl, ?y7⟩) (by assumption) ?r7
        case y7 => intro w hSw; (try dsimp only at hSw); go_simp; (try with_reducible rfl)
        (try simp only [Act.put, List.setIfInBounds_toArray, List.set_cons_zero, List.set_cons_succ, List.getElem_toArray, List.getElem_cons_zero, List.getElem_cons_succ])
        refine wpAnyH_take (i := 9) (v := ?v8) rfl (by kernel_rfl) (by kernel_rfl) (by kernel_rfl) (fun _ _ _ h => h) (Or.inl ⟨by rfl, ?y8⟩) (by assumption) ?r8
        case y8 => intro w hSw; (try dsimp only at hSw); go_simp; (try with_reducible rfl)
        (try simp only [Act.put, List.setIfInBounds_toArray, List.set_cons_zero, List.set_cons_succ, List.getElem_toArray, List.getElem_cons_zero, List.getElem_cons_succ])
        refine wpAnyH_take (i := 10) (v := ?v9) rfl (by kernel_rfl) (by kernel_rfl) (by kernel_rfl) (fun _ _ _ h => h) (Or.inl ⟨by rfl, ?y9⟩) (by assumption) ?r9
        case y9 => intro w hSw; (try dsimp only at hSw); go_simp; (try with_reducible rfl)
        (try simp only [Act.put, List.setIfInBounds_toArray, List.set_cons_zero, List.set_cons_succ, List.getElem_toArray, List.getElem_cons_zero, List.getElem_cons_succ])
        refine wpAnyH_take (i := 11) (v := ?v10) rfl (by kernel_rfl) (by kernel_rfl) (by kernel_rfl) (fun _ _ _ h => h) (Or.inl ⟨by rfl, ?y10⟩) (by assumption) ?r10
        case y10 => intro w hSw; (try dsimp only at hSw); go_simp; (try with_reducible rfl)
        (try simp only [Act.put, List.setIfInBounds_toArray, List.set_cons_zero, List.set_cons_succ, List.getElem_toArray, List.getElem_cons_zero, List.getElem_cons_succ])
        refine wpAnyH_take (i := 14) (v := ?v11) rfl (by kernel_rfl) (by kernel_rfl) (by kernel_rfl) (fun _ _ _ h => h) (Or.inl ⟨by rfl, ?y11⟩) (by assumption) ?r11
        case y11 => intro w hSw; (try dsimp only at hSw); go_simp; (try with_reducible rfl)
        (try simp only [Act.put, List.setIfInBounds_toArray, List.set_cons_zero, List.set_cons_succ, List.getElem_toArray, List.getElem_cons_zero, List.getElem_cons_succ])
        refine wpAnyH_take (i := 15) (v := ?v12) rfl (by kernel_rfl) (by kernel_rfl) (by kernel_rfl) (fun _ _ _ h => h) (Or.inl ⟨by rfl, ?y12⟩) (by assumption) ?r12
        case y12 => intro w hSw; (try dsimp only at hSw); go_simp; (try with_reducible rfl)
        (try simp only [Act.put, List.setIfInBounds_toArray, List.set_cons_zero, List.set_cons_succ, List.getElem_toArray, List.getElem_cons_zero, List.getElem_cons_succ])
        refine wpAnyH_take (i := 16) (v := ?v13) rfl (by kernel_rfl) (by kernel_rfl) (by kernel_rfl) (fun _ _ _ h => h) (Or.inl ⟨by rfl, ?y13⟩) (by assumption) ?r13
        case y13 => intro w hSw; (try dsimp only at hSw); go_simp; (try with_reducible rfl)
        (try simp only [Act.put, List.setIfInBounds_toArray, List.set_cons_zero, List.set_cons_succ, List.getElem_toArray, List.getElem_cons_zero, List.getElem_cons_succ])
        refine wpAnyH_take (i := 17) (v := ?v14) rfl (by kernel_rfl) (by kernel_rfl) (by kernel_rfl) (fun _ _ _ h => h) (Or.inl ⟨by rfl, ?y14⟩) (by assumption) ?r14
        case y14 => intro w hSw; (try dsimp only at hSw); go_simp; (try with_reducible rfl)
        (try simp only [Act.put, List.setIfInBounds_toArray, List.set_cons_zero, List.set_cons_succ, List.getElem_toArray, List.getElem_cons_zero, List.getElem_cons_succ])
        refine wpAnyH_take (i := 18) (v := ?v15) rfl (by kernel_rfl) (by kernel_rfl) (by kernel_rfl) (fun _ _ _ h => h) (Or.inl ⟨by rfl, ?y15⟩) (by assumption) ?r15
        case y15 => intro w hSw; (try dsimp only at hSw); go_simp; (try with_reducible rfl)
        (try simp only [Act.put, List.setIfInBounds_toArray, List.set_cons_zero, List.set_cons_succ, List.getElem_toArray, List.getElem_cons_zero, List.getElem_cons_succ])
        refine wpAnyH_take (i := 19) (v := ?v16) rfl (by kernel_rfl) (by kernel_rfl) (by kernel_rfl) (fun _ _ _ h => h) (Or.inl ⟨by rfl, ?y16⟩) (by assumption) ?r16
        case y16 => intro w hSw; (try dsimp only at hSw); go_simp; (try with_reducible rfl)
        (try simp only [Act.put, List.setIfInBounds_toArray, List.set_cons_zero, List.set_cons_succ, List.getElem_toArray, List.getElem_cons_zero, List.getElem_cons_succ])
        refine wpAnyH_ready (rs := [1, 12]) (by kernel_rfl) (by simp) ?_
        refine AllReadyH.cons rfl (fun K hK => ?_) (AllReadyH.cons rfl (fun K hK => ?_) (AllReadyH.nil))
        · skip
          have e1 : Ext wc (wc.alloc (.cells #[] 96)).drew := Ext.trans (Ext.alloc _ _) (Ext.drew _)
          go_simp
          refine hK.out _ _ ?s17 (fun hHeld => ?k17)
          case s17 => ((try dsimp only); (refine keep3 C1 F1 ?_; first | exact Ext.drew _ | exact e1 | exact e1b | exact e2 | exact e3 | exact e4 | exact e5))
          clear hK K
          (try simp only [Act.put, List.setIfInBounds_toArray, List.set_cons_zero, List.set_cons_succ, List.getElem_toArray, List.getElem_cons_zero, List.getElem_cons_succ])
          refine wpAnyH_ready (rs := [8, 12]) (by kernel_rfl) (by simp) ?_
          refine AllReadyH.cons rfl (fun K hK => ?_) (AllReadyH.cons rfl (fun K hK => ?_) (AllReadyH.nil))
          · skip
            refine step_append_pairs (by rfl) _ _ (by rfl) wc.heap.size _ u1 [] (R.take jj) (by rfl) (empty_at (heap_alloc_new wc _) (Nat.le_refl _)) (by rfl) (HP1.out _ (HRC.out.ext e1).regs) (by rw [List.length_take, List.length_nil]; omega) e1.size ?_
            intro v1 w1 hown1 hgrow1
            have e2 : Ext wc w1 := ext_grown e1 hgrow1 (by intro b hb; simp [Value.ownBlock] at hb; omega)
            refine hK.out _ _ ?s18 (fun hHeld => ?k18)
            case s18 => ((try dsimp only); (refine keep3 C1 F1 ?_; first | exact Ext.drew _ | exact e1 | exact e1b | exact e2 | exact e3 | exact e4 | exact e5))
            clear hK K
            (try simp only [Act.put, List.setIfInBounds_toArray, List.set_cons_zero, List.set_cons_succ, List.getElem_toArray, List.getElem_cons_zero, List.getElem_cons_succ])
            refine wpAnyH_ready (rs := [12]) (by kernel_rfl) (by simp) ?_
            refine AllReadyH.cons rfl (fun K hK => ?_) AllReadyH.nil
            have e3 : Ext wc (w1.alloc (.cells #[.int .i64 aa, .int .i64 k] 96)) := Ext.trans e2 (Ext.alloc _ _)
            go_simp
            refine hK.out _ _ ?s19 (fun hHeld => ?k19)
            case s19 => ((try dsimp only); (refine keep3 C1 F1 ?_; first | exact Ext.drew _ | exact e1 | exact e1b | exact e2 | exact e3 | exact e4 | exact e5))
            clear hK K
            (try simp only [Act.put, List.setIfInBounds_toArray, List.set_cons_zero, List.set_cons_succ, List.getElem_toArray, List.getElem_cons_zero, List.getElem_cons_succ])
            refine wpAnyH_ready (rs := [13]) (by kernel_rfl) (by simp) ?_
            refine AllReadyH.cons rfl (fun K hK => ?_) AllReadyH.nil
            refine step_append_pairs (by rfl) _ _ (by rfl) wc.heap.size _ _ _ [(aa, k)] (by rfl) (PairRow.alloc hown1 _) (by rfl) (pair_at (heap_alloc_new w1 _)) (by simp; omega) e3.size ?_
            intro v2 w2 hown2 hgrow2
            have e4 : Ext wc w2 := ext_grown e3 hgrow2 hown1.own
            refine hK.out _ _ ?s20 (fun hHeld => ?k20)
            case s20 => ((try dsimp only); (refine keep3 C1 F1 ?_; first | exact Ext.drew _ | exact e1 | exact e1b | exact e2 | exact e3 | exact e4 | exact e5))
            clear hK K
            (try simp only [Act.put, List.setIfInBounds_toArray, List.set_cons_zero, List.set_cons_succ, List.getElem_toArray, List.getElem_cons_zero, List.getElem_cons_succ])
            refine wpAnyH_ready (rs := [20]) (by kernel_rfl) (by simp) ?_
            refine AllReadyH.cons rfl (fun K hK => ?_) AllReadyH.nil
            refine step_append_pairs (by rfl) _ _ (by rfl) wc.heap.size _ u2 _ (R.drop jj) (by rfl) hown2 (by rfl) (HP2.out _ (HRC.out.ext e4).regs) (by simp; omega) e4.size ?_
            intro v3 w3 hown3 hgrow3
            have e5 : Ext wc w3 := ext_grown e4 hgrow3 hown2.own
            refine hK.out _ _ ?s21 (fun hHeld => ?k21)
            case s21 => ((try dsimp only); (refine keep3 C1 F1 ?_; first | exact Ext.drew _ | exact e1 | exact e1b | exact e2 | exact e3 | exact e4 | exact e5))
            clear hK K
            (try simp only [Act.put, List.setIfInBounds_toArray, List.set_cons_zero, List.set_cons_succ, List.getElem_toArray, List.getElem_cons_zero, List.getElem_cons_succ])
            refine wpAnyH_take (i := 21) (v := ?v22) rfl (by kernel_rfl) (by kernel_rfl) (by kernel_rfl) (fun _ _ _ h => h) (Or.inl ⟨by rfl, ?y22⟩) (by assumption) ?r22
            case y22 => intro w hSw; (try dsimp only at hSw); go_simp; (try with_reducible rfl)
            (try simp only [Act.put, List.setIfInBounds_toArray, List.set_cons_zero, List.set_cons_succ, List.getElem_toArray, List.getElem_cons_zero, List.getElem_cons_succ])
            refine wpAnyH_take (i := 22) (v := ?v23) rfl (by kernel_rfl) (by kernel_rfl) (by kernel_rfl) (fun _ _ _ h => h) (Or.inl ⟨by rfl, ?y23⟩) (by assumption) ?r23
            case y23 => intro w hSw; (try dsimp only at hSw); go_simp; (try with_reducible rfl)
            (try simp only [Act.put, List.setIfInBounds_toArray, List.set_cons_zero, List.set_cons_succ, List.getElem_toArray, List.getElem_cons_zero, List.getElem_cons_succ])
            refine wpAnyH_done (by kernel_rfl) ?_ _
            show wpList _ _ _ _ _ _
            have hc3 := e5.cell C1
            have hf3 := (e5.frozen C1).trans F1
            have HR3 := Lib.hid (show PairRow w3 wc.heap.size v3 (ins (aa, k) R) by rw [HIN.out]; simpa using hown3)
            have HE5 := Lib.hid e5
            obtain ⟨q3, n3, c3, hv3⟩ : ∃ q n c, v3 = .slice q n c := by obtain ⟨q3, c3, h, _⟩ := hown3.nilOr; exact ⟨q3, _, c3, h⟩
            subst hv3
            clear hown3
            go_wp2
            refine NoPanic.normal ?_
            go_wp2
            go_meet
            exact ⟨_, HRC.out.newRegs HE5.out hBc HR3.out (good_ins (by simpa using hk) (by simpa using hfit) HG.out (by rw [← HSC.out]; exact scan_free HG.out)), (Turn.of_ext HE5.out).setCell (.inl (by simp)) _⟩
          · skip
            have e1b : Ext wc ((wc.alloc (.cells #[] 96)).alloc (.cells #[.int .i64 aa, .int .i64 k] 96)).drew := Ext.trans (Ext.trans (Ext.alloc _ _) (Ext.alloc _ _)) (Ext.drew _)
            go_simp
            refine hK.out _ _ ?s24 (fun hHeld => ?k24)
            case s24 => ((try dsimp only); (refine keep3 C1 F1 ?_; first | exact Ext.drew _ | exact e1 | exact e1b | exact e2 | exact e3 | exact e4 | exact e5))
            clear hK K
            (try simp only [Act.put, List.setIfInBounds_toArray, List.set_cons_zero, List.set_cons_succ, List.getElem_toArray, List.getElem_cons_zero, List.getElem_cons_succ])
            refine wpAnyH_ready (rs := [8]) (by kernel_rfl) (by simp) ?_
            refine AllReadyH.cons rfl (fun K hK => ?_) AllReadyH.nil
            refine step_append_pairs (by rfl) _ _ (by rfl) wc.heap.size _ u1 [] (R.take jj) (by rfl) (PairRow.alloc (w := wc.alloc (.cells #[] 96)) (empty_at (heap_alloc_new wc _) (Nat.le_refl _)) _) (by rfl) (HP1.out _ (HRC.out.ext e1b).regs) (by rw [List.length_take, List.length_nil]; omega) e1b.size ?_
            intro v1 w1 hown1 hgrow1
            have e2 : Ext wc w1 := ext_grown e1b hgrow1 (by intro b hb; simp [Value.ownBlock] at hb; omega)
            have hpb : w1.heap[wc.heap.size + 1]? = some (.cells #[.int .i64 aa, .int .i64 k] 96) := by
              rw [hgrow1.block (wc.heap.size + 1) (by simp) (by simp [Value.ownBlock])]
              have h3 := heap_alloc_new (wc.alloc (.cells #[] 96)) (.cells #[.int .i64 aa, .int .i64 k] 96)
              rw [show (wc.alloc (.cells #[] 96)).heap.size = wc.heap.size + 1 by simp] at h3
              exact h3
            refine hK.out _ _ ?s25 (fun hHeld => ?k25)
            case s25 => ((try dsimp only); (refine keep3 C1 F1 ?_; first | exact Ext.drew _ | exact e1 | exact e1b | exact e2 | exact e3 | exact e4 | exact e5))
            clear hK K
            (try simp only [Act.put, List.setIfInBounds_toArray, List.set_cons_zero, List.set_cons_succ, List.getElem_toArray, List.getElem_cons_zero, List.getElem_cons_succ])
            refine wpAnyH_ready (rs := [13]) (by kernel_rfl) (by simp) ?_
            refine AllReadyH.cons rfl (fun K hK => ?_) AllReadyH.nil
            refine step_append_pairs (by rfl) _ _ (by rfl) wc.heap.size _ _ _ [(aa, k)] (by rfl) hown1 (by rfl) (pair_at hpb) (by simp; omega) e2.size ?_
            intro v2 w2 hown2 hgrow2
            have e4 : Ext wc w2 := ext_grown e2 hgrow2 hown1.own
            refine hK.out _ _ ?s26 (fun hHeld => ?k26)
            case s26 => ((try dsimp only); (refine keep3 C1 F1 ?_; first | exact Ext.drew _ | exact e1 | exact e1b | exact e2 | exact e3 | exact e4 | exact e5))
            clear hK K
            (try simp only [Act.put, List.setIfInBounds_toArray, List.set_cons_zero, List.set_cons_succ, List.getElem_toArray, List.getElem_cons_zero, List.getElem_cons_succ])
            refine wpAnyH_ready (rs := [20]) (by kernel_rfl) (by simp) ?_
            refine AllReadyH.cons rfl (fun K hK => ?_) AllReadyH.nil
            refine step_append_pairs (by rfl) _ _ (by rfl) wc.heap.size _ u2 _ (R.drop jj) (by rfl) hown2 (by rfl) (HP2.out _ (HRC.out.ext e4).regs) (by simp; omega) e4.size ?_
            intro v3 w3 hown3 hgrow3
            have e5 : Ext wc w3 := ext_grown e4 hgrow3 hown2.own
            refine hK.out _ _ ?s27 (fun hHeld => ?k27)
            case s27 => ((try dsimp only); (refine keep3 C1 F1 ?_; first | exact Ext.drew _ | exact e1 | exact e1b | exact e2 | exact e3 | exact e4 | exact e5))
            clear hK K
            (try simp only [Act.put, List.setIfInBounds_toArray, List.set_cons_zero, List.set_cons_succ, List.getElem_toArray, List.getElem_cons_zero, List.getElem_cons_succ])
            refine wpAnyH_take (i := 21) (v := ?v28) rfl (by kernel_rfl) (by kernel_rfl) (by kernel_rfl) (fun _ _ _ h => h) (Or.inl ⟨by rfl, ?y28⟩) (by assumption) ?r28
            case y28 => intro w hSw; (try dsimp only at hSw); go_simp; (try with_reducible rfl)
            (try simp only [Act.put, List.setIfInBounds_toArray, List.set_cons_zero, List.set_cons_succ, List.getElem_toArray, List.getElem_cons_zero, List.getElem_cons_succ])
            refine wpAnyH_take (i := 22) (v := ?v29) rfl (by kernel_rfl) (by kernel_rfl) (by kernel_rfl) (fun _ _ _ h => h) (Or.inl ⟨by rfl, ?y29⟩) (by assumption) ?r29
            case y29 => intro w hSw; (try dsimp only at hSw); go_simp; (try with_reducible rfl)
            (try simp only [Act.put, List.setIfInBounds_toArray, List.set_cons_zero, List.set_cons_succ, List.getElem_toArray, List.getElem_cons_zero, List.getElem_cons_succ])
            refine wpAnyH_done (by kernel_rfl) ?_ _
            show wpList _ _ _ _ _ _
            have hc3 := e5.cell C1
            have hf3 := (e5.frozen C1).trans F1
            have HR3 := Lib.hid (show PairRow w3 wc.heap.size v3 (ins (aa, k) R) by rw [HIN.out]; simpa using hown3)
            have HE5 := Lib.hid e5
            obtain ⟨q3, n3, c3, hv3⟩ : ∃ q n c, v3 = .slice q n c := by obtain ⟨q3, c3, h, _⟩ := hown3.nilOr; exact ⟨q3, _, c3, h⟩
            subst hv3
            clear hown3
            go_wp2
            refine NoPanic.normal ?_
            go_wp2
            go_meet
            exact ⟨_, HRC.out.newRegs HE5.out hBc HR3.out (good_ins (by simpa using hk) (by simpa using hfit) HG.out (by rw [← HSC.out]; exact scan_free HG.out)), (Turn.of_ext HE5.out).setCell (.inl (by simp)) _⟩
        · skip
          have e1 : Ext wc (wc.alloc (.cells #[.int .i64 aa, .int .i64 k] 96)).drew := Ext.trans (Ext.alloc _ _) (Ext.drew _)
          go_simp
          refine hK.out _ _ ?s30 (fun hHeld => ?k30)
          case s30 => ((try dsimp only); (refine keep3 C1 F1 ?_; first | exact Ext.drew _ | exact e1 | exact e1b | exact e2 | exact e3 | exact e4 | exact e5))
          clear hK K
          (try simp only [Act.put, List.setIfInBounds_toArray, List.set_cons_zero, List.set_cons_succ, List.getElem_toArray, List.getElem_cons_zero, List.getElem_cons_succ])
          refine wpAnyH_ready (rs := [1]) (by kernel_rfl) (by simp) ?_
          refine AllReadyH.cons rfl (fun K hK => ?_) AllReadyH.nil
          have e1b : Ext wc ((wc.alloc (.cells #[.int .i64 aa, .int .i64 k] 96)).alloc (.cells #[] 96)).drew := Ext.trans (Ext.trans (Ext.alloc _ _) (Ext.alloc _ _)) (Ext.drew _)
          go_simp
          refine hK.out _ _ ?s31 (fun hHeld => ?k31)
          case s31 => ((try dsimp only); (refine keep3 C1 F1 ?_; first | exact Ext.drew _ | exact e1 | exact e1b | exact e2 | exact e3 | exact e4 | exact e5))
          clear hK K
          (try simp only [Act.put, List.setIfInBounds_toArray, List.set_cons_zero, List.set_cons_succ, List.getElem_toArray, List.getElem_cons_zero, List.getElem_cons_succ])
          refine wpAnyH_ready (rs := [8]) (by kernel_rfl) (by simp) ?_
          refine AllReadyH.cons rfl (fun K hK => ?_) AllReadyH.nil
          have hnew : (wc.alloc (.cells #[.int .i64 aa, .int .i64 k] 96)).heap.size = wc.heap.size + 1 := by simp
          refine step_append_pairs (by rfl) _ _ (by rfl) wc.heap.size _ u1 [] (R.take jj) (by rfl) (empty_at (b := wc.heap.size + 1) (by have := heap_alloc_new (wc.alloc (.cells #[.int .i64 aa, .int .i64 k] 96)) (.cells #[] 96); rw [hnew] at this; exact this) (by omega)) (by rfl) (HP1.out _ (HRC.out.ext e1b).regs) (by rw [List.length_take, List.length_nil]; omega) e1b.size ?_
          intro v1 w1 hown1 hgrow1
          have e2 : Ext wc w1 := ext_grown e1b hgrow1 (by intro b hb; simp [Value.ownBlock] at hb; omega)
          have hpb : w1.heap[wc.heap.size]? = some (.cells #[.int .i64 aa, .int .i64 k] 96) := by
            rw [hgrow1.block wc.heap.size (by simp; omega) (by simp [Value.ownBlock])]
            have h2 := Below.block (Below.alloc (B := wc.heap.size + 1) (Below.refl _ (wc.alloc (.cells #[.int .i64 aa, .int .i64 k] 96))) (by simp) (.cells #[] 96)) wc.heap.size (by omega)
            exact h2.trans (heap_alloc_new wc _)
          refine hK.out _ _ ?s32 (fun hHeld => ?k32)
          case s32 => ((try dsimp only); (refine keep3 C1 F1 ?_; first | exact Ext.drew _ | exact e1 | exact e1b | exact e2 | exact e3 | exact e4 | exact e5))
          clear hK K
          (try simp only [Act.put, List.setIfInBounds_toArray, List.set_cons_zero, List.set_cons_succ, List.getElem_toArray, List.getElem_cons_zero, List.getElem_cons_succ])
          refine wpAnyH_ready (rs := [13]) (by kernel_rfl) (by simp) ?_
          refine AllReadyH.cons rfl (fun K hK => ?_) AllReadyH.nil
          refine step_append_pairs (by rfl) _ _ (by rfl) wc.heap.size _ _ _ [(aa, k)] (by rfl) hown1 (by rfl) (pair_at hpb) (by simp; omega) e2.size ?_
          intro v2 w2 hown2 hgrow2
          have e4 : Ext wc w2 := ext_grown e2 hgrow2 hown1.own
          refine hK.out _ _ ?s33 (fun hHeld => ?k33)
          case s33 => ((try dsimp only); (refine keep3 C1 F1 ?_; first | exact Ext.drew _ | exact e1 | exact e1b | exact e2 | exact e3 | exact e4 | exact e5))
          clear hK K
          (try simp only [Act.put, List.setIfInBounds_toArray, List.set_cons_zero, List.set_cons_succ, List.getElem_toArray, List.getElem_cons_zero, List.getElem_cons_succ])
          refine wpAnyH_ready (rs := [20]) (by kernel_rfl) (by simp) ?_
          refine AllReadyH.cons rfl (fun K hK => ?_) AllReadyH.nil
          refine step_append_pairs (by rfl) _ _ (by rfl) wc.heap.size _ u2 _ (R.drop jj) (by rfl) hown2 (by rfl) (HP2.out _ (HRC.out.ext e4).regs) (by simp; omega) e4.size ?_
          intro v3 w3 hown3 hgrow3
          have e5 : Ext wc w3 := ext_grown e4 hgrow3 hown2.own
          refine hK.out _ _ ?s34 (fun hHeld => ?k34)
          case s34 => ((try dsimp only); (refine keep3 C1 F1 ?_; first | exact Ext.drew _ | exact e1 | exact e1b | exact e2 | exact e3 | exact e4 | exact e5))
          clear hK K
          (try simp only [Act.put, List.setIfInBounds_toArray, List.set_cons_zero, List.set_cons_succ, List.getElem_toArray, List.getElem_cons_zero, List.getElem_cons_succ])
          refine wpAnyH_take (i := 21) (v := ?v35) rfl (by kernel_rfl) (by kernel_rfl) (by kernel_rfl) (fun _ _ _ h => h) (Or.inl ⟨by rfl, ?y35⟩) (by assumption) ?r35
          case y35 => intro w hSw; (try dsimp only at hSw); go_simp; (try with_reducible rfl)
          (try simp only [Act.put, List.setIfInBounds_toArray, List.set_cons_zero, List.set_cons_succ, List.getElem_toArray, List.getElem_cons_zero, List.getElem_cons_succ])
          refine wpAnyH_take (i := 22) (v := ?v36) rfl (by kernel_rfl) (by kernel_rfl) (by kernel_rfl) (fun _ _ _ h => h) (Or.inl ⟨by rfl, ?y36⟩) (by assumption) ?r36
          case y36 => intro w hSw; (try dsimp only at hSw); go_simp; (try with_reducible rfl)
          (try simp only [Act.put, List.setIfInBounds_toArray, List.set_cons_zero, List.set_cons_succ, List.getElem_toArray, List.getElem_cons_zero, List.getElem_cons_succ])
          refine wpAnyH_done (by kernel_rfl) ?_ _
          show wpList _ _ _ _ _ _
          have hc3 := e5.cell C1
          have hf3 := (e5.frozen C1).trans F1
          have HR3 := Lib.hid (show PairRow w3 wc.heap.size v3 (ins (aa, k) R) by rw [HIN.out]; simpa using hown3)
          have HE5 := Lib.hid e5
          obtain ⟨q3, n3, c3, hv3⟩ : ∃ q n c, v3 = .slice q n c := by obtain ⟨q3, c3, h, _⟩ := hown3.nilOr; exact ⟨q3, _, c3, h⟩
          subst hv3
          clear hown3
          go_wp2
          refine NoPanic.normal ?_
          go_wp2
          go_meet
          exact ⟨_, HRC.out.newRegs HE5.out hBc HR3.out (good_ins (by simpa using hk) (by simpa using hfit) HG.out (by rw [← HSC.out]; exact scan_free HG.out)), (Turn.of_ext HE5.out).setCell (.inl (by simp)) _⟩
      case rest =>
        obtain ⟨v, hR, hT⟩ := hcut
        have HR := Lib.hid hR; have HT := Lib.hid hT
        have hl0 := hR.len
        clear hR hT
        have HT2 := Lib.hid ((Turn.of_ext (bs := [q]) HX.out).trans HT.out)
        go_wp2_with fail
        go_loopw [7] (fun i wx => ∃ ii : Nat, ii ≤ k ∧ i = .int .i64 ii ∧ RefAt wx q gq B n (setMany ws aa (List.replicate ii 0)) v (ins (aa, k) R) ∧ Turn [gq] wc wx) (fun i _ => k - (Go.RowKit.intOf i).toNat)
        case atStart => exact ⟨0, by omega, rfl, HR.out, Turn.refl _ _⟩
        case round =>
          obtain ⟨ii, hii, rfl, hR2, hT2⟩ := hrel
          have HR2 := Lib.hid hR2; have HT3 := Lib.hid hT2
          clear hR2 hT2
          by_cases hil : ii < k
          · obtain ⟨d0, d1, _⟩ := HR2.out.cells
            obtain ⟨k0, k1⟩ := HR2.out.word (i := aa + ii) (by omega)
            have i1 : (ii : Int) < (k : Int) := by omega
            have HST := Lib.hid (HR2.out.store (aa + ii) 0)
            have hmk : (setMany ws aa (List.replicate ii 0)).set (aa + ii) 0 = setMany ws aa (List.replicate (ii + 1) 0) := by
              rw [List.replicate_succ', setMany_snoc, List.length_replicate]
            rw [hmk] at HST
            generalize (setMany ws aa (List.replicate ii 0)).getD (aa + ii) 0 = u at *
            clear hmk
            go_wp2_with fail
            exact ⟨⟨ii + 1, by omega, by go_num, HST.out, HT3.out.trans ((Turn.refl _ _).setCell (.inl (by simp)) _)⟩, by simp [Go.RowKit.intOf]; omega⟩
          · obtain rfl : ii = k := by omega
            go_wp2_with fail
            go_ret
            refine .inl ⟨by rw [HSC.out]; exact hfit, by rw [HSC.out]; rfl, ⟨v, by rw [HSC.out]; exact HR2.out⟩, (HT2.out.mono (by simp)).trans (HT3.out.mono (by simp))⟩
    · have t1 : decide ((n : Int) - (aa : Int) < (k : Int)) = true := decide_eq_true (by omega)
      go_wp2_with fail
      go_ret
      exact .inr ⟨by rw [HSC.out]; exact hfit, rfl, HX.out⟩
end Go.Proofs.YtgiopklnielglaaDoor
/- The arena's and the reference's calls, each answer as one function of the regions and words. -/
namespace Go.Proofs.YtgiopklnielglaaDoor
open Go.RowKit Go.Maps Arena
set_option maxHeartbeats 4000000
set_option maxRecDepth 100000
theorem drop_none {R : List (Nat × Nat)} {x : Int} (h : ∀ r ∈ R, (r.1 : Int) ≠ x) : Arena.drop x R = R := by
  unfold Arena.drop
  refine List.filter_eq_self.2 fun r hr => ?_
  have := h r hr
  simp [this]
theorem lenAt_some' {n : Nat} {R : List (Nat × Nat)} {x : Int} (_hg : Arena.Good n R) (h : ¬ lenAt R x = 0) : ∃ (i : Nat) (hi : i < R.length), (R[i].1 : Int) = x ∧ lenAt R x = R[i].2 := by
  obtain ⟨r, hr, h1, h2⟩ := lenAt_some h
  obtain ⟨i, hi, rfl⟩ := List.getElem_of_mem hr
  exact ⟨i, hi, h1, h2⟩
def freeB (R : List (Nat × Nat)) (x : Int) : Bool := !decide (lenAt R x = 0)
/-- whether a place is within the region that begins at x -/
def within (R : List (Nat × Nat)) (x a : Int) : Bool := decide (0 ≤ a ∧ a < lenAt R x)
def setWs (ws : List Int) (R : List (Nat × Nat)) (x a v : Int) : List Int := if within R x a then ws.set (x + a).toNat v else ws
def getW (ws : List Int) (R : List (Nat × Nat)) (x a : Int) : Int := if within R x a then ws.getD (x + a).toNat 0 else 0
def wordsAt (ws : List Int) (R : List (Nat × Nat)) (x : Int) : List Int := (ws.drop x.toNat).take (lenAt R x)
/-- a place, by where it stands -/
theorem place_cases {n : Nat} {R : List (Nat × Nat)} (hg : Arena.Good n R) (x a : Int) :
    (lenAt R x = 0 ∧ within R x a = false) ∨ (∃ (i : Nat) (hi : i < R.length), (R[i].1 : Int) = x ∧ lenAt R x = R[i].2 ∧ ((within R x a = false ∧ (a < 0 ∨ (R[i].2 : Int) ≤ a)) ∨ ∃ m : Nat, a = m ∧ m < R[i].2 ∧ within R x a = true)) := by
  by_cases h0 : lenAt R x = 0
  · exact .inl ⟨h0, by unfold within; rw [h0]; simp⟩
  · obtain ⟨i, hi, hx, hl⟩ := lenAt_some' hg h0
    refine .inr ⟨i, hi, hx, hl, ?_⟩
    by_cases ha : 0 ≤ a ∧ a < lenAt R x
    · obtain ⟨m, rfl⟩ := Int.eq_ofNat_of_zero_le ha.1
      exact .inr ⟨m, rfl, by rw [← hl]; omega, by unfold within; exact decide_eq_true ha⟩
    · refine .inl ⟨by unfold within; exact decide_eq_false ha, ?_⟩
      rw [← hl]; omega
theorem setA_said {w : World} {p g bm n : Nat} {ws : List Int} {R : List (Nat × Nat)} {x a v : Int} (h : ArenaAt w p g bm n ws R) (hw : (Lit.int .i64 x).wf = true) :
    Calls Tryd.prog 25 #[.pointer (some ⟨p, 0, none⟩), .int .i64 x, .int .i64 a, .int .u64 v] w fun e w' => e = .returned (.bool (within R x a)) ∧ ArenaAt w' p g bm n (setWs ws R x a v) R ∧ Turn [g] w w' := by
  rcases place_cases h.good x a with ⟨h0, hf⟩ | ⟨i, hi, rfl, hl, ⟨hf, ho⟩ | ⟨m, rfl, hm, hf⟩⟩
  · refine (set_no h hw h0).mono ?_
    rintro e w' ⟨rfl, rfl⟩
    exact ⟨by rw [hf], by simpa [setWs, hf] using h, Turn.refl _ _⟩
  · refine (set_out h (List.getElem_mem hi) ho).mono ?_
    rintro e w' ⟨rfl, rfl⟩
    exact ⟨by rw [hf], by simpa [setWs, hf] using h, Turn.refl _ _⟩
  · refine (set_yes h (List.getElem_mem hi) hm).mono ?_
    rintro e w' ⟨rfl, h1, h2⟩
    refine ⟨by rw [hf], ?_, h2⟩
    unfold setWs
    rw [if_pos hf, show ((R[i].1 : Int) + (m : Int)).toNat = R[i].1 + m by omega]
    exact h1
theorem setR_said {w : World} {q gq B n : Nat} {ws : List Int} {vR : Value} {R : List (Nat × Nat)} {x a v : Int} (h : RefAt w q gq B n ws vR R) :
    Calls Tryd.prog 26 #[.pointer (some ⟨q, 0, none⟩), .int .i64 x, .int .i64 a, .int .u64 v] w fun e w' => e = .returned (.bool (within R x a)) ∧ RefAt w' q gq B n (setWs ws R x a v) vR R ∧ Turn [gq] w w' := by
  rcases place_cases h.good x a with ⟨h0, hf⟩ | ⟨i, hi, rfl, hl, ⟨hf, ho⟩ | ⟨m, rfl, hm, hf⟩⟩
  · refine (refset_no h h0).mono ?_
    rintro e w' ⟨rfl, rfl⟩
    exact ⟨by rw [hf], by simpa [setWs, hf] using h, Turn.refl _ _⟩
  · refine (refset_out h (List.getElem_mem hi) ho).mono ?_
    rintro e w' ⟨rfl, rfl⟩
    exact ⟨by rw [hf], by simpa [setWs, hf] using h, Turn.refl _ _⟩
  · refine (refset_yes h (List.getElem_mem hi) hm).mono ?_
    rintro e w' ⟨rfl, h1, h2⟩
    refine ⟨by rw [hf], ?_, h2⟩
    unfold setWs
    rw [if_pos hf, show ((R[i].1 : Int) + (m : Int)).toNat = R[i].1 + m by omega]
    exact h1
theorem getA_said {w : World} {p g bm n : Nat} {ws : List Int} {R : List (Nat × Nat)} {x a : Int} (h : ArenaAt w p g bm n ws R) (hw : (Lit.int .i64 x).wf = true) :
    Calls Tryd.prog 76 #[.pointer (some ⟨p, 0, none⟩), .int .i64 x, .int .i64 a] w fun e w' => e = .returned (.tuple #[.int .u64 (getW ws R x a), .bool (within R x a)]) ∧ w = w' := by
  rcases place_cases h.good x a with ⟨h0, hf⟩ | ⟨i, hi, rfl, hl, ⟨hf, ho⟩ | ⟨m, rfl, hm, hf⟩⟩
  · refine (get_no h hw h0).mono ?_
    rintro e w' ⟨rfl, rfl⟩
    exact ⟨by simp [getW, hf], rfl⟩
  · refine (get_out h (List.getElem_mem hi) ho).mono ?_
    rintro e w' ⟨rfl, rfl⟩
    exact ⟨by simp [getW, hf], rfl⟩
  · refine (get_yes h (List.getElem_mem hi) hm).mono ?_
    rintro e w' ⟨rfl, rfl⟩
    refine ⟨?_, rfl⟩
    unfold getW
    rw [if_pos hf, hf, show ((R[i].1 : Int) + (m : Int)).toNat = R[i].1 + m by omega]
theorem wordSl_nil (w : World) : WordSl w (.slice none 0 0) [] := ⟨none, 0, rfl, Nat.le_refl _, Nat.zero_le _, fun i x h => by simp at h⟩
theorem wordsAt_zero {ws : List Int} {R : List (Nat × Nat)} {x : Int} (h0 : lenAt R x = 0) : wordsAt ws R x = [] := by unfold wordsAt; rw [h0]; simp
theorem wordsA_said {w : World} {p g bm n : Nat} {ws : List Int} {R : List (Nat × Nat)} {x : Int} (h : ArenaAt w p g bm n ws R) (hw : (Lit.int .i64 x).wf = true) :
    Calls Tryd.prog 68 #[.pointer (some ⟨p, 0, none⟩), .int .i64 x] w fun e w' => ∃ v, e = .returned (.tuple #[v, .bool (freeB R x)]) ∧ WordSl w' v (wordsAt ws R x) ∧ Ext w w' := by
  by_cases h0 : lenAt R x = 0
  · refine (words_no h hw h0).mono ?_
    rintro e w' ⟨rfl, rfl⟩
    exact ⟨.slice none 0 0, by simp [freeB, h0], by rw [wordsAt_zero h0]; exact wordSl_nil _, Ext.refl _⟩
  · obtain ⟨i, hi, rfl, hl⟩ := lenAt_some' h.good h0
    refine (words_yes h (List.getElem_mem hi)).mono ?_
    rintro e w' ⟨v, rfl, h1, h2⟩
    refine ⟨v, by simp [freeB, h0], ?_, h2⟩
    have hlen := wordsOf_length (ws := ws) h.good h.len (List.getElem_mem hi)
    have e1 : wordsAt ws R (R[i].1 : Int) = wordsOf ws R[i] := by
      unfold wordsAt wordsOf
      rw [hl]
      simp
    rw [e1]
    refine WordSl.of_row (l := wordsOf ws R[i]) (base := w.heap.size) ?_
    rw [hlen]
    exact h1
theorem sizeR_said {w : World} {q gq B n : Nat} {ws : List Int} {vR : Value} {R : List (Nat × Nat)} {x : Int} (h : RefAt w q gq B n ws vR R) :
    Calls Tryd.prog 41 #[.pointer (some ⟨q, 0, none⟩), .int .i64 x] w fun e w' => (∃ s : Int, e = .returned (.int .i64 s) ∧ decide (0 ≤ s) = freeB R x) ∧ w = w' := by
  by_cases h0 : lenAt R x = 0
  · refine (size_no h h0).mono ?_
    rintro e w' ⟨rfl, rfl⟩
    exact ⟨⟨-1, rfl, by simp [freeB, h0]⟩, rfl⟩
  · obtain ⟨i, hi, rfl, hl⟩ := lenAt_some' h.good h0
    refine (size_yes h (List.getElem_mem hi)).mono ?_
    rintro e w' ⟨rfl, rfl⟩
    exact ⟨⟨_, rfl, by simp [freeB, h0]⟩, rfl⟩
end Go.Proofs.YtgiopklnielglaaDoor
/- A heap that is looked through: its words, where it begins, whether it may be. -/
namespace Go.Proofs.YtgiopklnielglaaDoor
open Go.RowKit Go.Maps Arena
set_option maxHeartbeats 4000000
set_option maxRecDepth 100000
structure Hp where
  base : Int
  half : Int
  space : Int
  top : Int
def hpV (h : Hp) : Value := .agg #[.int .i64 h.base, .int .i64 h.half, .int .i64 h.space, .int .i64 h.top]
/-- do a heap's numbers fit (the region aside) -/
def hpOK (h : Hp) : Prop := 8 ≤ h.half ∧ h.half ≤ 2000 ∧ 0 ≤ h.space ∧ h.space ≤ 1 ∧ 0 ≤ h.top ∧ h.top ≤ h.half
instance (h : Hp) : Decidable (hpOK h) := by unfold hpOK; infer_instance
def thereB (R : List (Nat × Nat)) (h : Hp) : Bool := decide (hpOK h) && decide ((lenAt R h.base : Int) = 2 * h.half)
theorem word_is {w : World} {p g bm n : Nat} {ws : List Int} {R : List (Nat × Nat)} (H : ArenaAt w p g bm n ws R) (ba ha sp tp a : Int) (hw : (Lit.int .i64 ba).wf = true) :
    Calls Tryd.prog 69 #[.agg #[.pointer (some ⟨p, 0, none⟩), .int .i64 ba, .int .i64 ha, .int .i64 sp, .int .i64 tp], .int .i64 a] w fun e w' => e = .returned (.int .u64 (getW ws R ba a)) ∧ Ext w w' := by
  have HG := Lib.hid (fun W (e : Ext w W) => getA_said (x := ba) (a := a) (H.ext e) hw)
  generalize getW ws R ba a = gv at HG ⊢
  clear H hw
  go_enter Tryd.func69, Tryd.ntmps69
  go_wp2_with fail
  refine (HG.out _ (Ext.alloc _ _)).mono ?_
  rintro e w1 ⟨rfl, rfl⟩
  go_wp2
  go_ret
  exact ⟨rfl, Ext.alloc _ _⟩
theorem first_is (pv : Value) (ba : Int) (ha sp : Nat) (tp : Int) (h1 : ha ≤ 2000) (h2 : sp ≤ 1) (w : World) (_hp : pv.oneCell' = true) :
    Calls Tryd.prog 58 #[.agg #[pv, .int .i64 ba, .int .i64 ha, .int .i64 sp, .int .i64 tp]] w fun e w' => e = .returned (.int .i64 ((sp * ha : Nat) : Int)) ∧ Ext w w' := by
  rcases (show sp = 0 ∨ sp = 1 by omega) with rfl | rfl
  · go_enter Tryd.func58, Tryd.ntmps58
    go_wp2
    go_ret
    exact ⟨by simp, Ext.alloc _ _⟩
  · go_enter Tryd.func58, Tryd.ntmps58
    go_wp2
    go_ret
    exact ⟨by simp, Ext.alloc _ _⟩
end Go.Proofs.YtgiopklnielglaaDoor
/- A heap: where it ends, whether it may be. -/
namespace Go.Proofs.YtgiopklnielglaaDoor
open Go.RowKit Go.Maps Arena
set_option maxHeartbeats 4000000
set_option maxRecDepth 100000
theorem top_is (pv : Value) (ba : Int) (ha sp tp : Nat) (h1 : ha ≤ 2000) (h2 : sp ≤ 1) (h3 : tp ≤ 2000) (w : World) (hp : pv.oneCell' = true) :
    Calls Tryd.prog 59 #[.agg #[pv, .int .i64 ba, .int .i64 ha, .int .i64 sp, .int .i64 tp]] w fun e w' => e = .returned (.int .i64 ((sp * ha + tp : Nat) : Int)) ∧ Ext w w' := by
  have HF := Lib.hid (fun W => first_is pv ba ha sp tp h1 h2 W hp)
  have hm : sp * ha ≤ 2000 := by
    rcases (show sp = 0 ∨ sp = 1 by omega) with rfl | rfl <;> omega
  generalize sp * ha = f at HF hm ⊢
  go_enter Tryd.func59, Tryd.ntmps59
  go_upto_region 1 with fail
  refine wp_alloc1 fun W hE _ b0 => ?_
  have x0 := cell_at b0 (i := 0) rfl
  have x1 := cell_at b0 (i := 1) rfl
  have x2 := cell_at b0 (i := 2) rfl
  have x3 := cell_at b0 (i := 3) rfl
  have x4 := cell_at b0 (i := 4) rfl
  have r0 := fun d os => cell_regrown x0 d os
  have r1 := fun d os => cell_regrown x1 d os
  have r2 := fun d os => cell_regrown x2 d os
  have r3 := fun d os => cell_regrown x3 d os
  have r4 := fun d os => cell_regrown x4 d os
  have cF := fun d os => quiet_ext (HF.out (Go.Sort.grow (redrawn W d) os))
  have CF := Lib.hid cF
  have HE := Lib.hid hE
  clear cF x0 x1 x2 x3 x4 b0 hE
  refine wp_region_quiet_below (by kernel_rfl) (by kernel_rfl) ?_
  repeat (first | go_big_quiet_step (exact CF.out _ _) | quiet_step (exact CF.out _ _))
  refine wpQuiet_nil ?_
  intro _ hw'
  obtain ⟨⟨dq, osq⟩, hw''⟩ := hw'
  subst hw''
  have HXQ := Lib.hid (HE.out.trans (Ext.regrown W dq osq))
  clear r0 r1 r2 r3 r4
  go_wp2
  go_ret
  exact ⟨by show Ending.returned (.int .i64 ((f : Int) + (tp : Int))) = _; congr 2, HXQ.out⟩
theorem there_is {w : World} {p g bm n : Nat} {ws : List Int} {R : List (Nat × Nat)} (H : ArenaAt w p g bm n ws R) (h : Hp) (hw : (Lit.int .i64 h.base).wf = true) (hl : (wordsAt ws R h.base).length = lenAt R h.base) (hl2 : lenAt R h.base ≤ 20000) :
    Calls Tryd.prog 57 #[.agg #[.pointer (some ⟨p, 0, none⟩), .int .i64 h.base, .int .i64 h.half, .int .i64 h.space, .int .i64 h.top]] w fun e w' => e = .returned (.bool (thereB R h)) ∧ Ext w w' := by
  obtain ⟨ba, ha, sp, tp⟩ := h
  dsimp only at hw hl hl2 ⊢
  have HW := Lib.hid (fun W (e : Ext w W) => wordsA_said (x := ba) (H.ext e) hw)
  clear H hw
  by_cases h0 : 8 ≤ ha
  · by_cases h1 : ha ≤ 2000
    · by_cases h2 : 0 ≤ sp
      · by_cases h3 : sp ≤ 1
        · by_cases h4 : 0 ≤ tp
          · by_cases h5 : tp ≤ ha
            · have b0 : decide (ha < 8) = false := decide_eq_false (by omega)
              have b1 : decide (2000 < ha) = false := decide_eq_false (by omega)
              have b2 : decide (sp < 0) = false := decide_eq_false (by omega)
              have b3 : decide (1 < sp) = false := decide_eq_false (by omega)
              have b4 : decide (tp < 0) = false := decide_eq_false (by omega)
              have b5 : decide (ha < tp) = false := decide_eq_false (by omega)
              have hb : thereB R ⟨ba, ha, sp, tp⟩ = (freeB R ba && decide ((lenAt R ba : Int) = 2 * ha)) := by
                unfold thereB freeB
                rw [decide_eq_true (show hpOK ⟨ba, ha, sp, tp⟩ from ⟨h0, h1, h2, h3, h4, h5⟩)]
                by_cases hz : lenAt R ba = 0
                · have : ¬ (lenAt R ba : Int) = 2 * ha := by omega
                  simp [hz]; omega
                · simp [hz]
              rw [hb]
              generalize freeB R ba = fb at HW ⊢
              generalize wordsAt ws R ba = wl at HW hl
              generalize lenAt R ba = ln at hl hl2 ⊢
              subst hl
              clear hb
              obtain ⟨dz, hdz⟩ : ∃ dz, dz = decide ((wl.length : Int) = 2 * ha) := ⟨_, rfl⟩
              rw [← hdz]
              have hez : ((wl.length : Int) == 2 * ha) = dz := by rw [hdz, Bool.eq_iff_iff]; simp
              clear hdz
              go_enter Tryd.func57, Tryd.ntmps57
              go_wp2_with fail
              refine (HW.out _ (Ext.alloc _ _)).mono ?_
              rintro e w1 ⟨v, rfl, ⟨q, c, rfl, hv1, hv2, _⟩, hx⟩
              have x2 := hx.cell (a := ⟨w.heap.size, 2, none⟩) (cell_at (heap_alloc_new w _) rfl)
              have HX := Lib.hid ((Ext.alloc _ _).trans hx)
              clear hx
              cases fb
              · go_wp2
                go_ret
                exact ⟨rfl, HX.out⟩
              · go_wp2
                go_ret
                exact ⟨rfl, HX.out⟩
            · have hb : thereB R ⟨ba, ha, sp, tp⟩ = false := by unfold thereB; rw [decide_eq_false (show ¬ hpOK ⟨ba, ha, sp, tp⟩ from fun h => h5 h.2.2.2.2.2)]; rfl
              rw [hb]
              clear hb
              have b0 : decide (ha < 8) = false := decide_eq_false (by omega)
              have b1 : decide (2000 < ha) = false := decide_eq_false (by omega)
              have b2 : decide (sp < 0) = false := decide_eq_false (by omega)
              have b3 : decide (1 < sp) = false := decide_eq_false (by omega)
              have b4 : decide (tp < 0) = false := decide_eq_false (by omega)
              have b5 : decide (ha < tp) = true := decide_eq_true (by omega)
              clear HW
              go_enter Tryd.func57, Tryd.ntmps57
              go_wp2
              go_ret
              exact ⟨rfl, Ext.alloc _ _⟩
          · have hb : thereB R ⟨ba, ha, sp, tp⟩ = false := by unfold thereB; rw [decide_eq_false (show ¬ hpOK ⟨ba, ha, sp, tp⟩ from fun h => h4 h.2.2.2.2.1)]; rfl
            rw [hb]
            clear hb
            have b0 : decide (ha < 8) = false := decide_eq_false (by omega)
            have b1 : decide (2000 < ha) = false := decide_eq_false (by omega)
            have b2 : decide (sp < 0) = false := decide_eq_false (by omega)
            have b3 : decide (1 < sp) = false := decide_eq_false (by omega)
            have b4 : decide (tp < 0) = true := decide_eq_true (by omega)
            clear HW
            go_enter Tryd.func57, Tryd.ntmps57
            go_wp2
            go_ret
            exact ⟨rfl, Ext.alloc _ _⟩
        · have hb : thereB R ⟨ba, ha, sp, tp⟩ = false := by unfold thereB; rw [decide_eq_false (show ¬ hpOK ⟨ba, ha, sp, tp⟩ from fun h => h3 h.2.2.2.1)]; rfl
          rw [hb]
          clear hb
          have b0 : decide (ha < 8) = false := decide_eq_false (by omega)
          have b1 : decide (2000 < ha) = false := decide_eq_false (by omega)
          have b2 : decide (sp < 0) = false := decide_eq_false (by omega)
          have b3 : decide (1 < sp) = true := decide_eq_true (by omega)
          clear HW
          go_enter Tryd.func57, Tryd.ntmps57
          go_wp2
          go_ret
          exact ⟨rfl, Ext.alloc _ _⟩
      · have hb : thereB R ⟨ba, ha, sp, tp⟩ = false := by unfold thereB; rw [decide_eq_false (show ¬ hpOK ⟨ba, ha, sp, tp⟩ from fun h => h2 h.2.2.1)]; rfl
        rw [hb]
        clear hb
        have b0 : decide (ha < 8) = false := decide_eq_false (by omega)
        have b1 : decide (2000 < ha) = false := decide_eq_false (by omega)
        have b2 : decide (sp < 0) = true := decide_eq_true (by omega)
        clear HW
        go_enter Tryd.func57, Tryd.ntmps57
        go_wp2
        go_ret
        exact ⟨rfl, Ext.alloc _ _⟩
    · have hb : thereB R ⟨ba, ha, sp, tp⟩ = false := by unfold thereB; rw [decide_eq_false (show ¬ hpOK ⟨ba, ha, sp, tp⟩ from fun h => h1 h.2.1)]; rfl
      rw [hb]
      clear hb
      have b0 : decide (ha < 8) = false := decide_eq_false (by omega)
      have b1 : decide (2000 < ha) = true := decide_eq_true (by omega)
      clear HW
      go_enter Tryd.func57, Tryd.ntmps57
      go_wp2
      go_ret
      exact ⟨rfl, Ext.alloc _ _⟩
  · have hb : thereB R ⟨ba, ha, sp, tp⟩ = false := by unfold thereB; rw [decide_eq_false (show ¬ hpOK ⟨ba, ha, sp, tp⟩ from fun h => h0 h.1)]; rfl
    rw [hb]
    clear hb
    have b0 : decide (ha < 8) = true := decide_eq_true (by omega)
    clear HW
    go_enter Tryd.func57, Tryd.ntmps57
    go_wp2
    go_ret
    exact ⟨rfl, Ext.alloc _ _⟩
end Go.Proofs.YtgiopklnielglaaDoor
/- An object is read out of a heap's words (the program's): no kind of that number, too long, no room. -/
namespace Go.Proofs.YtgiopklnielglaaDoor
open Go.RowKit Go.Maps Arena
set_option maxHeartbeats 4000000
set_option maxRecDepth 100000
theorem Ext.set {w W : World} (h : Ext w W) {p : Addr} (hp : w.heap.size ≤ p.block) (u : Value) : Ext w (W.setCell p u) := Below.setCell h hp u
theorem Turn.after {w W W' : World} {bs : List Nat} (h : Ext w W) (t : Turn bs W W') (hb : ∀ b ∈ bs, w.heap.size ≤ b) : Ext w W' := Below.trans h (Turn.below t (Ext.size h) hb)
theorem post_fill4 {P : Program} {f : Func} {Q : Ending → World → Prop} {x : Exit} {a : Act} {w : World} {b : Nat} {x0 x1 x2 x3 y0 y1 y2 y3 : Value} {T : TypeId} (h0 : w.heap[b]? = some (.cells #[x0, x1, x2, x3] T (0, 0)))
    (h : ∀ W : World, W.heap[b]? = some (.cells #[y0, y1, y2, y3] T (0, 0)) → Turn [b] w W → W.heap.size = w.heap.size → bodyPost P f Q x a W) : bodyPost P f Q x a ((((w.setCell ⟨b, 0, none⟩ y0).setCell ⟨b, 1, none⟩ y1).setCell ⟨b, 2, none⟩ y2).setCell ⟨b, 3, none⟩ y3) :=
  h _ (fill4 h0 _ _ _ _).1 (fill4 h0 _ _ _ _).2.1 (fill4 h0 _ _ _ _).2.2
def zeroOV : Value := .agg #[.int .i64 0, .int .i64 0, .slice none 0 0, .string ByteArray.empty]
/-- what 'read' tells -/
def ReadSaid (r : Option Ob) (w : World) (e : Ending) (w' : World) : Prop := match r with
  | none => e = .returned (.tuple #[zeroOV, .int .i64 0]) ∧ Ext w w'
  | some o => ∃ q c, e = .returned (.tuple #[.agg #[.int .i64 o.kind, .int .i64 o.tag, .slice q o.fields.length c, .string o.text], .int .i64 (wordsO o : Nat)]) ∧ OwnP w' w.heap.size 32 (.slice q o.fields.length c) 1 (o.fields.map wordC) ∧ Ext w w'
theorem and_255 {x : Int} (h : W64 x) : bits .and .u64 x 255 = x % 256 := by
  obtain ⟨n, rfl⟩ := Int.eq_ofNat_of_zero_le h.1
  rw [show (255 : Int) = ((255 : Nat) : Int) from rfl, u64_and_nat n 255 (by have := h.2; omega) (by decide)]
  have := Nat.and_two_pow_sub_one_eq_mod n 8
  simp at this
  rw [this]
  omega
theorem and_tag {x : Int} (h : W64 x) : bits .and .u64 x 16777215 = x % 16777216 := by
  obtain ⟨n, rfl⟩ := Int.eq_ofNat_of_zero_le h.1
  rw [show (16777215 : Int) = ((16777215 : Nat) : Int) from rfl, u64_and_nat n 16777215 (by have := h.2; omega) (by decide)]
  have := Nat.and_two_pow_sub_one_eq_mod n 24
  simp at this
  rw [this]
  omega
theorem read_no (pv : Value) (ba ha sp tp at_ en : Int) (hd kd tg : Int) (sz : Nat) (hw : W64 hd) (w : World)
    (HR : ∀ W, Ext w W → Calls Tryd.prog 69 #[.agg #[pv, .int .i64 ba, .int .i64 ha, .int .i64 sp, .int .i64 tp], .int .i64 at_] W fun e w' => e = .returned (.int .u64 hd) ∧ Ext W w') (_hp : pv.oneCell' = true)
    (d1 : hd % 256 = kd) (d2 : hd / 256 % 16777216 = tg) (d3 : hd / 4294967296 = sz) (h1 : kd < 1 ∨ 4 < kd) :
    Calls Tryd.prog 60 #[.agg #[pv, .int .i64 ba, .int .i64 ha, .int .i64 sp, .int .i64 tp], .int .i64 at_, .int .i64 en] w fun e w' => e = .returned (.tuple #[zeroOV, .int .i64 0]) ∧ Ext w w' := by
  have HR' := Lib.hid HR
  have hn : ofV kd = .nilIface := by unfold ofV; rw [if_neg (by omega), if_neg (by omega), if_neg (by omega), if_neg (by omega)]
  have HN := Lib.hid hn
  clear HR hn h1
  have e1 := and_255 hw
  have e2 : bits .and .u64 (hd / 256) 16777215 = tg := by rw [and_tag ⟨by have := hw.1; omega, by have := hw.2; omega⟩]; exact d2
  have t1 : 0 ≤ kd ∧ kd ≤ 255 := by omega
  have t2 : 0 ≤ tg ∧ tg ≤ 16777215 := by omega
  have t3 : sz ≤ 4294967295 := by have := hw.2; omega
  obtain ⟨t1, t1'⟩ := t1
  obtain ⟨t2, t2'⟩ := t2
  clear d2 hw
  go_enter Tryd.func60, Tryd.ntmps60
  go_upto_region 1 with fail
  refine wp_alloc2 fun W hE hS b0 b1 => ?_
  obtain ⟨x0, x1, x2, x3, x4⟩ := cells5 b0
  go_wp2_with fail
  refine (HR'.out W hE).mono ?_
  rintro e w1 ⟨rfl, hx⟩
  have c0 := (Below.block hx w.heap.size (by omega)).trans b0
  have c1 := (Below.block hx (w.heap.size + 1) (by omega)).trans b1
  have HX := Lib.hid (hE.trans hx)
  have hlt : w.heap.size + 1 < w1.heap.size := by have := Ext.size hx; omega
  have HS := Lib.hid hS
  clear hS hx hE b0 b1 x0 x1 x2 x3 x4
  go_wp2_with fail
  refine at_alloc1 fun W2 hE2 hS2 b2 => ?_
  refine (of_is _ _).mono ?_
  rintro e w3 ⟨rfl, rfl⟩
  rw [HN.out]
  have c0 := (Below.block hE2 w.heap.size (by omega)).trans c0
  have c1 := (Below.block hE2 (w.heap.size + 1) (by omega)).trans c1
  have HX2 := Lib.hid (HX.out.trans hE2)
  have hlt : w.heap.size + 1 < W2.heap.size := by omega
  clear hE2 hS2 b2
  obtain ⟨y0, y1, y2, y3⟩ := cells4 c1
  have f0 := free_at c1 (i := 0)
  have f1 := free_at c1 (i := 1)
  have f2 := free_at c1 (i := 2)
  have f3 := free_at c1 (i := 3)
  go_wp2
  refine post_fill4 c1 fun W3 c1 hT hS3 => ?_
  obtain ⟨y0, y1, y2, y3⟩ := cells4 c1
  refine bodyPost_ret (v := .tuple #[zeroOV, .int .i64 0]) (by simp [results, Tryd.results60, go_sem, y0, y1, y2, y3, zeroOV]; rfl) rfl ⟨rfl, ?_⟩
  exact Turn.after HX2.out hT (by simp)
end Go.Proofs.YtgiopklnielglaaDoor
/- An object is read out of a heap's words (the program's): kinds with fields. -/
namespace Go.Proofs.YtgiopklnielglaaDoor
open Go.RowKit Go.Maps Arena
set_option maxHeartbeats 4000000
set_option maxRecDepth 100000
theorem read_row (pv : Value) (ba ha sp tp : Int) (at_ : Nat) (kd tg : Int) (sz l mo : Nat) (top hd : Int) (S : List Int) (hw : W64 hd) (w : World)
    (HR : ∀ (i : Nat) (x : Int), (hd :: S)[i]? = some x → ∀ W, Ext w W → Calls Tryd.prog 69 #[.agg #[pv, .int .i64 ba, .int .i64 ha, .int .i64 sp, .int .i64 tp], .int .i64 ((at_ + i : Nat) : Int)] W fun e w' => e = .returned (.int .u64 x) ∧ Ext W w') (_hp : pv.oneCell' = true)
    (d1 : hd % 256 = kd) (d2 : hd / 256 % 16777216 = tg) (d3 : hd / 4294967296 = sz) (hat : at_ ≤ 100000) (hSl : S.length ≤ 100000) (hk2 : kd ≠ 2) (ho : ofV kd = .iface 144 (.agg #[.int .i64 l, .int .i64 mo, .int .i64 top])) :
    Calls Tryd.prog 60 #[.agg #[pv, .int .i64 ba, .int .i64 ha, .int .i64 sp, .int .i64 tp], .int .i64 at_, .int .i64 ((at_ + (S.length + 1) : Nat) : Int)] w (ReadSaid (if sz ≤ 400 ∧ sz ≤ S.length ∧ mayK kd tg sz 0 = true then some ⟨kd, tg, S.take sz, ByteArray.empty⟩ else none) w) := by
  have HR' := Lib.hid HR
  have HR0 := Lib.hid (HR 0 hd rfl)
  have HN := Lib.hid ho
  clear HR ho
  have e1 := and_255 hw
  have e2 : bits .and .u64 (hd / 256) 16777215 = tg := by rw [and_tag ⟨by have := hw.1; omega, by have := hw.2; omega⟩]; exact d2
  have t1 : 0 ≤ kd ∧ kd ≤ 255 := by omega
  have t2 : 0 ≤ tg ∧ tg ≤ 16777215 := by omega
  have t3 : sz ≤ 4294967295 := by have := hw.2; omega
  obtain ⟨t1, t1'⟩ := t1
  obtain ⟨t2, t2'⟩ := t2
  clear d2 hw
  have k2 : (kd == 2) = false := beq_false_of_ne hk2
  have k2' : (kd != 2) = true := by rw [bne, k2]; rfl
  by_cases hs4 : sz ≤ 400
  · by_cases hsl : sz ≤ S.length
    · generalize hRR : (if sz ≤ 400 ∧ sz ≤ S.length ∧ mayK kd tg sz 0 = true then some (⟨kd, tg, S.take sz, ByteArray.empty⟩ : Ob) else none) = RR
      have HRR := Lib.hid hRR
      clear hRR
      have HR0 := Lib.hid (by simpa only [Nat.add_zero] using HR0.out)
      clear hk2
      have i1 : ¬ (400 : Int) < (sz : Int) := by omega
      have b1 : decide ((400 : Int) < (sz : Int)) = false := decide_eq_false i1
      have HM := Lib.hid (fun W => row_words (l : Int) mo top (sz : Int) W)
      have hm2 := mr_words
      go_enter Tryd.func60, Tryd.ntmps60
      go_upto_region 1 with fail
      refine wp_alloc2 fun W hE hS b0 b1 => ?_
      obtain ⟨x0, x1, x2, x3, x4⟩ := cells5 b0
      go_wp2_with fail
      refine (HR0.out W hE).mono ?_
      rintro e w1 ⟨rfl, hx⟩
      have c0 := (Below.block hx w.heap.size (by omega)).trans b0
      have c1 := (Below.block hx (w.heap.size + 1) (by omega)).trans b1
      have HX := Lib.hid (hE.trans hx)
      have hlt : w.heap.size + 1 < w1.heap.size := by have := Ext.size hx; omega
      have HS := Lib.hid hS
      clear hS hx hE b0 b1 x0 x1 x2 x3 x4
      go_wp2_with fail
      refine at_alloc1 fun W2 hE2 hS2 b2 => ?_
      refine (of_is _ _).mono ?_
      rintro e w3 ⟨rfl, rfl⟩
      rw [HN.out]
      have c0 := (Below.block hE2 w.heap.size (by omega)).trans c0
      have c1 := (Below.block hE2 (w.heap.size + 1) (by omega)).trans c1
      have HX2 := Lib.hid (HX.out.trans hE2)
      have hlt : w.heap.size + 1 < W2.heap.size := by omega
      have hltb : w1.heap.size < W2.heap.size := by omega
      clear hE2 hS2
      obtain ⟨y0, y1, y2, y3⟩ := cells4 c1
      obtain ⟨z0, z1, z2, z3⟩ := cells4 b2
      go_wp2_with fail
      refine (HM.out _).mono ?_
      rintro e w3 ⟨rfl, hx3⟩
      have c0 := (Below.block hx3 w.heap.size (by omega)).trans c0
      have c1 := (Below.block hx3 (w.heap.size + 1) (by omega)).trans c1
      have c2 := (Below.block hx3 w1.heap.size (by omega)).trans b2
      have HX3 := Lib.hid (HX2.out.trans hx3)
      have hlt3 : w1.heap.size < w3.heap.size := by have := Ext.size hx3; omega
      have hgt : ¬ ((at_ + (S.length + 1) : Nat) : Int) - (at_ : Int) < 1 + (sz : Int) := by omega
      clear hx3 y0 y1 y2 y3 z0 z1 z2 z3 b2
      obtain ⟨ob, hob⟩ : ∃ ob, ob = w1.heap.size := ⟨_, rfl⟩
      rw [← hob] at c2 hlt3 hltb ⊢
      have hlo : w.heap.size + 1 < ob := by omega
      clear hob
      go_wp2_with fail
      have hE0 := OwnP.nil w3 (ob + 1) 32 1
      go_loopw [64] (fun i wr => ∃ (k : Nat) (v : Value), k ≤ sz ∧ i = .int .i64 k ∧ wr.heap[ob]? = some (.cells #[.int .i64 kd, .int .i64 tg, v, .string ⟨#[]⟩] 117 (0, 0)) ∧ OwnP wr (ob + 1) 32 v 1 ((S.map wordC).take k) ∧ wr.heap[w.heap.size]? = some (.cells #[pv, .int .i64 ba, .int .i64 ha, .int .i64 sp, .int .i64 tp] 105 (0, 0)) ∧ wr.heap[w.heap.size + 1]? = some (.cells #[.int .i64 0, .int .i64 0, .slice none 0 0, .string ⟨#[]⟩] 117 (0, 0)) ∧ Ext w wr ∧ ob < wr.heap.size) (fun i _ => sz - (Go.RowKit.intOf i).toNat)
      case atStart => exact ⟨0, _, Nat.zero_le _, rfl, c2, hE0, c0, c1, HX3.out, hlt3⟩
      case round =>
        obtain ⟨k, v, hk, rfl, hb, hown, hb0, hb1, hx, hlr⟩ := hrel
        have HX := Lib.hid hx
        have HOW := Lib.hid hown
        obtain ⟨x0, x1, x2, x3, x4⟩ := cells5 hb0
        obtain ⟨z0, z1, z2, z3⟩ := cells4 hb
        clear hx hown c0 c1 c2 hE0 hlt3
        by_cases hlt : k < sz
        · have hkS : k < S.length := by omega
          have i1 : (k : Int) < 1 + (sz : Int) - 1 := by omega
          obtain ⟨x, hxk⟩ : ∃ x, S[k]? = some x := ⟨_, List.getElem?_eq_getElem hkS⟩
          have HW := HR'.out (k + 1) x (by simpa using hxk) wr HX.out
          rw [show ((at_ + (k + 1) : Nat) : Int) = (at_ : Int) + 1 + (k : Int) by omega] at HW
          have HW := Lib.hid HW
          have HK := Lib.hid hxk
          clear hxk
          go_wp2_with fail
          refine HW.out.mono ?_
          rintro e w4 ⟨rfl, hx4⟩
          have hb0 := (Below.block hx4 w.heap.size (by have := HX.out.size; omega)).trans hb0
          have hb1 := (Below.block hx4 (w.heap.size + 1) (by omega)).trans hb1
          have hb := (Below.block hx4 ob (by omega)).trans hb
          have HOW4 := Lib.hid (HOW.out.ext hx4)
          have HX4 := Lib.hid (HX.out.trans hx4)
          have hlr4 : ob < w4.heap.size := by have := Ext.size hx4; omega
          clear hx4 x0 x1 x2 x3 x4 z0 z1 z2 z3
          obtain ⟨z0, z1, z2, z3⟩ := cells4 hb
          have f2 := free_at hb (i := 2)
          have hlen : ((S.map wordC).take k).length = k := by rw [List.length_take, List.length_map]; omega
          obtain ⟨qv, cv, hv, _, _⟩ := HOW4.out.len
          rw [hlen] at hv
          subst hv
          have HLN := Lib.hid hlen
          clear hlen
          go_wp2_with (refine wpList_append_rows E64 (by rfl) _ _ (by rfl) (ob + 1) (.slice qv k cv) (.slice (some ⟨w4.heap.size, 0, none⟩) 1 1) ((S.map wordC).take k) [[.int .u64 x]] (by rfl) (HOW4.out.ext (Ext.alloc _ _)) (by rfl) (rows_of_block (cs := #[.int .u64 x]) (heap_alloc_new _ _) rfl (by intro u hu; simp at hu; subst hu; rfl)) (by rw [HLN.out]; simp; unfold maxLen; omega) (by rw [HLN.out]; simp; omega) (by simp; omega) ?_)
          intro v2 w5 ho2 hg2 _ _
          have hB5 : Below (ob + 1) w4 w5 := Below.grown (Below.alloc (Below.refl _ _) (by omega) _) hg2 (by simp; omega) (fun b hb => (HOW4.out.own b hb).1)
          have hb0 := (Below.block hB5 w.heap.size (by omega)).trans hb0
          have hb1 := (Below.block hB5 (w.heap.size + 1) (by omega)).trans hb1
          have hb := (Below.block hB5 ob (by omega)).trans hb
          have HX5 := Lib.hid (HX4.out.go hB5 (by omega))
          have hlr5 : ob < w5.heap.size := by have := Below.size hB5; omega
          obtain ⟨q2, cv2, hv2, _, _⟩ := ho2.len
          rw [List.length_append, HLN.out] at hv2
          change v2 = .slice q2 (k + 1) cv2 at hv2
          subst hv2
          have hq := fill1 (i := 2) hb (.slice q2 (k + 1) cv2)
          have hst : (S.map wordC).take k ++ [[.int .u64 x]] = (S.map wordC).take (k + 1) := by rw [List.take_succ_eq_append_getElem (by simpa using hkS), ← (List.getElem?_eq_some_iff.1 HK.out).2, List.getElem_map]; rfl
          have HQ := Lib.hid hq
          have HST := Lib.hid hst
          have HO2 := Lib.hid ho2
          clear ho2 hg2 hB5 hq hst z0 z1 z2 z3 f2
          obtain ⟨z0, z1, z2, z3⟩ := cells4 hb
          have f2 := free_at hb (i := 2)
          go_wp2
          obtain ⟨g1, g2, g3⟩ := HQ.out
          refine ⟨⟨k + 1, _, by omega, by go_num, g1, ?_, (g2.block _ (by omega) (by simp; omega)).trans hb0, (g2.block _ (by omega) (by simp; omega)).trans hb1, Turn.after HX5.out g2 (by simp; omega), by omega⟩, by simp [Go.RowKit.intOf]; omega⟩
          rw [← HST.out]
          exact HO2.out.turn g2 (fun b hb => by have := (HO2.out.own b hb).1; simp; omega)
        · obtain rfl : k = sz := by omega
          have i1 : ¬ (k : Int) < 1 + (k : Int) - 1 := by omega
          have hlen : ((S.map wordC).take k).length = k := by rw [List.length_take, List.length_map]; omega
          obtain ⟨qv, cv, hv, _, _⟩ := HOW.out.len
          rw [hlen] at hv
          subst hv
          clear hlen
          have HM2 := Lib.hid (fun W => may_is kd tg k cv qv ⟨#[]⟩ W (by omega))
          have hz : (⟨#[]⟩ : ByteArray).size = 0 := rfl
          rw [hz] at HM2
          generalize hmm : mayK kd tg k 0 = mm at HM2
          have HMM := Lib.hid hmm
          clear hmm hz
          go_wp2_with fail
          refine (HM2.out _).mono ?_
          rintro e w4 ⟨rfl, hx4⟩
          have hb1 := (Below.block hx4 (w.heap.size + 1) (by omega)).trans hb1
          have hb := (Below.block hx4 ob (by omega)).trans hb
          have HOW4 := Lib.hid (HOW.out.ext hx4)
          have HX4 := Lib.hid (HX.out.trans hx4)
          clear hx4 x0 x1 x2 x3 x4 z0 z1 z2 z3
          obtain ⟨z0, z1, z2, z3⟩ := cells4 hb
          obtain ⟨y0, y1, y2, y3⟩ := cells4 hb1
          have f0 := free_at hb1 (i := 0)
          have f1 := free_at hb1 (i := 1)
          have f2 := free_at hb1 (i := 2)
          have f3 := free_at hb1 (i := 3)
          cases mm
          · go_wp2
            refine post_fill4 hb1 fun W3 hb1 hT hS3 => ?_
            obtain ⟨y0, y1, y2, y3⟩ := cells4 hb1
            refine bodyPost_ret (v := .tuple #[zeroOV, .int .i64 0]) (by simp [results, Tryd.results60, go_sem, y0, y1, y2, y3, zeroOV]; rfl) rfl ?_
            rw [← HRR.out, if_neg (fun h => by rw [HMM.out] at h; cases h.2.2)]
            exact ⟨rfl, Turn.after HX4.out hT (by simp)⟩
          · go_wp2
            refine post_fill4 hb1 fun W3 hb1 hT hS3 => ?_
            obtain ⟨y0, y1, y2, y3⟩ := cells4 hb1
            refine bodyPost_ret (v := .tuple #[.agg #[.int .i64 kd, .int .i64 tg, .slice qv k cv, .string ⟨#[]⟩], .int .i64 (1 + (k : Int))]) (by simp [results, Tryd.results60, go_sem, y0, y1, y2, y3]) rfl ?_
            rw [← HRR.out, if_pos ⟨hs4, hsl, HMM.out⟩]
            have hlen : (S.take k).length = k := by rw [List.length_take]; omega
            refine ⟨qv, cv, ?_, ?_, Turn.after HX4.out hT (by simp)⟩
            · dsimp only
              rw [hlen]
              have hn2 : (kd = 2) = False := eq_false (by intro h; rw [h] at k2; simp at k2)
              have : ((wordsO ⟨kd, tg, S.take k, ByteArray.empty⟩ : Nat) : Int) = 1 + (k : Int) := by
                unfold wordsO bodyK
                dsimp only
                rw [if_neg (by rw [hn2]; exact id), hlen]
                omega
              rw [this]
              rfl
            · dsimp only
              rw [hlen, List.map_take]
              exact (HOW4.out.turn hT (fun b hb => by have := (HOW4.out.own b hb).1; simp; omega)).mono (by omega)
    · rw [if_neg (fun h => hsl h.2.1)]
      have HR0 := Lib.hid (by simpa only [Nat.add_zero] using HR0.out)
      clear HR' hk2 k2'
      have i1 : ¬ (400 : Int) < (sz : Int) := by omega
      have b1 : decide ((400 : Int) < (sz : Int)) = false := decide_eq_false i1
      have HM := Lib.hid (fun W => row_words (l : Int) mo top (sz : Int) W)
      have hm2 := mr_words
      go_enter Tryd.func60, Tryd.ntmps60
      go_upto_region 1 with fail
      refine wp_alloc2 fun W hE hS b0 b1 => ?_
      obtain ⟨x0, x1, x2, x3, x4⟩ := cells5 b0
      go_wp2_with fail
      refine (HR0.out W hE).mono ?_
      rintro e w1 ⟨rfl, hx⟩
      have c0 := (Below.block hx w.heap.size (by omega)).trans b0
      have c1 := (Below.block hx (w.heap.size + 1) (by omega)).trans b1
      have HX := Lib.hid (hE.trans hx)
      have hlt : w.heap.size + 1 < w1.heap.size := by have := Ext.size hx; omega
      have HS := Lib.hid hS
      clear hS hx hE b0 b1 x0 x1 x2 x3 x4
      go_wp2_with fail
      refine at_alloc1 fun W2 hE2 hS2 b2 => ?_
      refine (of_is _ _).mono ?_
      rintro e w3 ⟨rfl, rfl⟩
      rw [HN.out]
      have c0 := (Below.block hE2 w.heap.size (by omega)).trans c0
      have c1 := (Below.block hE2 (w.heap.size + 1) (by omega)).trans c1
      have HX2 := Lib.hid (HX.out.trans hE2)
      have hlt : w.heap.size + 1 < W2.heap.size := by omega
      clear hE2 hS2
      obtain ⟨y0, y1, y2, y3⟩ := cells4 c1
      obtain ⟨z0, z1, z2, z3⟩ := cells4 b2
      go_wp2_with fail
      refine (HM.out _).mono ?_
      rintro e w3 ⟨rfl, hx3⟩
      have c1 := (Below.block hx3 (w.heap.size + 1) (by omega)).trans c1
      have HX3 := Lib.hid (HX2.out.trans hx3)
      clear hx3 y0 y1 y2 y3 z0 z1 z2 z3 c0 b2
      obtain ⟨y0, y1, y2, y3⟩ := cells4 c1
      have f0 := free_at c1 (i := 0)
      have f1 := free_at c1 (i := 1)
      have f2 := free_at c1 (i := 2)
      have f3 := free_at c1 (i := 3)
      have hgt : ((at_ + (S.length + 1) : Nat) : Int) - (at_ : Int) < 1 + (sz : Int) := by omega
      go_wp2
      refine post_fill4 c1 fun W3 c1 hT hS3 => ?_
      obtain ⟨y0, y1, y2, y3⟩ := cells4 c1
      refine bodyPost_ret (v := .tuple #[zeroOV, .int .i64 0]) (by simp [results, Tryd.results60, go_sem, y0, y1, y2, y3, zeroOV]; rfl) rfl ⟨rfl, ?_⟩
      exact Turn.after HX3.out hT (by simp)
  · rw [if_neg (fun h => hs4 h.1)]
    have HR0 := Lib.hid (by simpa only [Nat.add_zero] using HR0.out)
    clear HR' hk2 k2'
    have i1 : (400 : Int) < (sz : Int) := by omega
    have b1 : decide ((400 : Int) < (sz : Int)) = true := decide_eq_true i1
    go_enter Tryd.func60, Tryd.ntmps60
    go_upto_region 1 with fail
    refine wp_alloc2 fun W hE hS b0 b1 => ?_
    obtain ⟨x0, x1, x2, x3, x4⟩ := cells5 b0
    go_wp2_with fail
    refine (HR0.out W hE).mono ?_
    rintro e w1 ⟨rfl, hx⟩
    have c0 := (Below.block hx w.heap.size (by omega)).trans b0
    have c1 := (Below.block hx (w.heap.size + 1) (by omega)).trans b1
    have HX := Lib.hid (hE.trans hx)
    have hlt : w.heap.size + 1 < w1.heap.size := by have := Ext.size hx; omega
    have HS := Lib.hid hS
    clear hS hx hE b0 b1 x0 x1 x2 x3 x4
    go_wp2_with fail
    refine at_alloc1 fun W2 hE2 hS2 b2 => ?_
    refine (of_is _ _).mono ?_
    rintro e w3 ⟨rfl, rfl⟩
    rw [HN.out]
    have c1 := (Below.block hE2 (w.heap.size + 1) (by omega)).trans c1
    have HX2 := Lib.hid (HX.out.trans hE2)
    have hlt : w.heap.size + 1 < W2.heap.size := by omega
    clear hE2 hS2 c0 b2
    obtain ⟨y0, y1, y2, y3⟩ := cells4 c1
    have f0 := free_at c1 (i := 0)
    have f1 := free_at c1 (i := 1)
    have f2 := free_at c1 (i := 2)
    have f3 := free_at c1 (i := 3)
    go_wp2
    refine post_fill4 c1 fun W3 c1 hT hS3 => ?_
    obtain ⟨y0, y1, y2, y3⟩ := cells4 c1
    refine bodyPost_ret (v := .tuple #[zeroOV, .int .i64 0]) (by simp [results, Tryd.results60, go_sem, y0, y1, y2, y3, zeroOV]; rfl) rfl ⟨rfl, ?_⟩
    exact Turn.after HX2.out hT (by simp)
end Go.Proofs.YtgiopklnielglaaDoor
