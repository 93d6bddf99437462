/- Proved here: the contracts and laws of Src, RefaC, Shelf, ArenaW, ArenaC, ArenaD, ArenaX, Args, RowsIn, ArenaT, RefaD, RefaE of this claim, each beneath its own remark; conditions: those that each theorem names. -/
import Derived.Test.YtinakendlpomnaaGreatM2
import Derived.Test.YtinakendlpomnaaGreatProg
import Derived.Test.YtinakendlpomnaaGreatM1
import Derived.Deep.RegionHeld3
import Derived.Deep.AppendLies
import Derived.Deep.DrawnRows
import Derived.Maps.AppendAt
import Derived.Shelf.SlIterI.Nil
import Derived.Shelf.SortM.Plain
import Derived.Shelf.SortM.SortNone
import Derived.Shelf.SlicesE.Clone
import Derived.Shelf.SlicesG.SearchI
import Derived.Ground.GgzProg
import Derived.Ground.SlgmProg
import Derived.Ground.SlgnProg
import Derived.Shelf.AbstractIn
import Derived.Maps.OwnOps
import Derived.Lib.SliceRun
import Derived.Deep.OwnRows
import Derived.ProofKit
import Derived.OpenShut
import Derived.Deep.DeepHandedRow
import Derived.SizedLaws
import Derived.Deep.Slices
import Derived.Deep.CutBlock
/- Pairs appended to pairs: what an append may take them from. -/
namespace Go.Proofs.YtinakendlpomnaaGreat
open Go.RowKit Go.Maps
set_option maxHeartbeats 4000000
set_option maxRecDepth 100000
/-- what an append may take its elements from: a slice that reads as pairs, nil or at an address -/
def PairSrc (w : World) (u : Value) (L : List (Nat × Nat)) : Prop := PairSl w u L ∧ ((∃ ad m c, u = .slice (some ad) m c) ∨ u = .slice none 0 0)
theorem pairSl_take {w : World} {q : Option Addr} {c k : Nat} {R : List (Nat × Nat)} (h : PairSl w (.slice q R.length c) R) (hk : k ≤ R.length) : PairSl w (sliced q 0 k c 2) (R.take k) := by
  obtain ⟨q', c', he, h1, h2, hc⟩ := h
  obtain ⟨rfl, _, rfl⟩ := Value.slice.inj he
  have hl : (R.take k).length = k := by rw [List.length_take]; omega
  refine ⟨if c = 0 then q else q.map (·.add (0 * 2)), c, by unfold sliced; rw [hl, Nat.sub_zero, Nat.sub_zero], by omega, h2, fun i x hx => ?_⟩
  have hi : i < (R.take k).length := (List.getElem?_eq_some_iff.1 hx).1
  rw [List.getElem?_take_of_lt (by omega)] at hx
  obtain ⟨b, off, rfl, p0, p1⟩ := hc i x hx
  exact ⟨b, off, by split <;> simp [Addr.add], p0, p1⟩
theorem pairSl_drop {w : World} {q : Option Addr} {c k : Nat} {R : List (Nat × Nat)} (h : PairSl w (.slice q R.length c) R) (hk : k ≤ R.length) : PairSl w (sliced q k R.length c 2) (R.drop k) := by
  obtain ⟨q', c', he, h1, h2, hc⟩ := h
  obtain ⟨rfl, _, rfl⟩ := Value.slice.inj he
  have hl : (R.drop k).length = R.length - k := by rw [List.length_drop]
  refine ⟨if c = k then q else q.map (·.add (k * 2)), c - k, by unfold sliced; rw [hl], by omega, by omega, fun i x hx => ?_⟩
  have hi : i < (R.drop k).length := (List.getElem?_eq_some_iff.1 hx).1
  rw [List.getElem?_drop] at hx
  obtain ⟨b, off, rfl, p0, p1⟩ := hc (k + i) x hx
  refine ⟨b, off + k * 2, ?_, ?_, ?_⟩
  · rw [if_neg (by omega)]; simp [Addr.add]
  · rw [show off + k * 2 + i * 2 = off + (k + i) * 2 by omega]; exact p0
  · rw [show off + k * 2 + i * 2 + 1 = off + (k + i) * 2 + 1 by omega]; exact p1
theorem flat2_length (L : List (Nat × Nat)) : (L.flatMap pairC).length = L.length * 2 := by
  induction L with
  | nil => rfl
  | cons x L ih => rw [List.flatMap_cons, List.length_append, ih]; simp [pairC]; omega
theorem pair_elem : Tryz.prog.elem 103 = 107 := by kernel_rfl
theorem pair_size (w : World) : (sizeOf (Tryz.prog.elem 103)).run Tryz.prog w = .ok 2 w := by kernel_rfl
theorem src_of {w : World} {q : Option Addr} {n c l h m : Nat} {L : List (Nat × Nat)} (hv : (∃ ad, q = some ad) ∨ (q = none ∧ c = 0 ∧ n = 0)) (hh : h ≤ m) (hm : m ≤ c) (hs : PairSl w (sliced q l h m 2) L) : PairSrc w (sliced q l h m 2) L := by
  refine ⟨hs, ?_⟩
  rcases hv with ⟨ad, rfl⟩ | ⟨rfl, rfl, rfl⟩
  · left
    unfold sliced
    split
    · exact ⟨_, _, _, rfl⟩
    · exact ⟨_, _, _, rfl⟩
  · right
    obtain rfl : m = 0 := by omega
    obtain rfl : h = 0 := by omega
    unfold sliced
    simp
theorem PairRow.nilOr {w : World} {B : Nat} {v : Value} {R : List (Nat × Nat)} (h : PairRow w B v R) : ∃ q c, v = .slice q R.length c ∧ R.length ≤ c ∧ ((∃ ad, q = some ad) ∨ (q = none ∧ c = 0 ∧ R.length = 0)) := by
  rcases h.2 with ⟨h1, h2⟩ | ⟨b, c, cur, h1, hb, hg, h2, h3, h4, h5⟩
  · exact ⟨none, 0, by rw [h1, h2], by omega, .inr ⟨rfl, rfl, h2⟩⟩
  · exact ⟨_, c, h1, h2, .inl ⟨_, rfl⟩⟩
theorem head_src {w : World} {B k : Nat} {v : Value} {R : List (Nat × Nat)} (h : PairRow w B v R) (hk : k ≤ R.length) :
    ∃ u, (∀ W, (Instr.slice 103 v none (some (.int .i64 k)) none).run Tryz.prog W = .ok u W) ∧ ∀ W, PairRow W B v R → PairSrc W u (R.take k) := by
  obtain ⟨q, c, rfl, hc, hn⟩ := h.nilOr
  refine ⟨sliced q 0 k c 2, fun W => ?_, fun W hW => src_of hn (by omega) (Nat.le_refl _) (pairSl_take hW.sl hk)⟩
  rw [run_slice_h W 103 q R.length c (by rw [pair_elem]; exact Tryz.underlying103) .i64 k (by omega) (by omega), pair_size]
  simp
theorem tail_src {w : World} {B k : Nat} {v : Value} {R : List (Nat × Nat)} (h : PairRow w B v R) (hk : k ≤ R.length) :
    ∃ u, (∀ W, (Instr.slice 103 v (some (.int .i64 k)) none none).run Tryz.prog W = .ok u W) ∧ ∀ W, PairRow W B v R → PairSrc W u (R.drop k) := by
  obtain ⟨q, c, rfl, hc, hn⟩ := h.nilOr
  refine ⟨sliced q k R.length c 2, fun W => ?_, fun W hW => src_of hn (by omega) (Nat.le_refl _) (pairSl_drop hW.sl hk)⟩
  rw [run_slice_l W 103 q R.length c (by rw [pair_elem]; exact Tryz.underlying103) .i64 k (by omega) (by omega), pair_size]
  simp
/-- an append of pairs, wherever they lie, to a row of the call's own, at a step of a region that draws -/
theorem step_append_pairs {w : World} {ops : Array Oper} {o : Oper} {a : Act} {K : Act → World → Prop} {Q : Exit → Act → World → Prop} {E : Prop} (hgd : o.guard = none) (s x : Operand)
    (ho : o.op = .call { callee := .builtin .append, args := #[s, x], argTypes := #[103, 103] })
    (base : Nat) (v u : Value) (R L : List (Nat × Nat)) (hs : a.eval s = v) (hown : PairRow w base v R) (hx : a.eval x = u) (hu : PairSrc w u L)
    (h63 : R.length + L.length ≤ 1000000) (hbase : base ≤ w.heap.size)
    (h : ∀ v' w', PairRow w' base v' (R ++ L) → w.grownBy w' v.ownBlock → K (a.put o.dst v') w') :
    if Region.wanted o (yielded ops a.tmps) = true then Oper.wp Tryz.prog o a w K Q else E := by
  have hw : Region.wanted o (yielded ops a.tmps) = true := by simp [Region.wanted, hgd]
  rw [if_pos hw]
  obtain ⟨i0, hi, hz0, hz1, hz2⟩ := info_parts info_pair
  have hrun : ∃ v' w', (Builtin.append_ #[103, 103] o.type #[v, u]).run Tryz.prog w = .ok v' w' ∧ PairRow w' base v' (R ++ L) ∧ w.grownBy w' v.ownBlock := by
    obtain ⟨⟨q, c, hv, h1, h2, hc⟩, hsrc⟩ := hu
    rcases hsrc with ⟨ad, m, c', rfl⟩ | rfl
    · obtain ⟨rfl, rfl, rfl⟩ := Value.slice.inj hv
      have hnews : ∀ j y, (L.flatMap pairC)[j]? = some y → w.cell? (ad.add j) = some y := by
        intro j y hj
        have hjl : j < (L.flatMap pairC).length := (List.getElem?_eq_some_iff.1 hj).1
        rw [flat2_length L] at hjl
        obtain ⟨b, off, hq, p0, p1⟩ := hc (j / 2) _ (List.getElem?_eq_getElem (by omega))
        obtain rfl := Option.some.inj hq
        obtain ⟨f0, f1⟩ := flat2 L (j / 2) _ (List.getElem?_eq_getElem (by omega))
        rw [Go.WideShapes.add_plain]
        rcases Nat.mod_two_eq_zero_or_one j with e | e
        · have ej : j / 2 * 2 = j := by omega
          rw [ej] at f0 p0
          rw [p0, ← f0, hj]
        · have ej : j / 2 * 2 + 1 = j := by omega
          rw [ej] at f1
          rw [Nat.add_assoc, ej] at p1
          rw [p1, ← f1, hj]
      have hone : ∀ y ∈ L.flatMap pairC, y.oneCell' = true := by
        intro y hy
        obtain ⟨r, _, hr⟩ := List.mem_flatMap.1 hy
        simp [pairC] at hr
        rcases hr with rfl | rfl <;> rfl
      obtain ⟨v', w', hr, h3, h4, _, _⟩ := run_append_own_at (P := Tryz.prog) w base 103 o.type 107 i0 _ 2 16 Tryz.underlying103 hi hz0 hz1 hz2 rfl (by decide) v R.length (R.flatMap pairC) hown
        ad L.length c' (L.flatMap pairC) (flat2_length L) hnews hone (by unfold maxLen; omega) (by omega) hbase
      exact ⟨v', w', hr, by unfold PairRow; rw [List.length_append, List.flatMap_append]; exact h3, h4⟩
    · obtain ⟨_, hl, _⟩ := Value.slice.inj hv
      obtain rfl : L = [] := List.length_eq_zero_iff.1 hl.symm
      refine ⟨v, w, run_append_owned_none w base 103 o.type 107 i0 2 Tryz.underlying103 hi v R.length (R.flatMap pairC) hown, by rw [List.append_nil]; exact hown, ?_⟩
      exact ⟨rfl, rfl, rfl, Nat.le_refl _, fun _ _ _ => rfl⟩
  obtain ⟨v', w', hr, h2, h3⟩ := hrun
  unfold Oper.wp execOp
  simp only [ho, resolve, invoke, builtin, Sem.run_bind, Sem.run_pure, Result.andThen_ok, List.map_toArray, List.map_cons, List.map_nil, hs, hx, hr]
  exact h v' w' h2 h3
theorem keep3 {w w' : World} {a : Addr} {v : Value} (h : w.cell? a = some v) (f : w.frozen? a = false) (e : Ext w w') : w'.cell? a = some v ∧ w'.frozen? a = false ∧ Ext w w' :=
  ⟨e.cell h, (e.frozen h).trans f, e⟩
theorem ext_grown {w W W' : World} {v : Value} (e : Ext w W) (hg : W.grownBy W' v.ownBlock) (hv : ∀ b, v.ownBlock = some b → w.heap.size ≤ b) : Ext w W' :=
  Below.grown e hg e.size hv
theorem empty_row (w : World) : PairRow (w.alloc (.cells #[] 107)).drew w.heap.size (.slice (some ⟨w.heap.size, 0, none⟩) 0 0) [] :=
  World.ownsRow.drew (World.ownsRow_lit w #[] 0 (Nat.le_refl _) (Nat.zero_le _) rfl)
theorem empty_at {w : World} {b B : Nat} (hb : w.heap[b]? = some (.cells #[] 107 (0, 0))) (hB : B ≤ b) : PairRow w B (.slice (some ⟨b, 0, none⟩) 0 0) [] :=
  ⟨rfl, .inr ⟨b, 0, #[], rfl, hB, hb, Nat.le_refl _, Nat.zero_le _, rfl, rfl⟩⟩
theorem pair_at {w : World} {b x y : Nat} (hb : w.heap[b]? = some (.cells #[.int .i64 x, .int .i64 y] 107 (0, 0))) : PairSrc w (.slice (some ⟨b, 0, none⟩) 1 1) [(x, y)] := by
  refine ⟨⟨_, 1, rfl, by simp, by unfold maxLen; omega, fun i z hz => ?_⟩, .inl ⟨_, _, _, rfl⟩⟩
  have hi : i = 0 := by
    have := (List.getElem?_eq_some_iff.1 hz).1
    simp at this; exact this
  subst hi
  simp at hz
  subst hz
  exact ⟨b, 0, rfl, by simp [World.cell?, hb], by simp [World.cell?, hb]⟩
end Go.Proofs.YtinakendlpomnaaGreat
/- The reference's arena: what makes its regions anew. -/
namespace Go.Proofs.YtinakendlpomnaaGreat
open Go.RowKit Go.Maps Arena
set_option maxHeartbeats 4000000
set_option maxRecDepth 100000
attribute [local go_sem ↓] Go.wp_at_zero Go.wp_at_succ
/-- the rest of a row without one of its places -/
theorem drop_at {n : Nat} {R : List (Nat × Nat)} (hg : Arena.Good n R) {i : Nat} (hi : i < R.length) : R.take i ++ R.drop (i + 1) = Arena.drop (R[i].1 : Int) R := by
  have h1 : Arena.drop (R[i].1 : Int) (R.take i ++ R[i] :: R.drop (i + 1)) = R.take i ++ R.drop (i + 1) := by
    unfold Arena.drop
    rw [List.filter_append, List.filter_cons]
    simp only [decide_true, Bool.not_true, Bool.false_eq_true, if_false]
    congr 1
    · refine List.filter_eq_self.2 fun r hr => ?_
      obtain ⟨j, hj, rfl⟩ := List.getElem_of_mem hr
      rw [List.length_take] at hj
      have := good_ne hg (i := j) (j := i) (by omega) hi
      have := (hg.2 R[j] (List.getElem_mem (by omega))).1
      simp only [List.getElem_take, Bool.not_eq_true', decide_eq_false_iff_not]
      omega
    · refine List.filter_eq_self.2 fun r hr => ?_
      obtain ⟨j, hj, rfl⟩ := List.getElem_of_mem hr
      rw [List.length_drop] at hj
      have := good_ne hg (i := i) (j := i + 1 + j) (by omega) (by omega)
      have := (hg.2 R[i] (List.getElem_mem (by omega))).1
      simp only [List.getElem_drop, Bool.not_eq_true', decide_eq_false_iff_not]
      omega
  rw [← h1, List.getElem_cons_drop, List.take_append_drop]
theorem RefAt.newRegs {w w' : World} {q gq B n : Nat} {ws : List Int} {vR v : Value} {R R' : List (Nat × Nat)} (h : RefAt w q gq B n ws vR R) (e : Ext w w') (hB : B ≤ w.heap.size) (hv : PairRow w' w.heap.size v R') (hg : Arena.Good n R') :
    RefAt (w'.setCell ⟨q, 1, none⟩ v) q gq B n ws v R' := by
  have hlt := h.lt
  have t : Turn [q] w' (w'.setCell ⟨q, 1, none⟩ v) := (Turn.refl _ _).setCell (.inl (by simp)) _
  have h2 := h.ext e
  obtain ⟨lq, lg⟩ := h2.lt
  refine ⟨?_, by rw [t.block gq lg (by simp; exact fun e => h.ne e.symm)]; exact h2.words, h.len, (hv.turn t (by simp; omega)).mono hB, hg, h.ne, h.qB, h.gB, h.least⟩
  rw [heap_setCell_same w' q 1 _ _ _ h2.row]
  rfl
end Go.Proofs.YtinakendlpomnaaGreat
/-
  DERIVED: THE SHELF's CONTRACTS AT THIS DUMP, IN PLAIN WORDS (tools/lay-plain.mjs out of 'TryzShelf.lean', which tools/lay-shelf.mjs wrote): THE SAME DECLARATIONS UNDER THE SAME NAMES: 'import', 'namespace', 'open', 'def', 'theorem' AND NOTHING ELSE: no command of the shelf's: FOR A HAND-IN. Each laying: the table of numbers ('.._ren') and one theorem, a field a fact of the dump's own or the kernel's comparison; each contract: ONE APPLICATION.
-/
namespace Go.Proofs
open Go.Shelf
def Tryz.keysA_ren : Go.Shelf.Ren := ⟨fun | 7 => 70 | 10 => 80 | n => n, fun | 23 => 100 | 26 => 3 | 3 => 3 | 28 => 130 | 0 => 0 | 27 => 129 | 33 => 39 | 4 => 4 | n => n, fun | n => n⟩
theorem Tryz.keysA : Go.Proofs.SlLaysZI.n7 Tryz.prog Tryz.keysA_ren := {
  mixed := by kernel_rfl
  f7 := ⟨Tryz.f70.name, by decide, Tryz.func70.trans (congrArg some (by kernel_rfl))⟩
  f10 := ⟨Tryz.f80.name, by decide, Tryz.func80.trans (congrArg some (by kernel_rfl))⟩
  t0 := Tryz.underlying0
  a0 := Tryz.isAgg0
  z0 := Tryz.sizeOf0
  v0 := Tryz.zeroValue0
  t4 := Tryz.underlying4
  a4 := Tryz.isAgg4
  z4 := Tryz.sizeOf4
  v4 := Tryz.zeroValue4
  t23 := Tryz.underlying100
  a23 := Tryz.isAgg100
  z23 := Tryz.sizeOf100
  v23 := Tryz.zeroValue100
  t26 := Tryz.underlying3
  a26 := Tryz.isAgg3
  z26 := Tryz.sizeOf3
  v26 := Tryz.zeroValue3
  t27 := Tryz.underlying129
  a27 := Tryz.isAgg129
  z27 := Tryz.sizeOf129
  v27 := Tryz.zeroValue129
  t28 := Tryz.underlying130
  a28 := Tryz.isAgg130
  z28 := Tryz.sizeOf130
  v28 := Tryz.zeroValue130
  t33 := Tryz.underlying39
  a33 := Tryz.isAgg39
  z33 := Tryz.sizeOf39
  v33 := Tryz.zeroValue39 }
def Tryz.sortedA_ren : Go.Shelf.Ren := ⟨fun | 6 => 69 | 8 => 78 | 9 => 79 | 11 => 84 | 13 => 86 | 12 => 85 | 23 => 95 | 24 => 96 | 14 => 87 | 15 => 88 | 16 => 89 | 17 => 90 | 18 => 91 | 19 => 92 | 20 => 72 | 21 => 93 | 22 => 94 | 25 => 97 | 26 => 98 | 27 => 99 | 28 => 100 | 29 => 101 | 30 => 81 | 31 => 102 | n => n, fun | 26 => 3 | 28 => 130 | 24 => 73 | 0 => 0 | 3 => 3 | 37 => 117 | 48 => 151 | 50 => 51 | 4 => 4 | 40 => 145 | 39 => 144 | 45 => 35 | 5 => 5 | 9 => 9 | 51 => 152 | 55 => 156 | 57 => 158 | 58 => 159 | 33 => 39 | n => n, fun | n => n⟩
theorem Tryz.sortedA : Go.Proofs.SlLaysZI.n6 Tryz.prog Tryz.sortedA_ren := {
  mixed := by kernel_rfl
  f6 := ⟨Tryz.f69.name, by decide, Tryz.func69.trans (congrArg some (by kernel_rfl))⟩
  f8 := ⟨Tryz.f78.name, by decide, Tryz.func78.trans (congrArg some (by kernel_rfl))⟩
  f11 := ⟨Tryz.f84.name, by decide, Tryz.func84.trans (congrArg some (by kernel_rfl))⟩
  t0 := Tryz.underlying0
  a0 := Tryz.isAgg0
  z0 := Tryz.sizeOf0
  v0 := Tryz.zeroValue0
  t24 := Tryz.underlying73
  a24 := Tryz.isAgg73
  z24 := Tryz.sizeOf73
  v24 := Tryz.zeroValue73
  t26 := Tryz.underlying3
  a26 := Tryz.isAgg3
  z26 := Tryz.sizeOf3
  v26 := Tryz.zeroValue3
  t28 := Tryz.underlying130
  a28 := Tryz.isAgg130
  z28 := Tryz.sizeOf130
  v28 := Tryz.zeroValue130
  i26 := by kernel_rfl }
def Tryz.sortA_ren : Go.Shelf.Ren := ⟨fun | 5 => 79 | 8 => 86 | 7 => 85 | 19 => 95 | 20 => 96 | 10 => 87 | 11 => 88 | 12 => 89 | 13 => 90 | 14 => 91 | 15 => 92 | 16 => 72 | 17 => 93 | 18 => 94 | 30 => 97 | 31 => 98 | 32 => 99 | 33 => 100 | 34 => 101 | 35 => 81 | 40 => 102 | n => n, fun | 23 => 73 | 25 => 3 | 3 => 3 | 32 => 117 | 22 => 73 | 0 => 0 | 44 => 151 | 46 => 51 | 4 => 4 | 36 => 145 | 35 => 144 | 41 => 35 | 5 => 5 | 9 => 9 | 53 => 152 | 57 => 156 | 63 => 158 | 64 => 159 | n => n, fun | n => n⟩
theorem Tryz.sortA : Go.Proofs.SlLaysM.n5 Tryz.prog Tryz.sortA_ren := {
  mixed := by kernel_rfl
  f5 := ⟨Tryz.f79.name, by decide, Tryz.func79.trans (congrArg some (by kernel_rfl))⟩
  f7 := ⟨Tryz.f85.name, by decide, Tryz.func85.trans (congrArg some (by kernel_rfl))⟩
  f8 := Tryz.func86.trans (congrArg some (by kernel_rfl))
  f10 := ⟨Tryz.f87.name, by decide, Tryz.func87.trans (congrArg some (by kernel_rfl))⟩
  f11 := ⟨Tryz.f88.name, by decide, Tryz.func88.trans (congrArg some (by kernel_rfl))⟩
  f12 := ⟨Tryz.f89.name, by decide, Tryz.func89.trans (congrArg some (by kernel_rfl))⟩
  f13 := ⟨Tryz.f90.name, by decide, Tryz.func90.trans (congrArg some (by kernel_rfl))⟩
  f14 := ⟨Tryz.f91.name, by decide, Tryz.func91.trans (congrArg some (by kernel_rfl))⟩
  f15 := ⟨Tryz.f92.name, by decide, Tryz.func92.trans (congrArg some (by kernel_rfl))⟩
  f16 := ⟨Tryz.f72.name, by decide, Tryz.func72.trans (congrArg some (by kernel_rfl))⟩
  f17 := ⟨Tryz.f93.name, by decide, Tryz.func93.trans (congrArg some (by kernel_rfl))⟩
  f18 := ⟨Tryz.f94.name, by decide, Tryz.func94.trans (congrArg some (by kernel_rfl))⟩
  f19 := Tryz.func95.trans (congrArg some (by kernel_rfl))
  f20 := Tryz.func96.trans (congrArg some (by kernel_rfl))
  f30 := ⟨Tryz.f97.name, by decide, Tryz.func97.trans (congrArg some (by kernel_rfl))⟩
  f31 := Tryz.func98.trans (congrArg some (by kernel_rfl))
  f32 := Tryz.func99.trans (congrArg some (by kernel_rfl))
  f33 := ⟨Tryz.f100.name, by decide, Tryz.func100.trans (congrArg some (by kernel_rfl))⟩
  f34 := ⟨Tryz.f101.name, by decide, Tryz.func101.trans (congrArg some (by kernel_rfl))⟩
  f35 := ⟨Tryz.f81.name, by decide, Tryz.func81.trans (congrArg some (by kernel_rfl))⟩
  f40 := ⟨Tryz.f102.name, by decide, Tryz.func102.trans (congrArg some (by kernel_rfl))⟩
  t0 := Tryz.underlying0
  a0 := Tryz.isAgg0
  z0 := Tryz.sizeOf0
  v0 := Tryz.zeroValue0
  t3 := Tryz.underlying3
  a3 := Tryz.isAgg3
  z3 := Tryz.sizeOf3
  v3 := Tryz.zeroValue3
  t4 := Tryz.underlying4
  a4 := Tryz.isAgg4
  z4 := Tryz.sizeOf4
  v4 := Tryz.zeroValue4
  t5 := Tryz.underlying5
  a5 := Tryz.isAgg5
  z5 := Tryz.sizeOf5
  v5 := Tryz.zeroValue5
  t9 := Tryz.underlying9
  a9 := Tryz.isAgg9
  z9 := Tryz.sizeOf9
  v9 := Tryz.zeroValue9
  t22 := Tryz.underlying73
  a22 := Tryz.isAgg73
  z22 := Tryz.sizeOf73
  v22 := Tryz.zeroValue73
  t23 := Tryz.underlying73
  a23 := Tryz.isAgg73
  z23 := Tryz.sizeOf73
  v23 := Tryz.zeroValue73
  t25 := Tryz.underlying3
  a25 := Tryz.isAgg3
  z25 := Tryz.sizeOf3
  v25 := Tryz.zeroValue3
  t32 := Tryz.underlying117
  a32 := Tryz.isAgg117
  z32 := Tryz.sizeOf117
  v32 := Tryz.zeroValue117
  t35 := Tryz.underlying144
  a35 := Tryz.isAgg144
  z35 := Tryz.sizeOf144
  v35 := Tryz.zeroValue144
  t36 := Tryz.underlying145
  a36 := Tryz.isAgg145
  z36 := Tryz.sizeOf145
  v36 := Tryz.zeroValue145
  t41 := Tryz.underlying35
  a41 := Tryz.isAgg35
  z41 := Tryz.sizeOf35
  v41 := Tryz.zeroValue35
  t44 := Tryz.underlying151
  a44 := Tryz.isAgg151
  z44 := Tryz.sizeOf151
  v44 := Tryz.zeroValue151
  t46 := Tryz.underlying51
  a46 := Tryz.isAgg51
  z46 := Tryz.sizeOf51
  v46 := Tryz.zeroValue51
  t53 := Tryz.underlying152
  a53 := Tryz.isAgg152
  z53 := Tryz.sizeOf152
  v53 := Tryz.zeroValue152
  t57 := Tryz.underlying156
  a57 := Tryz.isAgg156
  z57 := Tryz.sizeOf156
  v57 := Tryz.zeroValue156
  t63 := Tryz.underlying158
  a63 := Tryz.isAgg158
  z63 := Tryz.sizeOf158
  v63 := Tryz.zeroValue158
  t64 := Tryz.underlying159
  a64 := Tryz.isAgg159
  z64 := Tryz.sizeOf159
  v64 := Tryz.zeroValue159 }
def Tryz.cloneA_ren : Go.Shelf.Ren := ⟨fun | 41 => 28 | n => n, fun | 22 => 22 | 23 => 51 | 4 => 4 | n => n, fun | n => n⟩
theorem Tryz.cloneA : Go.Proofs.SlLaysE0.n41 Tryz.prog Tryz.cloneA_ren := {
  mixed := by kernel_rfl
  f41 := ⟨Tryz.f28.name, by decide, Tryz.func28.trans (congrArg some (by kernel_rfl))⟩
  t4 := Tryz.underlying4
  a4 := Tryz.isAgg4
  z4 := Tryz.sizeOf4
  v4 := Tryz.zeroValue4
  t22 := Tryz.underlying22
  a22 := Tryz.isAgg22
  z22 := Tryz.sizeOf22
  v22 := Tryz.zeroValue22 }
def Tryz.searchA_ren : Go.Shelf.Ren := ⟨fun | 49 => 51 | 59 => 72 | 60 => 73 | 68 => 81 | n => n, fun | 22 => 73 | 23 => 3 | 3 => 3 | 4 => 4 | 51 => 117 | 0 => 0 | n => n, fun | n => n⟩
theorem Tryz.searchA : Go.Proofs.SlLaysN.n49 Tryz.prog Tryz.searchA_ren := {
  mixed := by kernel_rfl
  f49 := ⟨Tryz.f51.name, by decide, Tryz.func51.trans (congrArg some (by kernel_rfl))⟩
  f59 := ⟨Tryz.f72.name, by decide, Tryz.func72.trans (congrArg some (by kernel_rfl))⟩
  f60 := ⟨Tryz.f73.name, by decide, Tryz.func73.trans (congrArg some (by kernel_rfl))⟩
  f68 := ⟨Tryz.f81.name, by decide, Tryz.func81.trans (congrArg some (by kernel_rfl))⟩
  t0 := Tryz.underlying0
  a0 := Tryz.isAgg0
  z0 := Tryz.sizeOf0
  v0 := Tryz.zeroValue0
  t3 := Tryz.underlying3
  a3 := Tryz.isAgg3
  z3 := Tryz.sizeOf3
  v3 := Tryz.zeroValue3
  t4 := Tryz.underlying4
  a4 := Tryz.isAgg4
  z4 := Tryz.sizeOf4
  v4 := Tryz.zeroValue4
  t22 := Tryz.underlying73
  a22 := Tryz.isAgg73
  z22 := Tryz.sizeOf73
  v22 := Tryz.zeroValue73
  t23 := Tryz.underlying3
  a23 := Tryz.isAgg3
  z23 := Tryz.sizeOf3
  v23 := Tryz.zeroValue3
  t51 := Tryz.underlying117
  a51 := Tryz.isAgg117
  z51 := Tryz.sizeOf117
  v51 := Tryz.zeroValue117 }
end Go.Proofs
/- An arena in memory; its small functions. -/
namespace Go.Proofs.YtinakendlpomnaaGreat
open Go.RowKit Go.Maps Arena
set_option maxHeartbeats 1000000
/-- an arena's three blocks: its own row, its words, its map -/
structure ArenaAt (w : World) (p g bm n : Nat) (ws : List Int) (R : List (Nat × Nat)) : Prop where
  row : w.heap[p]? = some (.cells #[.slice (some ⟨g, 0, none⟩) n n, .map (some bm)] 102 (0, 0))
  words : w.heap[g]? = some (.cells (ws.map fun x => Value.int .u64 x).toArray 51 (0, 0))
  len : ws.length = n
  regs : w.ownsMap Tryz.prog 3 (plainElem Tryz.prog 3) bm R.length (regD R)
  good : Arena.Good n R
  pg : p ≠ g
  pm : p ≠ bm
  gm : g ≠ bm
  least : n ≤ 20000
theorem ArenaAt.lt {w : World} {p g bm n : Nat} {ws : List Int} {R : List (Nat × Nat)} (h : ArenaAt w p g bm n ws R) : p < w.heap.size ∧ g < w.heap.size ∧ bm < w.heap.size :=
  ⟨(Array.getElem?_eq_some_iff.1 h.row).1, (Array.getElem?_eq_some_iff.1 h.words).1, h.regs.lt⟩
theorem ArenaAt.turn {w w' : World} {p g bm n : Nat} {ws : List Int} {R : List (Nat × Nat)} {bs : List Nat} (h : ArenaAt w p g bm n ws R) (t : Turn bs w w') (hp : p ∉ bs) (hg : g ∉ bs) (hm : bm ∉ bs) : ArenaAt w' p g bm n ws R := by
  obtain ⟨lp, lg, lm⟩ := h.lt
  refine ⟨by rw [t.block p lp hp]; exact h.row, by rw [t.block g lg hg]; exact h.words, h.len, ?_, h.good, h.pg, h.pm, h.gm, h.least⟩
  obtain ⟨es, clock, hb, hr⟩ := h.regs
  exact ⟨es, clock, by rw [t.block bm lm hm]; exact hb, hr⟩
theorem ArenaAt.ext {w w' : World} {p g bm n : Nat} {ws : List Int} {R : List (Nat × Nat)} (h : ArenaAt w p g bm n ws R) (e : Ext w w') : ArenaAt w' p g bm n ws R :=
  h.turn (Turn.of_ext (bs := []) e) (by simp) (by simp) (by simp)
theorem ArenaAt.cells {w : World} {p g bm n : Nat} {ws : List Int} {R : List (Nat × Nat)} (h : ArenaAt w p g bm n ws R) :
    w.cell? ⟨p, 0, none⟩ = some (.slice (some ⟨g, 0, none⟩) n n) ∧ w.cell? ⟨p, 1, none⟩ = some (.map (some bm)) := by
  constructor <;> simp [World.cell?, h.row]
/-- a map's bound is its size -/
theorem owns_size {P : Program} {k e : TypeId} {w : World} {b n : Nat} {R : List (Nat × Nat)} (h : w.ownsMap P k (plainElem P e) b n (regD R)) : w.ownsMap P k (plainElem P e) b R.length (regD R) := by
  obtain ⟨es, clock, hb, F, hs, hD⟩ := h
  refine ⟨es, clock, hb, F, ?_, hD⟩
  have h1 : Maps.size (regD R) = es.size := by rw [hD, Maps.size_eq, length_sorted]; simp
  rw [regD_size] at h1
  omega
theorem int_law : Keyed Tryz.prog 3 := int_keyed Tryz.underlying3
theorem int_zero (w : World) : (zeroValue 3).run Tryz.prog w = .ok (.int .i64 0) w := by kernel_rfl

theorem key_int {k : Int} (hw : (Lit.int .i64 k).wf = true) : keyOf Tryz.prog 3 (.int .i64 k) = some (.int .i64 k) := keyOf_int_mk Tryz.underlying3 hw
theorem at_len {R : List (Nat × Nat)} {k c : Int} (h : (regD R).atKey (.int .i64 k) (.lit (.int .i64 0)) = .lit (.int .i64 c)) : c = lenAt R k := by
  rw [regD_atKey] at h
  injection h with h
  injection h with _ h
  exact h.symm
theorem region_no {w : World} {p g bm n : Nat} {ws : List Int} {R : List (Nat × Nat)} {k : Int} (h : ArenaAt w p g bm n ws R) (hw : (Lit.int .i64 k).wf = true) (h0 : lenAt R k = 0) :
    Calls Tryz.prog 46 #[.pointer (some ⟨p, 0, none⟩), .int .i64 k] w fun e w' => e = .returned (.slice none 0 0) ∧ w = w' := by
  obtain ⟨c0, c1⟩ := h.cells
  have HM := Lib.hid h.regs
  have H0 := Lib.hid h0
  clear h h0
  go_enter Tryz.func46, Tryz.ntmps46
  go_wp2_with (at_lookup; refine wpList_lookup_own_int _ rfl _ _ 100 rfl 3 3 .i64 int_law Tryz.underlying100 Tryz.underlying3 (int_zero _) bm R.length _ rfl HM.out _ _ rfl (key_int hw) ?_; intro c hat hwc; obtain rfl : c = 0 := by have := at_len hat; rw [H0.out] at this; exact this)
  go_ret
  exact ⟨rfl, rfl⟩
theorem region_yes {w : World} {p g bm n : Nat} {ws : List Int} {R : List (Nat × Nat)} {r : Nat × Nat} (h : ArenaAt w p g bm n ws R) (hr : r ∈ R) :
    Calls Tryz.prog 46 #[.pointer (some ⟨p, 0, none⟩), .int .i64 r.1] w fun e w' => e = .returned (.slice (some ⟨g, r.1, none⟩) r.2 (n - r.1)) ∧ w = w' := by
  obtain ⟨c0, c1⟩ := h.cells
  have HM := Lib.hid h.regs
  have H0 := Lib.hid (lenAt_mem h.good hr)
  have hn := h.least
  obtain ⟨h1, h2⟩ := h.good.2 r hr
  have hw : (Lit.int .i64 (r.1 : Int)).wf = true := WalkArith.wf_i64 (by omega)
  have b0 : ((r.2 : Int) == 0) = false := beq_false_of_ne (by omega)
  clear h
  go_enter Tryz.func46, Tryz.ntmps46
  go_wp2_with (at_lookup; refine wpList_lookup_own_int _ rfl _ _ 100 rfl 3 3 .i64 int_law Tryz.underlying100 Tryz.underlying3 (int_zero _) bm R.length _ rfl HM.out _ _ rfl (key_int hw) ?_; intro c hat hwc; obtain rfl : c = (r.2 : Int) := by have := at_len hat; rw [H0.out] at this; exact this)
  go_ret
  exact ⟨by simp, rfl⟩
theorem ArenaAt.word {w : World} {p g bm n : Nat} {ws : List Int} {R : List (Nat × Nat)} (h : ArenaAt w p g bm n ws R) {i : Nat} (hi : i < n) : w.cell? ⟨g, i, none⟩ = some (.int .u64 (ws.getD i 0)) ∧ w.frozen? ⟨g, i, none⟩ = false := by
  have hl := h.len
  constructor
  · simp [World.cell?, h.words, List.getElem?_eq_getElem (show i < ws.length by omega)]
  · simp [World.frozen?, h.words]
theorem ArenaAt.store {w : World} {p g bm n : Nat} {ws : List Int} {R : List (Nat × Nat)} (h : ArenaAt w p g bm n ws R) (i : Nat) (v : Int) : ArenaAt (w.setCell ⟨g, i, none⟩ (.int .u64 v)) p g bm n (ws.set i v) R := by
  refine ⟨?_, ?_, by simpa using h.len, h.regs.setCell (fun e => h.gm e.symm) _, h.good, h.pg, h.pm, h.gm, h.least⟩
  · rw [Below.heap_setCell _ _ _ _ h.pg]; exact h.row
  · rw [Lib.heap_setCell_same h.words]
    simp
theorem get_no {w : World} {p g bm n : Nat} {ws : List Int} {R : List (Nat × Nat)} {k a : Int} (h : ArenaAt w p g bm n ws R) (hw : (Lit.int .i64 k).wf = true) (h0 : lenAt R k = 0) :
    Calls Tryz.prog 75 #[.pointer (some ⟨p, 0, none⟩), .int .i64 k, .int .i64 a] w fun e w' => e = .returned (.tuple #[.int .u64 0, .bool false]) ∧ w = w' := by
  by_cases ha : a < 0
  · have b1 : decide (a < 0) = true := decide_eq_true ha
    go_enter Tryz.func75, Tryz.ntmps75
    go_wp2_with fail
    refine (region_no h hw h0).mono ?_; rintro e w' ⟨rfl, rfl⟩
    go_wp2
    go_ret2
    exact ⟨rfl, rfl⟩
  · have b1 : decide (a < 0) = false := decide_eq_false ha
    have b2 : decide ((0 : Int) ≤ a) = true := decide_eq_true (by omega)
    go_enter Tryz.func75, Tryz.ntmps75
    go_wp2_with fail
    refine (region_no h hw h0).mono ?_; rintro e w' ⟨rfl, rfl⟩
    go_wp2
    go_ret2
    exact ⟨rfl, rfl⟩
theorem get_out {w : World} {p g bm n : Nat} {ws : List Int} {R : List (Nat × Nat)} {r : Nat × Nat} {a : Int} (h : ArenaAt w p g bm n ws R) (hr : r ∈ R) (ha : a < 0 ∨ (r.2 : Int) ≤ a) :
    Calls Tryz.prog 75 #[.pointer (some ⟨p, 0, none⟩), .int .i64 r.1, .int .i64 a] w fun e w' => e = .returned (.tuple #[.int .u64 0, .bool false]) ∧ w = w' := by
  by_cases ha0 : a < 0
  · have b1 : decide (a < 0) = true := decide_eq_true ha0
    go_enter Tryz.func75, Tryz.ntmps75
    go_wp2_with fail
    refine (region_yes h hr).mono ?_; rintro e w' ⟨rfl, rfl⟩
    go_wp2
    go_ret2
    exact ⟨rfl, rfl⟩
  · have b1 : decide (a < 0) = false := decide_eq_false ha0
    have b2 : decide ((r.2 : Int) ≤ a) = true := decide_eq_true (by omega)
    go_enter Tryz.func75, Tryz.ntmps75
    go_wp2_with fail
    refine (region_yes h hr).mono ?_; rintro e w' ⟨rfl, rfl⟩
    go_wp2
    go_ret2
    exact ⟨rfl, rfl⟩
theorem get_yes {w : World} {p g bm n : Nat} {ws : List Int} {R : List (Nat × Nat)} {r : Nat × Nat} {a : Nat} (h : ArenaAt w p g bm n ws R) (hr : r ∈ R) (ha : a < r.2) :
    Calls Tryz.prog 75 #[.pointer (some ⟨p, 0, none⟩), .int .i64 r.1, .int .i64 a] w fun e w' => e = .returned (.tuple #[.int .u64 (ws.getD (r.1 + a) 0), .bool true]) ∧ w = w' := by
  obtain ⟨h1, h2⟩ := h.good.2 r hr
  have hn := h.least
  obtain ⟨hc, _⟩ := h.word (i := r.1 + a) (by omega)
  have b1 : decide ((a : Int) < 0) = false := decide_eq_false (by omega)
  have b2 : decide ((r.2 : Int) ≤ (a : Int)) = false := decide_eq_false (by omega)
  have HRG := Lib.hid (region_yes h hr)
  generalize ws.getD (r.1 + a) 0 = v at *
  clear h
  go_enter Tryz.func75, Tryz.ntmps75
  go_wp2_with fail
  refine HRG.out.mono ?_; rintro e w' ⟨rfl, rfl⟩
  go_wp2
  go_ret2
  exact ⟨rfl, rfl⟩
theorem set_no {w : World} {p g bm n : Nat} {ws : List Int} {R : List (Nat × Nat)} {k a v : Int} (h : ArenaAt w p g bm n ws R) (hw : (Lit.int .i64 k).wf = true) (h0 : lenAt R k = 0) :
    Calls Tryz.prog 25 #[.pointer (some ⟨p, 0, none⟩), .int .i64 k, .int .i64 a, .int .u64 v] w fun e w' => e = .returned (.bool false) ∧ w = w' := by
  by_cases ha : a < 0
  · have b1 : decide (a < 0) = true := decide_eq_true ha
    go_enter Tryz.func25, Tryz.ntmps25
    go_wp2_with fail
    refine (region_no h hw h0).mono ?_; rintro e w' ⟨rfl, rfl⟩
    go_wp2
    go_ret
    exact ⟨rfl, rfl⟩
  · have b1 : decide (a < 0) = false := decide_eq_false ha
    have b2 : decide ((0 : Int) ≤ a) = true := decide_eq_true (by omega)
    go_enter Tryz.func25, Tryz.ntmps25
    go_wp2_with fail
    refine (region_no h hw h0).mono ?_; rintro e w' ⟨rfl, rfl⟩
    go_wp2
    go_ret
    exact ⟨rfl, rfl⟩
theorem set_out {w : World} {p g bm n : Nat} {ws : List Int} {R : List (Nat × Nat)} {r : Nat × Nat} {a v : Int} (h : ArenaAt w p g bm n ws R) (hr : r ∈ R) (ha : a < 0 ∨ (r.2 : Int) ≤ a) :
    Calls Tryz.prog 25 #[.pointer (some ⟨p, 0, none⟩), .int .i64 r.1, .int .i64 a, .int .u64 v] w fun e w' => e = .returned (.bool false) ∧ w = w' := by
  by_cases ha0 : a < 0
  · have b1 : decide (a < 0) = true := decide_eq_true ha0
    go_enter Tryz.func25, Tryz.ntmps25
    go_wp2_with fail
    refine (region_yes h hr).mono ?_; rintro e w' ⟨rfl, rfl⟩
    go_wp2
    go_ret
    exact ⟨rfl, rfl⟩
  · have b1 : decide (a < 0) = false := decide_eq_false ha0
    have b2 : decide ((r.2 : Int) ≤ a) = true := decide_eq_true (by omega)
    go_enter Tryz.func25, Tryz.ntmps25
    go_wp2_with fail
    refine (region_yes h hr).mono ?_; rintro e w' ⟨rfl, rfl⟩
    go_wp2
    go_ret
    exact ⟨rfl, rfl⟩
theorem set_yes {w : World} {p g bm n : Nat} {ws : List Int} {R : List (Nat × Nat)} {r : Nat × Nat} {a : Nat} {v : Int} (h : ArenaAt w p g bm n ws R) (hr : r ∈ R) (ha : a < r.2) :
    Calls Tryz.prog 25 #[.pointer (some ⟨p, 0, none⟩), .int .i64 r.1, .int .i64 a, .int .u64 v] w fun e w' => e = .returned (.bool true) ∧ ArenaAt w' p g bm n (ws.set (r.1 + a) v) R ∧ Turn [g] w w' := by
  obtain ⟨h1, h2⟩ := h.good.2 r hr
  have hn := h.least
  obtain ⟨hc, hf⟩ := h.word (i := r.1 + a) (by omega)
  have b1 : decide ((a : Int) < 0) = false := decide_eq_false (by omega)
  have b2 : decide ((r.2 : Int) ≤ (a : Int)) = false := decide_eq_false (by omega)
  have HRG := Lib.hid (region_yes h hr)
  have HST := Lib.hid (h.store (r.1 + a) v)
  generalize ws.getD (r.1 + a) 0 = u at *
  clear h
  go_enter Tryz.func25, Tryz.ntmps25
  go_wp2_with fail
  refine HRG.out.mono ?_; rintro e w' ⟨rfl, rfl⟩
  go_wp2
  go_ret
  exact ⟨rfl, HST.out, (Turn.refl _ _).setCell (.inl (by simp)) _⟩
theorem look_len {w : World} {p g bm n : Nat} {ws : List Int} {R : List (Nat × Nat)} {k : Int} (h : ArenaAt w p g bm n ws R) (hw : (Lit.int .i64 k).wf = true) :
    (Instr.lookup 100 (.map (some bm)) (.int .i64 k) false).run Tryz.prog w = .ok (.int .i64 (lenAt R k)) w := by
  obtain ⟨c, hrun, hat, _⟩ := h.regs.lookup_int int_law Tryz.underlying100 Tryz.underlying3 (int_zero _) (key_int hw)
  rw [← at_len hat]
  exact hrun
theorem drop_length {R : List (Nat × Nat)} (k : Int) : (Arena.drop k R).length ≤ R.length := List.length_filter_le _ _
/-- slices.Sort's two contracts at this dump, at the fence that asks nothing. -/
theorem sorts_in (m : Nat) : AnyZI.SortsIn Tryz.prog Tryz.sortedA_ren Fence.wide m :=
  ⟨fun blk off cap ss W hH hblk hsz => callsIn_wide.2 (AnyM.slices_Sort_int Tryz.sortA blk off cap ss W hH hblk hsz),
   fun p cap W => callsIn_wide.2 (AnyM.slices_Sort_int_none Tryz.sortA p cap W)⟩
set_option maxHeartbeats 2000000 in
theorem bases_is {w : World} {p g bm n : Nat} {ws : List Int} {R : List (Nat × Nat)} (h : ArenaAt w p g bm n ws R) :
    Calls Tryz.prog 47 #[.pointer (some ⟨p, 0, none⟩)] w fun e w' => ∃ v, e = .returned v ∧ w'.ownsRow w.heap.size 3 1 v R.length (R.map fun r => Value.int .i64 r.1) ∧ Ext w w' := by
  obtain ⟨c0, c1⟩ := h.cells
  have hown := h.regs
  have hbl := hown.lt
  have hsz : Maps.size (regD R) ≤ 20000 := by rw [regD_size]; exact Nat.le_trans (good_len h.good) h.least
  have hmax : Maps.size (regD R) ≤ maxLen := by unfold maxLen; omega
  have hbytes : Maps.size (regD R) * 8 ≤ 140737488355328 := by omega
  have HG := Lib.hid h.good
  clear h
  refine (callsIn_wide (n := 6)).1 ?_
  have hseq : SeqGives Fence.wide 2 Tryz.prog 80 #[.pointer (some ⟨w.heap.size, 0, none⟩)] encZ (fun ss => ss.Perm (intKeys (regD R))) (Maps.size (regD R)) (w.alloc (.cells #[.map (some bm)] 100)) :=
    AnyZI.keys_gives (ρ := Tryz.keysA_ren) { Tryz.keysA with } Fence.wide _ trivial rfl (by omega) w.heap.size bm R.length (regD R) _ (by simp) (by simp) (by
      obtain ⟨es, clock, hb, Ft, hs, hD⟩ := hown
      exact ⟨es, clock, (Below.heap_alloc _ _ bm hbl).trans hb, Ft, hs, hD⟩)
  have cK : ∀ mb W, CallsIn Fence.wide 5 Tryz.prog 70 #[.map mb] W fun e w' => e = .returned (.func (.func 80) #[] #[.pointer (some ⟨W.heap.size, 0, none⟩)]) ∧ w' = W.alloc (.cells #[.map mb] 100) := fun mb W => AnyZI.keys_in Tryz.keysA Fence.wide 5 trivial rfl mb W
  have cS := AnyZI.sorted_in Tryz.sortedA Fence.wide 5 trivial trivial trivial trivial rfl (by omega) (sorts_in _) (enters_of Tryz.func79 (by kernel_rfl) rfl) 80 #[.pointer (some ⟨w.heap.size, 0, none⟩)] trivial (enters_of Tryz.func80 (by kernel_rfl) rfl) _ _ hmax hbytes _ hseq
  change CallsIn _ _ Tryz.prog 69 _ _ _ at cS
  have hfK : Fence.wide.fn 70 := trivial
  have hfS : Fence.wide.fn 69 := trivial
  refine callsIn_of_wp Tryz.func47 rfl trivial ?_ rfl
  simp only [Tryz.ntmps47, List.size_toArray, List.length_cons, List.length_nil, Nat.reduceAdd, Nat.reduceSub, Array.replicate_succ, Array.replicate_zero, List.push_toArray, List.append_toArray, List.nil_append, List.cons_append]
  gi_wp2_with (first
    | (gi_at_call 70; refine (cK _ _).mono ?_; rintro e w' ⟨rfl, rfl⟩)
    | (gi_at_call 69; refine cS.mono ?_; rintro e w' ⟨v, ss, rfl, hS, hrow, hnil, hb⟩))
  go_ret
  have hsorted := keys_sorted HG.out hS
  have hlen : ss.length = R.length := by rw [hS.length_eq, regD_keys, List.length_map]
  rw [hsorted, List.map_map, hlen] at hrow
  exact ⟨v, rfl, ownsRow_base_a hrow (by simp), ((Below.refl _ w).alloc (Nat.le_refl _) _).trans (hb.mono (by simp))⟩
end Go.Proofs.YtinakendlpomnaaGreat
/- The walk of an arena's Cut. -/
namespace Go.Proofs.YtinakendlpomnaaGreat
open Go.RowKit Go.Maps Arena
set_option maxHeartbeats 2000000
set_option maxRecDepth 100000
/-- what a row of places is good for -/
theorem row_any {w : World} {base : Nat} {v : Value} {R : List (Nat × Nat)} (h : w.ownsRow base 3 1 v R.length (R.map fun r => Value.int .i64 r.1)) : ∃ q c, v = .slice q R.length c ∧ R.length ≤ c ∧ c ≤ maxLen ∧
    ∀ (i : Nat) (x : Nat × Nat), R[i]? = some x → ∃ s, q = some ⟨s, 0, none⟩ ∧ w.cell? ⟨s, i, none⟩ = some (.int .i64 x.1) := by
  rcases h.2 with ⟨h1, h2⟩ | ⟨g, cap, cur, h1, hb, hg, h2, h3, h4, h5⟩
  · refine ⟨none, 0, by rw [h1, h2], by omega, Nat.zero_le _, fun i x hx => ?_⟩
    have := (List.getElem?_eq_some_iff.1 hx).1
    omega
  · refine ⟨_, cap, h1, h2, h3, fun i x hx => ⟨g, rfl, ?_⟩⟩
    subst h1
    have hi : i < R.length := (List.getElem?_eq_some_iff.1 hx).1
    rw [World.ownsRow.cellAt h i (by omega), List.getElem?_map, hx]
    rfl
/-- words from a place on set to others -/
def setMany (ws : List Int) (o : Nat) : List Int → List Int
  | [] => ws
  | v :: vs => setMany (ws.set o v) (o + 1) vs
theorem setMany_length (vs : List Int) : ∀ (ws : List Int) (o : Nat), (setMany ws o vs).length = ws.length := by
  induction vs with
  | nil => intro ws o; rfl
  | cons v vs ih => intro ws o; rw [setMany, ih, List.length_set]
theorem ArenaAt.stores {p g bm n : Nat} {R : List (Nat × Nat)} (vs : List Int) : ∀ {w : World} {ws : List Int} (o : Nat), ArenaAt w p g bm n ws R → ArenaAt (w.setCells g o (vs.map fun x => Value.int .u64 x)) p g bm n (setMany ws o vs) R ∧ Turn [g] w (w.setCells g o (vs.map fun x => Value.int .u64 x)) := by
  induction vs with
  | nil => intro w ws o h; exact ⟨h, Turn.refl _ _⟩
  | cons v vs ih =>
    intro w ws o h
    obtain ⟨h1, h2⟩ := ih (o + 1) (h.store o v)
    exact ⟨h1, ((Turn.refl [g] w).setCell (.inl (by simp)) _).trans h2⟩
theorem ArenaAt.cutRow {w w1 : World} {p g bm n : Nat} {ws : List Int} {R : List (Nat × Nat)} {k : Nat} (h : ArenaAt w p g bm n ws R) (hk : 1 ≤ k) (hn : scan k 0 R + k ≤ n)
    (ho : w1.ownsMap Tryz.prog 3 (plainElem Tryz.prog 3) bm (R.length + 1) ((regD R).put (.int .i64 (scan k 0 R)) (.lit (.int .i64 k)))) (hg : w.grownBy w1 (some bm)) :
    ArenaAt w1 p g bm n ws (ins (scan k 0 R, k) R) ∧ Turn [bm] w w1 := by
  have ht : Turn [bm] w w1 := Turn.of_grown hg (fun b hb => .inl (by cases hb; exact .head _))
  obtain ⟨lp, lg, lm⟩ := h.lt
  rw [regD_put (x := (scan k 0 R, k)) (scan_ne h.good hk)] at ho
  refine ⟨⟨?_, ?_, h.len, owns_size ho, good_cut h.good hk hn, h.pg, h.pm, h.gm, h.least⟩, ht⟩
  · rw [ht.block p lp (by simp; exact h.pm)]; exact h.row
  · rw [ht.block g lg (by simp; exact h.gm)]; exact h.words
theorem scan_round {k a : Nat} {r : Nat × Nat} {R : List (Nat × Nat)} : (a + k ≤ r.1 → scan k a (r :: R) = a) ∧ (¬ a + k ≤ r.1 → scan k a (r :: R) = scan k (r.1 + r.2) R) := by
  constructor <;> intro h <;> simp [scan, h]
theorem clear_run {w : World} {p g bm n a k : Nat} {ws : List Int} {R : List (Nat × Nat)} (h : ArenaAt w p g bm n ws R) (hk : 1 ≤ k) (hfit : a + k ≤ n) (ty : TypeId) :
    (Builtin.clear_ #[22] ty #[.slice (some ⟨g, a, none⟩) k (n - a)]).run Tryz.prog w = .ok (.tuple #[]) (w.setCells g a ((List.replicate k 0).map fun x => Value.int .u64 x)) := by
  rw [List.map_replicate]
  exact Lib.run_clear_slice w 22 51 ty (.int .u64 0) Tryz.underlying22 (fun _ => by kernel_rfl) rfl rfl g a k (n - a) hk
    (fun j hj => by rw [(h.word (i := a + j) (by omega)).1]; rfl) (fun j hj => (h.word (i := a + j) (by omega)).2)
theorem cut_small {w : World} {p : Nat} {k : Int} (hk : k < 1) : Calls Tryz.prog 23 #[.pointer (some ⟨p, 0, none⟩), .int .i64 k] w fun e w' => e = .returned (.tuple #[.int .i64 0, .bool false]) ∧ w = w' := by
  go_enter Tryz.func23, Tryz.ntmps23
  go_wp2
  go_ret2
  exact ⟨rfl, rfl⟩
theorem cut_is {w : World} {p g bm n : Nat} {ws : List Int} {R : List (Nat × Nat)} {k : Nat} (h : ArenaAt w p g bm n ws R) (hk : 1 ≤ k) (hk2 : k ≤ 9223372036854775807) :
    Calls Tryz.prog 23 #[.pointer (some ⟨p, 0, none⟩), .int .i64 k] w fun e w' =>
      (scan k 0 R + k ≤ n ∧ e = .returned (.tuple #[.int .i64 (scan k 0 R), .bool true]) ∧ ArenaAt w' p g bm n (setMany ws (scan k 0 R) (List.replicate k 0)) (ins (scan k 0 R, k) R) ∧ Turn [g, bm] w w') ∨
      (¬ scan k 0 R + k ≤ n ∧ e = .returned (.tuple #[.int .i64 0, .bool false]) ∧ Ext w w') := by
  have hn := h.least
  have HA := Lib.hid h
  clear h
  go_enter Tryz.func23, Tryz.ntmps23
  go_wp2_with fail
  refine (bases_is HA.out).mono ?_; rintro e w1 ⟨v, rfl, hrow, hx⟩
  obtain ⟨q, c, rfl, hc1, hc2, hcell⟩ := row_any hrow
  have h1 := HA.out.ext hx
  obtain ⟨c0, c1⟩ := h1.cells
  have HX := Lib.hid hx; have H1 := Lib.hid h1; have HC := Lib.hid hcell
  have hle := scan_le (k := k) R 0 h1.good (Nat.zero_le _)
  clear hx h1 hcell hrow
  unfold maxLen at hc2
  go_wp2_with fail
  go_loop [6, 18] (fun at_ i => ∃ j a : Nat, j ≤ R.length ∧ i = .int .i64 j ∧ at_ = .int .i64 a ∧ a ≤ n ∧ scan k 0 R = scan k a (R.drop j)) (fun _ i => R.length - (Go.RowKit.intOf i).toNat)
  case atStart => exact ⟨0, 0, by omega, rfl, rfl, Nat.zero_le _, rfl⟩
  case round =>
    obtain ⟨j, a, hj, rfl, rfl, ha, hsc⟩ := hrel
    by_cases hlt : j < R.length
    · have hxj : R[j]? = some R[j] := List.getElem?_eq_getElem hlt
      have hd : R.drop j = R[j] :: R.drop (j + 1) := List.drop_eq_getElem_cons hlt
      have hmem : R[j] ∈ R := List.getElem_mem hlt
      obtain ⟨s, rfl, hcj⟩ := HC.out j _ hxj
      have hb := H1.out.good.2 R[j] hmem
      have hlk := look_len (k := (R[j].1 : Int)) H1.out (WalkArith.wf_i64 (by omega))
      rw [lenAt_mem H1.out.good hmem] at hlk
      rw [hd] at hsc
      generalize R[j] = x at *
      obtain ⟨xb, xl⟩ := x
      dsimp only at hcj hb hlk
      obtain ⟨hb1, hb2⟩ := hb
      have i1 : (j : Int) < (R.length : Int) := by omega
      clear hxj hd hmem
      by_cases hroom : a + k ≤ xb
      · have g1 : (k : Int) ≤ (xb : Int) - (a : Int) := by omega
        have hs2 : scan k 0 R = a := hsc.trans ((scan_round (r := (xb, xl)) (R := R.drop (j + 1))).1 hroom)
        have HS := Lib.hid hs2
        clear hsc hs2 hlk
        by_cases hfit : a + k ≤ n
        · have f1 : ¬ ((n : Int) - (a : Int) < (k : Int)) := by omega
          have hwa : (Lit.int .i64 (a : Int)).wf = true := WalkArith.wf_i64 (by omega)
          have hwk : (Lit.int .i64 (k : Int)).wf = true := WalkArith.wf_i64 (by omega)
          have hfit2 : scan k 0 R + k ≤ n := by rw [HS.out]; exact hfit
          have HF := Lib.hid hfit2
          have hrl := good_len H1.out.good
          have HM := Lib.hid H1.out.regs
          clear hfit2
          go_wp2_with (at_mapUpdate; refine wpList_mapUpdate_own _ rfl _ _ _ 100 rfl 3 3 int_law Tryz.underlying100 _ bm R.length _ rfl HM.out (by unfold maxLen; omega) _ _ _ rfl rfl (key_int hwa) _ [] (plainElem_int Tryz.underlying3 hwk) ?_; intro w2 hown2 hgrow2; have hcr := ArenaAt.cutRow (k := k) H1.out hk HF.out (by rw [HS.out]; exact hown2) hgrow2; obtain ⟨d0, d1⟩ := hcr.1.cells; have HCR := Lib.hid hcr; clear hcr; have hcl := fun ty => clear_run (k := k) (a := a) HCR.out.1 hk hfit ty)
          go_ret2
          obtain ⟨s1, s2⟩ := HCR.out.1.stores (List.replicate k 0) a
          rw [List.map_replicate] at s1 s2
          refine .inl ⟨HF.out, by rw [HS.out]; rfl, by rw [HS.out] at s1 ⊢; exact s1, ?_⟩
          exact ((Turn.of_ext (bs := [g, bm]) HX.out).trans (Turn.mono (cs := [g, bm]) HCR.out.2 (by simp))).trans (Turn.mono (cs := [g, bm]) s2 (by simp))
        · have f1 : decide ((n : Int) - (a : Int) < (k : Int)) = true := decide_eq_true (by omega)
          have hfit2 : ¬ scan k 0 R + k ≤ n := by rw [HS.out]; exact hfit
          have HF := Lib.hid hfit2
          clear hfit2 hfit
          go_wp2_with fail
          go_ret2
          exact .inr ⟨by have := HF.out; omega, rfl, HX.out⟩
      · have g1 : ¬ ((k : Int) ≤ (xb : Int) - (a : Int)) := by omega
        have hs2 : scan k 0 R = scan k (xb + xl) (R.drop (j + 1)) := hsc.trans ((scan_round (r := (xb, xl)) (R := R.drop (j + 1))).2 hroom)
        have HS := Lib.hid hs2
        clear hsc hs2
        go_wp2_with fail
        exact ⟨⟨j + 1, xb + xl, by omega, by go_num, by go_num, by omega, HS.out⟩, by simp [Go.RowKit.intOf]; omega⟩
    · obtain rfl : j = R.length := by omega
      have hs2 : scan k 0 R = a := by rw [hsc, List.drop_eq_nil_of_le (Nat.le_refl _)]; rfl
      have HS := Lib.hid hs2
      clear hsc hs2
      by_cases hfit : a + k ≤ n
      · have f1 : ¬ ((n : Int) - (a : Int) < (k : Int)) := by omega
        have hwa : (Lit.int .i64 (a : Int)).wf = true := WalkArith.wf_i64 (by omega)
        have hwk : (Lit.int .i64 (k : Int)).wf = true := WalkArith.wf_i64 (by omega)
        have hfit2 : scan k 0 R + k ≤ n := by rw [HS.out]; exact hfit
        have HF := Lib.hid hfit2
        have hrl := good_len H1.out.good
        have HM := Lib.hid H1.out.regs
        clear hfit2
        go_wp2_with (at_mapUpdate; refine wpList_mapUpdate_own _ rfl _ _ _ 100 rfl 3 3 int_law Tryz.underlying100 _ bm R.length _ rfl HM.out (by unfold maxLen; omega) _ _ _ rfl rfl (key_int hwa) _ [] (plainElem_int Tryz.underlying3 hwk) ?_; intro w2 hown2 hgrow2; have hcr := ArenaAt.cutRow (k := k) H1.out hk HF.out (by rw [HS.out]; exact hown2) hgrow2; obtain ⟨d0, d1⟩ := hcr.1.cells; have HCR := Lib.hid hcr; clear hcr; have hcl := fun ty => clear_run (k := k) (a := a) HCR.out.1 hk hfit ty)
        go_ret2
        obtain ⟨s1, s2⟩ := HCR.out.1.stores (List.replicate k 0) a
        rw [List.map_replicate] at s1 s2
        refine .inl ⟨HF.out, by rw [HS.out]; rfl, by rw [HS.out] at s1 ⊢; exact s1, ?_⟩
        exact ((Turn.of_ext (bs := [g, bm]) HX.out).trans (Turn.mono (cs := [g, bm]) HCR.out.2 (by simp))).trans (Turn.mono (cs := [g, bm]) s2 (by simp))
      · have f1 : decide ((n : Int) - (a : Int) < (k : Int)) = true := decide_eq_true (by omega)
        have hfit2 : ¬ scan k 0 R + k ≤ n := by rw [HS.out]; exact hfit
        have HF := Lib.hid hfit2
        clear hfit2 hfit
        go_wp2_with fail
        go_ret2
        exact .inr ⟨by have := HF.out; omega, rfl, HX.out⟩
end Go.Proofs.YtinakendlpomnaaGreat
/- The walks of an arena's New, Words, Regions. -/
namespace Go.Proofs.YtinakendlpomnaaGreat
open Go.RowKit Go.Maps Arena
set_option maxHeartbeats 2000000
set_option maxRecDepth 100000
theorem new_no {w : World} {n : Int} (hn : n < 1 ∨ 20000 < n) : Calls Tryz.prog 21 #[.int .i64 n] w fun e w' => e = .returned (.tuple #[.pointer none, .bool false]) ∧ w = w' := by
  by_cases h1 : n < 1
  · have b1 : decide (n < 1) = true := decide_eq_true h1
    go_enter Tryz.func21, Tryz.ntmps21
    go_wp2
    go_ret2
    exact ⟨rfl, rfl⟩
  · have b1 : decide (n < 1) = false := decide_eq_false h1
    have b2 : decide (20000 < n) = true := decide_eq_true (by omega)
    go_enter Tryz.func21, Tryz.ntmps21
    go_wp2
    go_ret2
    exact ⟨rfl, rfl⟩
theorem made_zeros (n : Nat) : madeCells #[Value.int .u64 0] n = ((List.replicate n (0 : Int)).map fun x => Value.int .u64 x).toArray := by
  apply Array.ext
  · simp [madeCells]
  · intro i h1 h2
    simp [madeCells, Nat.mod_one]
theorem arena_new (w : World) {n : Nat} (h2 : n ≤ 20000) : ArenaAt (((w.alloc (.cells (madeCells #[Value.int .u64 0] n) 51)).alloc (.map #[] 0)).alloc (.cells #[.slice (some ⟨w.heap.size, 0, none⟩) n n, .map (some (w.heap.size + 1))] 102)) (w.heap.size + 1 + 1) w.heap.size (w.heap.size + 1) n (List.replicate n 0) [] := by
  have e1 : (w.alloc (.cells (madeCells #[Value.int .u64 0] n) 51)).heap.size = w.heap.size + 1 := by simp
  have e2 : ((w.alloc (.cells (madeCells #[Value.int .u64 0] n) 51)).alloc (.map #[] 0)).heap.size = w.heap.size + 1 + 1 := by simp
  refine ⟨?_, ?_, by simp, ?_, good_nil n, by omega, by omega, by omega, h2⟩
  · have := heap_alloc_new ((w.alloc (.cells (madeCells #[Value.int .u64 0] n) 51)).alloc (.map #[] 0)) (.cells #[.slice (some ⟨w.heap.size, 0, none⟩) n n, .map (some (w.heap.size + 1))] 102)
    rw [e2] at this
    exact this
  · rw [Below.heap_alloc _ _ _ (by rw [e2]; omega), Below.heap_alloc _ _ _ (by rw [e1]; omega), ← made_zeros]
    exact heap_alloc_new w _
  · have := (World.ownsMap_made (H := Unit) (w.alloc (.cells (madeCells #[Value.int .u64 0] n) 51)) Tryz.prog 3 (plainElem Tryz.prog 3)).alloc (.cells #[.slice (some ⟨w.heap.size, 0, none⟩) n n, .map (some (w.heap.size + 1))] 102)
    rw [e1] at this
    exact this
theorem new_is {w : World} {n : Nat} (h1 : 1 ≤ n) (h2 : n ≤ 20000) : Calls Tryz.prog 21 #[.int .i64 n] w fun e w' =>
    ∃ p g bm, e = .returned (.tuple #[.pointer (some ⟨p, 0, none⟩), .bool true]) ∧ ArenaAt w' p g bm n (List.replicate n 0) [] ∧ Ext w w' ∧ w.heap.size ≤ p ∧ w.heap.size ≤ g ∧ w.heap.size ≤ bm := by
  have b1 : decide ((n : Int) < 1) = false := decide_eq_false (by omega)
  have b2 : decide (20000 < (n : Int)) = false := decide_eq_false (by omega)
  have hmk := run_make_row' (P := Tryz.prog) 22 51 (.int .u64 0) 8 Tryz.underlying22 info_u64 rfl .i64 .i64 n (by omega) (by omega)
  have hmm := @run_makeMap Tryz.prog
  go_enter Tryz.func21, Tryz.ntmps21
  go_wp2
  go_ret2
  exact ⟨w.heap.size + 1 + 1, w.heap.size, w.heap.size + 1, rfl, arena_new w h2, ((Ext.alloc _ _).trans (Ext.alloc _ _)).trans (Ext.alloc _ _), by omega, by omega, by omega⟩
theorem words_no {w : World} {p g bm n : Nat} {ws : List Int} {R : List (Nat × Nat)} {k : Int} (h : ArenaAt w p g bm n ws R) (hw : (Lit.int .i64 k).wf = true) (h0 : lenAt R k = 0) :
    Calls Tryz.prog 20 #[.pointer (some ⟨p, 0, none⟩), .int .i64 k] w fun e w' => e = .returned (.tuple #[.slice none 0 0, .bool false]) ∧ w = w' := by
  have hcl : ∀ W, Calls Tryz.prog 28 #[.slice none 0 0] W fun e w' => e = .returned (.slice none 0 0) ∧ w' = W := fun W => AnyE.slices_Clone_nil Tryz.cloneA 0 0 W
  go_enter Tryz.func20, Tryz.ntmps20
  go_wp2_with fail
  refine (region_no h hw h0).mono ?_; rintro e w' ⟨rfl, rfl⟩
  go_wp2_with fail
  refine (hcl _).mono ?_; rintro e w' ⟨rfl, rfl⟩
  go_wp2
  go_ret2
  exact ⟨rfl, rfl⟩
theorem words_yes {w : World} {p g bm n : Nat} {ws : List Int} {R : List (Nat × Nat)} {r : Nat × Nat} (h : ArenaAt w p g bm n ws R) (hr : r ∈ R) :
    Calls Tryz.prog 20 #[.pointer (some ⟨p, 0, none⟩), .int .i64 r.1] w fun e w' => ∃ v, e = .returned (.tuple #[v, .bool true]) ∧ w'.ownsRow w.heap.size 51 1 v r.2 (((ws.drop r.1).take r.2).map fun x => Value.int .u64 x) ∧ Ext w w' := by
  obtain ⟨h1, h2⟩ := h.good.2 r hr
  have hn := h.least
  have hl := h.len
  obtain ⟨i0, hi, hz0, hz1, hz2⟩ := info_parts info_u64
  have hcl : Calls Tryz.prog 28 #[.slice (some ⟨g, r.1, none⟩) r.2 (n - r.1)] w fun e w' => ∃ v', e = .returned v' ∧ w'.ownsRow w.heap.size 51 1 v' r.2 (((ws.drop r.1).take r.2).map fun x => Value.int .u64 x) ∧ v' ≠ .slice none 0 0 ∧ Below w.heap.size w w' :=
    AnyE.slices_Clone Tryz.cloneA i0 (.int .u64 0) 1 8 hi hz0 hz1 hz2 rfl (by decide) (fun W => by kernel_rfl) g r.1 r.2 (n - r.1) (((ws.drop r.1).take r.2).map fun x => Value.int .u64 x) w
      (by rw [List.length_map, List.length_take, List.length_drop]; omega) (by unfold maxLen; omega) (by omega)
      (fun j u hj => by
        rw [List.getElem?_map] at hj
        obtain ⟨x, hx, rfl⟩ := Option.map_eq_some_iff.1 hj
        have hjl : j < ((ws.drop r.1).take r.2).length := (List.getElem?_eq_some_iff.1 hx).1
        rw [List.length_take, List.length_drop] at hjl
        rw [List.getElem?_take_of_lt (by omega), List.getElem?_drop] at hx
        rw [(h.word (i := r.1 + j) (by omega)).1, List.getD_eq_getElem?_getD, hx]; rfl)
      (fun u hu => by obtain ⟨x, _, rfl⟩ := List.mem_map.1 hu; rfl)
  have HCL := Lib.hid hcl
  have HRG := Lib.hid (region_yes h hr)
  have i1 : (0 : Int) < (r.2 : Int) := by omega
  clear hcl h hi hz0 hz1 hz2
  go_enter Tryz.func20, Tryz.ntmps20
  go_wp2_with fail
  refine HRG.out.mono ?_; rintro e w' ⟨rfl, rfl⟩
  go_wp2_with fail
  refine HCL.out.mono ?_; rintro e w1 ⟨v, rfl, hrow, _, hx⟩
  go_wp2
  go_ret2
  exact ⟨v, by simp; omega, hrow, hx⟩
end Go.Proofs.YtinakendlpomnaaGreat
/- The walk of the arena's wakes. -/
namespace Go.Proofs.YtinakendlpomnaaGreat
open Go.RowKit Go.Maps Arena
set_option maxHeartbeats 4000000
set_option maxRecDepth 100000
def TrueExt (w : World) (e : Ending) (w' : World) : Prop := e = .returned (.bool true) ∧ Ext w w'
theorem cut_yes {w : World} {p g bm n : Nat} {ws : List Int} {R R' : List (Nat × Nat)} {k at_ : Nat} (h : ArenaAt w p g bm n ws R) (hk : 1 ≤ k) (hk2 : k ≤ 9223372036854775807) (hs : scan k 0 R = at_) (hfit : at_ + k ≤ n) (hR : ins (at_, k) R = R') :
    Calls Tryz.prog 23 #[.pointer (some ⟨p, 0, none⟩), .int .i64 k] w fun e w' => e = .returned (.tuple #[.int .i64 at_, .bool true]) ∧ ArenaAt w' p g bm n (setMany ws at_ (List.replicate k 0)) R' ∧ Turn [g, bm] w w' := by
  subst hs; subst hR
  refine (cut_is h hk hk2).mono ?_
  rintro e w' (⟨_, h1, h2, h3⟩ | ⟨h1, _⟩)
  · exact ⟨h1, h2, h3⟩
  · exact absurd hfit h1
theorem cut_no {w : World} {p g bm n : Nat} {ws : List Int} {R : List (Nat × Nat)} {k : Nat} (h : ArenaAt w p g bm n ws R) (hk : 1 ≤ k) (hk2 : k ≤ 9223372036854775807) (hfit : ¬ scan k 0 R + k ≤ n) :
    Calls Tryz.prog 23 #[.pointer (some ⟨p, 0, none⟩), .int .i64 k] w fun e w' => e = .returned (.tuple #[.int .i64 0, .bool false]) ∧ ArenaAt w' p g bm n ws R ∧ Turn [] w w' := by
  refine (cut_is h hk hk2).mono ?_
  rintro e w' (⟨h1, _⟩ | ⟨_, h1, h2⟩)
  · exact absurd h1 hfit
  · exact ⟨h1, h.ext h2, Turn.of_ext h2⟩
theorem word_lit (w : World) (l : List Int) (hl : l.length ≤ 1000) (T : TypeId) : WordSl (w.alloc (.cells (l.map fun x => Value.int .u64 x).toArray T)) (.slice (some ⟨w.heap.size, 0, none⟩) l.length l.length) l := by
  refine ⟨_, _, rfl, Nat.le_refl _, by unfold maxLen; omega, fun i x hx => ⟨w.heap.size, 0, rfl, ?_⟩⟩
  have hb := heap_alloc_new w (.cells (l.map fun x => Value.int .u64 x).toArray T)
  simp only [World.cell?, hb, Nat.zero_add]
  simp [hx]
theorem pair_lit (w : World) (l : List (Nat × Nat)) (hl : l.length ≤ 1000) (T : TypeId) : PairSl (w.alloc (.cells (l.flatMap pairC).toArray T)) (.slice (some ⟨w.heap.size, 0, none⟩) l.length l.length) l := by
  refine ⟨_, _, rfl, Nat.le_refl _, by unfold maxLen; omega, fun i x hx => ⟨w.heap.size, 0, rfl, ?_⟩⟩
  have hb := heap_alloc_new w (.cells (l.flatMap pairC).toArray T)
  have hf := flat2 l i x hx
  constructor
  · simp only [World.cell?, hb, Nat.zero_add]
    simp [hf.1]
  · simp only [World.cell?, hb, Nat.zero_add]
    simp [hf.2]
end Go.Proofs.YtinakendlpomnaaGreat
/- Arguments that were read are read again behind a call that turned nothing of what lay before it. -/
namespace Go.Proofs.YtinakendlpomnaaGreat
open Go.ChangeShapes Go.WideShapes Go.ChangeAt Go.RowKit
theorem args_stay {H : Type} {enc : TypeId × Value → H} {P : Program} {W W' : World} {sp' : Nat → Bool} (hl : laidOutB P = true) :
    ∀ {ts : List TypeId} {vs : List Value} {ds : List (DataW H)} {ps : List MemPlace}, (∀ t ∈ ts, P.readableRec t = true ∧ t < P.types.size) → DataW.TrodAll enc P W 0 (fun _ => true) true ts vs ds ps →
      (∀ p ∈ ps, W.sameAt W' p) → (∀ p ∈ ps, sp' p.block = true) → DataW.TrodAll enc P W' 0 sp' true ts vs ds ps := by
  intro ts
  induction ts with
  | nil =>
    intro vs ds ps _ h _ _
    obtain ⟨rfl, rfl, rfl⟩ := trodAll_nil h
    exact trodAll_mk0
  | cons t ts ih =>
    intro vs ds ps hr h hsame hs
    obtain ⟨v, vs', d, ds', p, q, rfl, rfl, rfl, h0, r0⟩ := trodAll_cons h
    have ht := hr t (.head _)
    exact trodAll_cons_mk (WideElems.Trod_stays hl ht.1 ht.2 h0 (fun x hx => hsame x (List.mem_append_left _ hx)) (fun x hx => hs x (List.mem_append_left _ hx)))
      (ih (fun t ht => hr t (.tail _ ht)) r0 (fun x hx => hsame x (List.mem_append_right _ hx)) (fun x hx => hs x (List.mem_append_right _ hx)))
end Go.Proofs.YtinakendlpomnaaGreat
/- A slice among the arguments, whatever its elements: each element's cells, and that they read. -/
namespace Go.Proofs.YtinakendlpomnaaGreat
open Go.ChangeShapes Go.WideShapes Go.ChangeAt Go.RowKit Go.Deep
/-- a slice whose elements are rows of s cells, wherever it lies -/
def RowsSl (w : World) (v : Value) (s : Nat) (l : List (List Value)) : Prop := ∃ q c, v = .slice q l.length c ∧ l.length ≤ c ∧ c ≤ maxLen ∧
  ∀ (i : Nat) (cs : List Value), l[i]? = some cs → cs.length = s ∧ ∃ b off, q = some ⟨b, off, none⟩ ∧ ∀ (f : Nat) (u : Value), cs[f]? = some u → w.cell? ⟨b, off + i * s + f, none⟩ = some u
theorem RowsSl.ext {w w' : World} {v : Value} {s : Nat} {l : List (List Value)} (h : RowsSl w v s l) (e : Ext w w') : RowsSl w' v s l := by
  obtain ⟨q, c, hv, h1, h2, hc⟩ := h
  exact ⟨q, c, hv, h1, h2, fun i cs hcs => by obtain ⟨hl, b, off, hq, hf⟩ := hc i cs hcs; exact ⟨hl, b, off, hq, fun f u hu => e.cell (hf f u hu)⟩⟩
/-- what an argument's element reads as -/
def ReadsAs {H : Type} (enc : TypeId × Value → H) (P : Program) (w : World) (e : TypeId) (cs : List Value) : Prop := ∃ n x, DataW.trod enc P w 0 (fun _ => true) true n e cs = some x
theorem open_rows {H : Type} {enc : TypeId × Value → H} {P : Program} {w : World} {base : Nat} {t e : TypeId} {s : Nat} {v : Value} {d : DataW H} {ps : List MemPlace} (ht : P.underlying t = some (.slice e)) (hs : P.cellsOf e = s) (h1 : 1 ≤ s)
    (hval : Value.okWide P w .any base t v) (h : DataW.Trod enc P w 0 (fun _ => true) true t v d ps) : ∃ l, RowsSl w v s l ∧ ∀ cs ∈ l, ReadsAs enc P w e cs := by
  obtain ⟨a0, len, cap, rfl⟩ := okWide_slice ht hval
  obtain ⟨fuel, hf⟩ := h
  simp only [Value.cells] at hf
  rcases open_slice ht hf with ⟨hcs, _⟩ | ⟨a, len', cap', m, n, D, Pl, hcs, _, hlc, hcm, hm, _, hel⟩
  · simp only [List.cons.injEq, and_true, Value.slice.injEq] at hcs
    obtain ⟨rfl, rfl, rfl⟩ := hcs
    exact ⟨[], ⟨none, 0, rfl, Nat.le_refl _, Nat.zero_le _, fun i cs h => by simp at h⟩, fun cs h => by cases h⟩
  · simp only [List.cons.injEq, and_true, Value.slice.injEq] at hcs
    obtain ⟨rfl, rfl, rfl⟩ := hcs
    simp only [if_true] at hm
    rw [hs] at hel
    rw [hm] at hel
    obtain ⟨V, hV⟩ := choose_lt (n := cap) (p := fun i cs => w.cells? 0 (a.add (i * s)) s = some cs ∧ DataW.trod enc P w 0 (fun _ => true) true n e cs = some (D i, Pl i)) (fun i hi => hel i hi)
    have hl : ((List.range len).map V).length = len := by simp
    refine ⟨(List.range len).map V, ⟨some a, cap, by rw [hl], by rw [hl]; exact hlc, hcm, fun i cs hi => ?_⟩, fun cs hcs => ?_⟩
    · have hil : i < len := by have := (List.getElem?_eq_some_iff.1 hi).1; simpa using this
      have hcs : V i = cs := by simpa [hil] using hi
      subst hcs
      obtain ⟨_, hlen, hcell⟩ := World.cells?_some (hV i (by omega)).1
      obtain ⟨_, hlen0, hcell0⟩ := World.cells?_some (hV 0 (by omega)).1
      have hc0 := hcell0 0 (by omega)
      rw [List.getElem?_eq_getElem (by omega : 0 < (V 0).length), Go.Deep.add_add] at hc0
      obtain ⟨b, off, spot⟩ := a
      have hspot : spot = none := by simpa [Addr.add] using World.cell?_spot hc0
      subst hspot
      refine ⟨hlen, b, off, rfl, fun f u hu => ?_⟩
      have hfl : f < s := by rw [← hlen]; exact (List.getElem?_eq_some_iff.1 hu).1
      have := hcell f hfl
      rw [Go.Deep.add_add, add_plain, hu] at this
      rw [Nat.add_assoc]
      exact this
    · obtain ⟨i, hi, rfl⟩ := List.mem_map.1 hcs
      have hil := List.mem_range.1 hi
      exact ⟨n, _, (hV i (by omega)).2⟩
end Go.Proofs.YtinakendlpomnaaGreat
/- Steps among the arguments; keep.Mod; what is set in one region leaves another's words. -/
namespace Go.Proofs.YtinakendlpomnaaGreat
open Go.ChangeShapes Go.WideShapes Go.ChangeAt Go.RowKit Arena
set_option maxHeartbeats 4000000
set_option maxRecDepth 100000
structure StepD where
  kind : Int
  n : Int
  at_ : Int
  wd : Int
/-- a slice that reads as steps, wherever it lies -/
def StepSl (w : World) (v : Value) (l : List StepD) : Prop := ∃ q c, v = .slice q l.length c ∧ l.length ≤ c ∧ c ≤ maxLen ∧
  ∀ (i : Nat) (x : StepD), l[i]? = some x → (Lit.int .i64 x.n).wf = true ∧ (Lit.int .i64 x.at_).wf = true ∧ ∃ b off, q = some ⟨b, off, none⟩ ∧ w.cell? ⟨b, off + i * 4, none⟩ = some (.int .i64 x.kind) ∧
    w.cell? ⟨b, off + i * 4 + 1, none⟩ = some (.int .i64 x.n) ∧ w.cell? ⟨b, off + i * 4 + 2, none⟩ = some (.int .i64 x.at_) ∧ w.cell? ⟨b, off + i * 4 + 3, none⟩ = some (.int .u64 x.wd)
theorem setMany_below : ∀ (vs ws : List Int) (o : Nat) {i : Nat}, i < o → (setMany ws o vs)[i]? = ws[i]? := by
  intro vs
  induction vs with
  | nil => intro ws o i _; rfl
  | cons v vs ih =>
    intro ws o i h
    show (setMany (ws.set o v) (o + 1) vs)[i]? = _
    rw [ih _ _ (by omega), List.getElem?_set_ne (by omega)]
/-- a region's words -/
def wordsOf (ws : List Int) (r : Nat × Nat) : List Int := (ws.drop r.1).take r.2
theorem words_apart {n : Nat} {R : List (Nat × Nat)} {ws : List Int} (hg : Arena.Good n R) {i j : Nat} (hi : i < R.length) (hj : j < R.length) (hne : i ≠ j) {a : Nat} (ha : a < R[i].2) (v : Int) : wordsOf (ws.set (R[i].1 + a) v) R[j] = wordsOf ws R[j] := by
  have hap : R[i].1 + R[i].2 ≤ R[j].1 ∨ R[j].1 + R[j].2 ≤ R[i].1 := by
    rcases Nat.lt_or_gt_of_ne hne with h | h
    · exact .inl (List.pairwise_iff_getElem.1 hg.1 i j hi hj h)
    · exact .inr (List.pairwise_iff_getElem.1 hg.1 j i hj hi h)
  unfold wordsOf
  apply List.ext_getElem?
  intro x
  by_cases hx : x < R[j].2
  · rw [List.getElem?_take_of_lt hx, List.getElem?_take_of_lt hx, List.getElem?_drop, List.getElem?_drop, List.getElem?_set_ne (by omega)]
  · rw [List.getElem?_eq_none (by rw [List.length_take]; omega), List.getElem?_eq_none (by rw [List.length_take]; omega)]
theorem wordsOf_length {n : Nat} {R : List (Nat × Nat)} {ws : List Int} (hg : Arena.Good n R) (hl : ws.length = n) {r : Nat × Nat} (hr : r ∈ R) : (wordsOf ws r).length = r.2 := by
  have := (hg.2 r hr).2
  unfold wordsOf
  rw [List.length_take, List.length_drop]
  omega
/-- a cut's words are 0 -/
theorem wordsOf_cut {ws : List Int} : ∀ (k o : Nat), o + k ≤ ws.length → wordsOf (setMany ws o (List.replicate k 0)) (o, k) = List.replicate k 0 := by
  intro k
  induction k generalizing ws with
  | zero => intro o _; simp [wordsOf]
  | succ k ih =>
    intro o h
    have h2 := ih (ws := ws.set o 0) (o + 1) (by rw [List.length_set]; omega)
    rw [List.replicate_succ]
    show wordsOf (setMany (ws.set o 0) (o + 1) (List.replicate k 0)) (o, k + 1) = _
    have hz : (setMany (ws.set o 0) (o + 1) (List.replicate k 0))[o]? = some 0 := by
      rw [setMany_below _ _ _ (by omega), List.getElem?_set_self (by omega)]
    unfold wordsOf at h2 ⊢
    dsimp only at h2 ⊢
    have hlt : o < (setMany (ws.set o 0) (o + 1) (List.replicate k 0)).length := (List.getElem?_eq_some_iff.1 hz).1
    rw [List.drop_eq_getElem_cons hlt, List.take_succ_cons, h2]
    congr 1
    rw [List.getElem?_eq_getElem hlt] at hz
    exact Option.some.inj hz
end Go.Proofs.YtinakendlpomnaaGreat
/- The reference's arena: Cut. -/
namespace Go.Proofs.YtinakendlpomnaaGreat
open Go.RowKit Go.Maps Arena
set_option maxHeartbeats 4000000
set_option maxRecDepth 100000
attribute [local go_sem ↓] Go.wp_at_zero Go.wp_at_succ
theorem ins_split {x : Nat × Nat} : ∀ (A L : List (Nat × Nat)), (∀ r ∈ A, r.1 < x.1) → (∀ r, L.head? = some r → x.1 < r.1) → ins x (A ++ L) = A ++ x :: L := by
  intro A
  induction A with
  | nil =>
    intro L _ hL
    cases L with
    | nil => rfl
    | cons y L =>
      have := hL y rfl
      simp [ins, this]
  | cons y A ih =>
    intro L hA hL
    have := hA y (.head _)
    rw [List.cons_append, List.cons_append]
    unfold ins
    rw [if_neg (by omega), ih L (fun r hr => hA r (.tail _ hr)) hL]
theorem setMany_snoc (v : Int) : ∀ (vs ws : List Int) (o : Nat), setMany ws o (vs ++ [v]) = (setMany ws o vs).set (o + vs.length) v := by
  intro vs
  induction vs with
  | nil => intro ws o; rfl
  | cons u vs ih =>
    intro ws o
    show setMany (ws.set o u) (o + 1) (vs ++ [v]) = _
    rw [ih]
    show _ = (setMany (ws.set o u) (o + 1) vs).set _ v
    rw [List.length_cons, show o + 1 + vs.length = o + (vs.length + 1) by omega]
/-- where the loop stands: every region ahead ends at or ahead of a; the scan goes on from there -/
def CutAt (k : Nat) (R : List (Nat × Nat)) (j a : Nat) : Prop := (∀ r ∈ R.take j, r.1 + r.2 ≤ a) ∧ scan k 0 R = scan k a (R.drop j)
theorem cutAt_next {n k : Nat} {R : List (Nat × Nat)} {j a : Nat} (hg : Arena.Good n R) (h : CutAt k R j a) (hj : j < R.length) (hno : ¬ a + k ≤ R[j].1) : CutAt k R (j + 1) (R[j].1 + R[j].2) := by
  refine ⟨fun r hr => ?_, ?_⟩
  · rw [List.take_succ_eq_append_getElem hj, List.mem_append, List.mem_singleton] at hr
    rcases hr with hr | rfl
    · obtain ⟨i, hi, rfl⟩ := List.getElem_of_mem hr
      rw [List.length_take] at hi
      rw [List.getElem_take]
      have := good_ne hg (i := i) (j := j) (by omega) hj
      omega
    · exact Nat.le_refl _
  · rw [h.2, List.drop_eq_getElem_cons hj]
    exact (scan_round (r := R[j]) (R := R.drop (j + 1))).2 hno
theorem cutAt_here {n k : Nat} {R : List (Nat × Nat)} {j a : Nat} (hk : 1 ≤ k) (hg : Arena.Good n R) (h : CutAt k R j a) (hj : j < R.length) (hyes : a + k ≤ R[j].1) : scan k 0 R = a ∧ ins (a, k) R = R.take j ++ (a, k) :: R.drop j := by
  refine ⟨by rw [h.2, List.drop_eq_getElem_cons hj]; exact (scan_round (r := R[j]) (R := R.drop (j + 1))).1 hyes, ?_⟩
  have := ins_split (x := (a, k)) (R.take j) (R.drop j) (fun r hr => ?_) (fun r hr => ?_)
  · rw [List.take_append_drop] at this; exact this
  · have h1 := h.1 r hr
    have h2 := (hg.2 r (List.mem_of_mem_take hr)).1
    simp; omega
  · rw [List.drop_eq_getElem_cons hj] at hr
    obtain rfl := Option.some.inj (show some R[j] = some r from hr)
    simp; omega
theorem cutAt_end {n k : Nat} {R : List (Nat × Nat)} {a : Nat} (hg : Arena.Good n R) (h : CutAt k R R.length a) : scan k 0 R = a ∧ ins (a, k) R = R.take R.length ++ (a, k) :: R.drop R.length := by
  refine ⟨by rw [h.2, List.drop_length]; rfl, ?_⟩
  have := ins_split (x := (a, k)) (R.take R.length) (R.drop R.length) (fun r hr => ?_) (fun r hr => ?_)
  · rw [List.take_append_drop] at this; exact this
  · have h1 := h.1 r hr
    have h2 := (hg.2 r (List.mem_of_mem_take hr)).1
    simp; omega
  · rw [List.drop_length] at hr; cases hr
theorem refcut_small {w : World} {q gq B n : Nat} {ws : List Int} {vR : Value} {R : List (Nat × Nat)} (h : RefAt w q gq B n ws vR R) {k : Int} (hk : k < 1) :
    Calls Tryz.prog 24 #[.pointer (some ⟨q, 0, none⟩), .int .i64 k] w fun e w' => e = .returned (.int .i64 (-1)) ∧ Ext w w' := by
  obtain ⟨qa, ca, rfl, la1, la2, hca⟩ := h.regs.sl
  obtain ⟨c0, c1, _⟩ := h.cells
  have HA := Lib.hid hca
  have HG := Lib.hid h.good
  have hrl := good_len h.good
  have hn := h.least
  have b0 : decide (k < 1) = true := decide_eq_true hk
  unfold maxLen at la2
  clear hca h
  go_enter Tryz.func24, Tryz.ntmps24
  go_wp2
  go_loopw [5, 6] (fun a j wx => ∃ (jj aa : Nat), jj ≤ R.length ∧ j = .int .i64 jj ∧ a = .int .i64 aa ∧ aa ≤ n ∧ Ext w wx) (fun _ j _ => R.length - (Go.RowKit.intOf j).toNat)
  case atStart => exact ⟨0, 0, by omega, rfl, rfl, by omega, Ext.refl _⟩
  case round =>
    obtain ⟨jj, aa, hjj, rfl, rfl, haa, hx⟩ := hrel
    have C0 := hx.cell c0; have C1 := hx.cell c1
    by_cases hlt : jj < R.length
    · have i1 : (jj : Int) < (R.length : Int) := by omega
      obtain ⟨b, off, rfl, p0, p1⟩ := HA.out jj _ (List.getElem?_eq_getElem hlt)
      have P0 := hx.cell p0; have P1 := hx.cell p1
      have hb := HG.out.2 R[jj] (List.getElem_mem hlt)
      clear p0 p1
      generalize R[jj] = y at *
      go_wp2_with fail
      go_big_quiet (fail)
      go_wp2
      exact ⟨⟨jj + 1, y.1 + y.2, by omega, by go_num, by go_num, by omega, hx.trans (Ext.drewN _ _)⟩, by simp [Go.RowKit.intOf]; omega⟩
    · obtain rfl : jj = R.length := by omega
      go_wp2
      go_ret
      exact ⟨rfl, hx⟩
theorem refcut_is {w : World} {q gq B n : Nat} {ws : List Int} {vR : Value} {R : List (Nat × Nat)} (h : RefAt w q gq B n ws vR R) (hB : B ≤ w.heap.size) {k : Nat} (hk : 1 ≤ k) (hk2 : k ≤ 9223372036854775807) :
    Calls Tryz.prog 24 #[.pointer (some ⟨q, 0, none⟩), .int .i64 k] w fun e w' =>
      (scan k 0 R + k ≤ n ∧ e = .returned (.int .i64 (scan k 0 R)) ∧ (∃ v, RefAt w' q gq B n (setMany ws (scan k 0 R) (List.replicate k 0)) v (ins (scan k 0 R, k) R)) ∧ Turn [q, gq] w w') ∨
      (¬ scan k 0 R + k ≤ n ∧ e = .returned (.int .i64 (-1)) ∧ Ext w w') := by
  have H := Lib.hid h
  obtain ⟨qa, ca, hvR, la1, la2, hca⟩ := h.regs.sl
  obtain ⟨c0, c1, f1⟩ := h.cells
  have HA := Lib.hid hca
  have HG := Lib.hid h.good
  have hrl := good_len h.good
  have hn := h.least
  have hlt := h.lt
  have hqg := h.ne
  have b0 : decide ((k : Int) < 1) = false := decide_eq_false (by omega)
  unfold maxLen at la2
  clear hca h
  subst hvR
  go_enter Tryz.func24, Tryz.ntmps24
  go_upto_block 0 with fail
  go_cut [5, 6] from 8 to 51 (fun a j wx => ∃ (jj aa : Nat), jj ≤ R.length ∧ j = .int .i64 jj ∧ a = .int .i64 aa ∧ aa ≤ n ∧ scan k 0 R = aa ∧ ins (aa, k) R = R.take jj ++ (aa, k) :: R.drop jj ∧ Ext w wx)
  case first =>
    go_wp2_with fail
    go_loopw [5, 6] (fun a j wx => ∃ (jj aa : Nat), jj ≤ R.length ∧ j = .int .i64 jj ∧ a = .int .i64 aa ∧ aa ≤ n ∧ CutAt k R jj aa ∧ Ext w wx) (fun _ j _ => R.length - (Go.RowKit.intOf j).toNat)
    case atStart => exact ⟨0, 0, by omega, rfl, rfl, by omega, ⟨fun r hr => by simp at hr, rfl⟩, Ext.refl _⟩
    case round =>
      obtain ⟨jj, aa, hjj, rfl, rfl, haa, hcut, hx⟩ := hrel
      have C0 := hx.cell c0; have C1 := hx.cell c1
      have HC := Lib.hid hcut
      clear hcut
      by_cases hlt : jj < R.length
      · have i1 : (jj : Int) < (R.length : Int) := by omega
        obtain ⟨b, off, rfl, p0, p1⟩ := HA.out jj _ (List.getElem?_eq_getElem hlt)
        have P0 := hx.cell p0; have P1 := hx.cell p1
        have hb := HG.out.2 R[jj] (List.getElem_mem hlt)
        clear p0 p1
        by_cases hroom : aa + k ≤ R[jj].1
        · have HN := Lib.hid (cutAt_here hk HG.out HC.out hlt hroom)
          generalize R[jj] = y at *
          have t1 : decide ((y.1 : Int) - (aa : Int) < (k : Int)) = false := decide_eq_false (by omega)
          clear hroom
          go_wp2_with fail
          go_meet
          exact ⟨jj, aa, hjj, rfl, rfl, haa, HN.out.1, HN.out.2, hx⟩
        · have HN := Lib.hid (cutAt_next HG.out HC.out hlt hroom)
          generalize R[jj] = y at *
          have t1 : decide ((y.1 : Int) - (aa : Int) < (k : Int)) = true := decide_eq_true (by omega)
          clear hroom
          go_wp2_with fail
          go_big_quiet (fail)
          go_wp2
          exact ⟨⟨jj + 1, y.1 + y.2, by omega, by go_num, by go_num, by omega, HN.out, hx.trans (Ext.drewN _ _)⟩, by simp [Go.RowKit.intOf]; omega⟩
      · obtain rfl : jj = R.length := by omega
        have HN := Lib.hid (cutAt_end HG.out HC.out)
        go_wp2_with fail
        go_meet
        exact ⟨R.length, aa, hjj, rfl, rfl, haa, HN.out.1, HN.out.2, hx⟩
  case rest =>
    obtain ⟨jj, aa, hjj, rfl, rfl, haa, hsc, hins, hx⟩ := hcut
    have HSC := Lib.hid hsc; have HIN := Lib.hid hins
    have C0 := hx.cell c0; have C1 := hx.cell c1
    have HX := Lib.hid hx
    clear hsc hins hx
    by_cases hfit : aa + k ≤ n
    · have t1 : decide ((n : Int) - (aa : Int) < (k : Int)) = false := decide_eq_false (by omega)
      have HRC := Lib.hid (H.out.ext HX.out)
      have hBc : B ≤ wc.heap.size := by have := HX.out.size; omega
      have F1 := (HX.out.frozen c1).trans f1
      obtain ⟨u1, hs1, hp1⟩ := head_src (k := jj) HRC.out.regs hjj
      obtain ⟨u2, hs2, hp2⟩ := tail_src (k := jj) HRC.out.regs hjj
      have HP1 := Lib.hid hp1; have HP2 := Lib.hid hp2
      clear hp1 hp2
      go_upto_region 7 with fail
      go_cut [] from 65 to 87 (fun wx => ∃ v, RefAt wx q gq B n ws v (ins (aa, k) R) ∧ Turn [q] wc wx)
      case first =>
        refine wp_region_noPanic ?_
        refine wp_region_last 23 (S := (fun w' => w'.cell? ⟨q, 1, none⟩ = some (.slice qa R.length ca) ∧ w'.frozen? ⟨q, 1, none⟩ = false ∧ Ext wc w')) (by kernel_rfl) (by kernel_rfl) _ rfl ?_ (fun hHeld => ?_)
        · (refine keep3 C1 F1 ?_; first | exact Ext.drew _ | exact e1 | exact e1b | exact e2 | exact e3 | exact e4 | exact e5)
        simp only [List.take_succ_cons, List.take_zero]
        refine wpAnyH_take (i := 0) (v := ?v1) rfl (by kernel_rfl) (by kernel_rfl) (by kernel_rfl) (fun _ _ _ h => h) (Or.inl ⟨by rfl, ?y1⟩) (by assumption) ?r1
        case y1 => intro w hSw; (try dsimp only at hSw); go_simp; (try with_reducible rfl)
        (try simp only [Act.put, List.setIfInBounds_toArray, List.set_cons_zero, List.set_cons_succ, List.getElem_toArray, List.getElem_cons_zero, List.getElem_cons_succ])
        refine wpAnyH_take (i := 2) (v := ?v2) rfl (by kernel_rfl) (by kernel_rfl) (by kernel_rfl) (fun _ _ _ h => h) (Or.inl ⟨by rfl, ?y2⟩) (by assumption) ?r2
        case y2 => intro w hSw; (try dsimp only at hSw); go_simp; (try with_reducible rfl)
        (try simp only [Act.put, List.setIfInBounds_toArray, List.set_cons_zero, List.set_cons_succ, List.getElem_toArray, List.getElem_cons_zero, List.getElem_cons_succ])
        refine wpAnyH_take (i := 3) (v := ?v3) rfl (by kernel_rfl) (by kernel_rfl) (by kernel_rfl) (fun _ _ _ h => h) (Or.inl ⟨by rfl, ?y3⟩) (by assumption) ?r3
        case y3 => intro w hSw; (try dsimp only at hSw); go_simp; (try with_reducible rfl)
        (try simp only [Act.put, List.setIfInBounds_toArray, List.set_cons_zero, List.set_cons_succ, List.getElem_toArray, List.getElem_cons_zero, List.getElem_cons_succ])
        refine wpAnyH_take (i := 4) (v := ?v4) rfl (by kernel_rfl) (by kernel_rfl) (by kernel_rfl) (fun _ _ _ h => h) (Or.inl ⟨by rfl, ?y4⟩) (by assumption) ?r4
        case y4 => intro w hSw; (try dsimp only at hSw); go_simp; (try with_reducible rfl)
        (try simp only [Act.put, List.setIfInBounds_toArray, List.set_cons_zero, List.set_cons_succ, List.getElem_toArray, List.getElem_cons_zero, List.getElem_cons_succ])
        refine wpAnyH_take (i := 5) (v := ?v5) rfl (by kernel_rfl) (by kernel_rfl) (by kernel_rfl) (fun _ _ _ h => h) (Or.inl ⟨by rfl, ?y5⟩) (by assumption) ?r5
        case y5 => intro w hSw; (try dsimp only at hSw); go_simp; (try with_reducible rfl)
        (try simp only [Act.put, List.setIfInBounds_toArray, List.set_cons_zero, List.set_cons_succ, List.getElem_toArray, List.getElem_cons_zero, List.getElem_cons_succ])
        refine wpAnyH_take (i := 6) (v := ?v6) rfl (by kernel_rfl) (by kernel_rfl) (by kernel_rfl) (fun _ _ _ h => h) (Or.inl ⟨by rfl, ?y6⟩) (by assumption) ?r6
        case y6 => intro w hSw; (try dsimp only at hSw); go_simp; (try with_reducible rfl)
        (try simp only [Act.put, List.setIfInBounds_toArray, List.set_cons_zero, List.set_cons_succ, List.getElem_toArray, List.getElem_cons_zero, List.getElem_cons_succ])
        refine wpAnyH_take (i := 7) (v := ?v7) rfl (by kernel_rfl) (by kernel_rfl) (by kernel_rfl) (fun _ _ _ h => h) (Or.inl ⟨by rfl, ?y7⟩) (by assumption) ?r7
        case y7 => intro w hSw; (try dsimp only at hSw); go_simp; (try with_reducible rfl)
        (try simp only [Act.put, List.setIfInBounds_toArray, List.set_cons_zero, List.set_cons_succ, List.getElem_toArray, List.getElem_cons_zero, List.getElem_cons_succ])
        refine wpAnyH_take (i := 9) (v := ?v8) rfl (by kernel_rfl) (by kernel_rfl) (by kernel_rfl) (fun _ _ _ h => h) (Or.inl ⟨by rfl, ?y8⟩) (by assumption) ?r8
        case y8 => intro w hSw; (try dsimp only at hSw); go_simp; (try with_reducible rfl)
        (try simp only [Act.put, List.setIfInBounds_toArray, List.set_cons_zero, List.set_cons_succ, List.getElem_toArray, List.getElem_cons_zero, List.getElem_cons_succ])
        refine wpAnyH_take (i := 10) (v := ?v9) rfl (by kernel_rfl) (by kernel_rfl) (by kernel_rfl) (fun _ _ _ h => h) (Or.inl ⟨by rfl, ?y9⟩) (by assumption) ?r9
        case y9 => intro w hSw; (try dsimp only at hSw); go_simp; (try with_reducible rfl)
        (try simp only [Act.put, List.setIfInBounds_toArray, List.set_cons_zero, List.set_cons_succ, List.getElem_toArray, List.getElem_cons_zero, List.getElem_cons_succ])
        refine wpAnyH_take (i := 11) (v := ?v10) rfl (by kernel_rfl) (by kernel_rfl) (by kernel_rfl) (fun _ _ _ h => h) (Or.inl ⟨by rfl, ?y10⟩) (by assumption) ?r10
        case y10 => intro w hSw; (try dsimp only at hSw); go_simp; (try with_reducible rfl)
        (try simp only [Act.put, List.setIfInBounds_toArray, List.set_cons_zero, List.set_cons_succ, List.getElem_toArray, List.getElem_cons_zero, List.getElem_cons_succ])
        refine wpAnyH_take (i := 14) (v := ?v11) rfl (by kernel_rfl) (by kernel_rfl) (by kernel_rfl) (fun _ _ _ h => h) (Or.inl ⟨by rfl, ?y11⟩) (by assumption) ?r11
        case y11 => intro w hSw; (try dsimp only at hSw); go_simp; (try with_reducible rfl)
        (try simp only [Act.put, List.setIfInBounds_toArray, List.set_cons_zero, List.set_cons_succ, List.getElem_toArray, List.getElem_cons_zero, List.getElem_cons_succ])
        refine wpAnyH_take (i := 15) (v := ?v12) rfl (by kernel_rfl) (by kernel_rfl) (by kernel_rfl) (fun _ _ _ h => h) (Or.inl ⟨by rfl, ?y12⟩) (by assumption) ?r12
        case y12 => intro w hSw; (try dsimp only at hSw); go_simp; (try with_reducible rfl)
        (try simp only [Act.put, List.setIfInBounds_toArray, List.set_cons_zero, List.set_cons_succ, List.getElem_toArray, List.getElem_cons_zero, List.getElem_cons_succ])
        refine wpAnyH_take (i := 16) (v := ?v13) rfl (by kernel_rfl) (by kernel_rfl) (by kernel_rfl) (fun _ _ _ h => h) (Or.inl ⟨by rfl, ?y13⟩) (by assumption) ?r13
        case y13 => intro w hSw; (try dsimp only at hSw); go_simp; (try with_reducible rfl)
        (try simp only [Act.put, List.setIfInBounds_toArray, List.set_cons_zero, List.set_cons_succ, List.getElem_toArray, List.getElem_cons_zero, List.getElem_cons_succ])
        refine wpAnyH_take (i := 17) (v := ?v14) rfl (by kernel_rfl) (by kernel_rfl) (by kernel_rfl) (fun _ _ _ h => h) (Or.inl ⟨by rfl, ?y14⟩) (by assumption) ?r14
        case y14 => intro w hSw; (try dsimp only at hSw); go_simp; (try with_reducible rfl)
        (try simp only [Act.put, List.setIfInBounds_toArray, List.set_cons_zero, List.set_cons_succ, List.getElem_toArray, List.getElem_cons_zero, List.getElem_cons_succ])
        refine wpAnyH_take (i := 18) (v := ?v15) rfl (by kernel_rfl) (by kernel_rfl) (by kernel_rfl) (fun _ _ _ h => h) (Or.inl ⟨by rfl, ?y15⟩) (by assumption) ?r15
        case y15 => intro w hSw; (try dsimp only at hSw); go_simp; (try with_reducible rfl)
        (try simp only [Act.put, List.setIfInBounds_toArray, List.set_cons_zero, List.set_cons_succ, List.getElem_toArray, List.getElem_cons_zero, List.getElem_cons_succ])
        refine wpAnyH_take (i := 19) (v := ?v16) rfl (by kernel_rfl) (by kernel_rfl) (by kernel_rfl) (fun _ _ _ h => h) (Or.inl ⟨by rfl, ?y16⟩) (by assumption) ?r16
        case y16 => intro w hSw; (try dsimp only at hSw); go_simp; (try with_reducible rfl)
        (try simp only [Act.put, List.setIfInBounds_toArray, List.set_cons_zero, List.set_cons_succ, List.getElem_toArray, List.getElem_cons_zero, List.getElem_cons_succ])
        refine wpAnyH_ready (rs := [1, 12]) (by kernel_rfl) (by simp) ?_
        refine AllReadyH.cons rfl (fun K hK => ?_) (AllReadyH.cons rfl (fun K hK => ?_) (AllReadyH.nil))
        · skip
          have e1 : Ext wc (wc.alloc (.cells #[] 107)).drew := Ext.trans (Ext.alloc _ _) (Ext.drew _)
          go_simp
          refine hK.out _ _ ?s17 (fun hHeld => ?k17)
          case s17 => ((try dsimp only); (refine keep3 C1 F1 ?_; first | exact Ext.drew _ | exact e1 | exact e1b | exact e2 | exact e3 | exact e4 | exact e5))
          clear hK K
          (try simp only [Act.put, List.setIfInBounds_toArray, List.set_cons_zero, List.set_cons_succ, List.getElem_toArray, List.getElem_cons_zero, List.getElem_cons_succ])
          refine wpAnyH_ready (rs := [8, 12]) (by kernel_rfl) (by simp) ?_
          refine AllReadyH.cons rfl (fun K hK => ?_) (AllReadyH.cons rfl (fun K hK => ?_) (AllReadyH.nil))
          · skip
            refine step_append_pairs (by rfl) _ _ (by rfl) wc.heap.size _ u1 [] (R.take jj) (by rfl) (empty_at (heap_alloc_new wc _) (Nat.le_refl _)) (by rfl) (HP1.out _ (HRC.out.ext e1).regs) (by rw [List.length_take, List.length_nil]; omega) e1.size ?_
            intro v1 w1 hown1 hgrow1
            have e2 : Ext wc w1 := ext_grown e1 hgrow1 (by intro b hb; simp [Value.ownBlock] at hb; omega)
            refine hK.out _ _ ?s18 (fun hHeld => ?k18)
            case s18 => ((try dsimp only); (refine keep3 C1 F1 ?_; first | exact Ext.drew _ | exact e1 | exact e1b | exact e2 | exact e3 | exact e4 | exact e5))
            clear hK K
            (try simp only [Act.put, List.setIfInBounds_toArray, List.set_cons_zero, List.set_cons_succ, List.getElem_toArray, List.getElem_cons_zero, List.getElem_cons_succ])
            refine wpAnyH_ready (rs := [12]) (by kernel_rfl) (by simp) ?_
            refine AllReadyH.cons rfl (fun K hK => ?_) AllReadyH.nil
            have e3 : Ext wc (w1.alloc (.cells #[.int .i64 aa, .int .i64 k] 107)) := Ext.trans e2 (Ext.alloc _ _)
            go_simp
            refine hK.out _ _ ?s19 (fun hHeld => ?k19)
            case s19 => ((try dsimp only); (refine keep3 C1 F1 ?_; first | exact Ext.drew _ | exact e1 | exact e1b | exact e2 | exact e3 | exact e4 | exact e5))
            clear hK K
            (try simp only [Act.put, List.setIfInBounds_toArray, List.set_cons_zero, List.set_cons_succ, List.getElem_toArray, List.getElem_cons_zero, List.getElem_cons_succ])
            refine wpAnyH_ready (rs := [13]) (by kernel_rfl) (by simp) ?_
            refine AllReadyH.cons rfl (fun K hK => ?_) AllReadyH.nil
            refine step_append_pairs (by rfl) _ _ (by rfl) wc.heap.size _ _ _ [(aa, k)] (by rfl) (PairRow.alloc hown1 _) (by rfl) (pair_at (heap_alloc_new w1 _)) (by simp; omega) e3.size ?_
            intro v2 w2 hown2 hgrow2
            have e4 : Ext wc w2 := ext_grown e3 hgrow2 hown1.own
            refine hK.out _ _ ?s20 (fun hHeld => ?k20)
            case s20 => ((try dsimp only); (refine keep3 C1 F1 ?_; first | exact Ext.drew _ | exact e1 | exact e1b | exact e2 | exact e3 | exact e4 | exact e5))
            clear hK K
            (try simp only [Act.put, List.setIfInBounds_toArray, List.set_cons_zero, List.set_cons_succ, List.getElem_toArray, List.getElem_cons_zero, List.getElem_cons_succ])
            refine wpAnyH_ready (rs := [20]) (by kernel_rfl) (by simp) ?_
            refine AllReadyH.cons rfl (fun K hK => ?_) AllReadyH.nil
            refine step_append_pairs (by rfl) _ _ (by rfl) wc.heap.size _ u2 _ (R.drop jj) (by rfl) hown2 (by rfl) (HP2.out _ (HRC.out.ext e4).regs) (by simp; omega) e4.size ?_
            intro v3 w3 hown3 hgrow3
            have e5 : Ext wc w3 := ext_grown e4 hgrow3 hown2.own
            refine hK.out _ _ ?s21 (fun hHeld => ?k21)
            case s21 => ((try dsimp only); (refine keep3 C1 F1 ?_; first | exact Ext.drew _ | exact e1 | exact e1b | exact e2 | exact e3 | exact e4 | exact e5))
            clear hK K
            (try simp only [Act.put, List.setIfInBounds_toArray, List.set_cons_zero, List.set_cons_succ, List.getElem_toArray, List.getElem_cons_zero, List.getElem_cons_succ])
            refine wpAnyH_take (i := 21) (v := ?v22) rfl (by kernel_rfl) (by kernel_rfl) (by kernel_rfl) (fun _ _ _ h => h) (Or.inl ⟨by rfl, ?y22⟩) (by assumption) ?r22
            case y22 => intro w hSw; (try dsimp only at hSw); go_simp; (try with_reducible rfl)
            (try simp only [Act.put, List.setIfInBounds_toArray, List.set_cons_zero, List.set_cons_succ, List.getElem_toArray, List.getElem_cons_zero, List.getElem_cons_succ])
            refine wpAnyH_take (i := 22) (v := ?v23) rfl (by kernel_rfl) (by kernel_rfl) (by kernel_rfl) (fun _ _ _ h => h) (Or.inl ⟨by rfl, ?y23⟩) (by assumption) ?r23
            case y23 => intro w hSw; (try dsimp only at hSw); go_simp; (try with_reducible rfl)
            (try simp only [Act.put, List.setIfInBounds_toArray, List.set_cons_zero, List.set_cons_succ, List.getElem_toArray, List.getElem_cons_zero, List.getElem_cons_succ])
            refine wpAnyH_done (by kernel_rfl) ?_ _
            show wpList _ _ _ _ _ _
            have hc3 := e5.cell C1
            have hf3 := (e5.frozen C1).trans F1
            have HR3 := Lib.hid (show PairRow w3 wc.heap.size v3 (ins (aa, k) R) by rw [HIN.out]; simpa using hown3)
            have HE5 := Lib.hid e5
            obtain ⟨q3, n3, c3, hv3⟩ : ∃ q n c, v3 = .slice q n c := by obtain ⟨q3, c3, h, _⟩ := hown3.nilOr; exact ⟨q3, _, c3, h⟩
            subst hv3
            clear hown3
            go_wp2
            refine NoPanic.normal ?_
            go_wp2
            go_meet
            exact ⟨_, HRC.out.newRegs HE5.out hBc HR3.out (good_ins (by simpa using hk) (by simpa using hfit) HG.out (by rw [← HSC.out]; exact scan_free HG.out)), (Turn.of_ext HE5.out).setCell (.inl (by simp)) _⟩
          · skip
            have e1b : Ext wc ((wc.alloc (.cells #[] 107)).alloc (.cells #[.int .i64 aa, .int .i64 k] 107)).drew := Ext.trans (Ext.trans (Ext.alloc _ _) (Ext.alloc _ _)) (Ext.drew _)
            go_simp
            refine hK.out _ _ ?s24 (fun hHeld => ?k24)
            case s24 => ((try dsimp only); (refine keep3 C1 F1 ?_; first | exact Ext.drew _ | exact e1 | exact e1b | exact e2 | exact e3 | exact e4 | exact e5))
            clear hK K
            (try simp only [Act.put, List.setIfInBounds_toArray, List.set_cons_zero, List.set_cons_succ, List.getElem_toArray, List.getElem_cons_zero, List.getElem_cons_succ])
            refine wpAnyH_ready (rs := [8]) (by kernel_rfl) (by simp) ?_
            refine AllReadyH.cons rfl (fun K hK => ?_) AllReadyH.nil
            refine step_append_pairs (by rfl) _ _ (by rfl) wc.heap.size _ u1 [] (R.take jj) (by rfl) (PairRow.alloc (w := wc.alloc (.cells #[] 107)) (empty_at (heap_alloc_new wc _) (Nat.le_refl _)) _) (by rfl) (HP1.out _ (HRC.out.ext e1b).regs) (by rw [List.length_take, List.length_nil]; omega) e1b.size ?_
            intro v1 w1 hown1 hgrow1
            have e2 : Ext wc w1 := ext_grown e1b hgrow1 (by intro b hb; simp [Value.ownBlock] at hb; omega)
            have hpb : w1.heap[wc.heap.size + 1]? = some (.cells #[.int .i64 aa, .int .i64 k] 107) := by
              rw [hgrow1.block (wc.heap.size + 1) (by simp) (by simp [Value.ownBlock])]
              have h3 := heap_alloc_new (wc.alloc (.cells #[] 107)) (.cells #[.int .i64 aa, .int .i64 k] 107)
              rw [show (wc.alloc (.cells #[] 107)).heap.size = wc.heap.size + 1 by simp] at h3
              exact h3
            refine hK.out _ _ ?s25 (fun hHeld => ?k25)
            case s25 => ((try dsimp only); (refine keep3 C1 F1 ?_; first | exact Ext.drew _ | exact e1 | exact e1b | exact e2 | exact e3 | exact e4 | exact e5))
            clear hK K
            (try simp only [Act.put, List.setIfInBounds_toArray, List.set_cons_zero, List.set_cons_succ, List.getElem_toArray, List.getElem_cons_zero, List.getElem_cons_succ])
            refine wpAnyH_ready (rs := [13]) (by kernel_rfl) (by simp) ?_
            refine AllReadyH.cons rfl (fun K hK => ?_) AllReadyH.nil
            refine step_append_pairs (by rfl) _ _ (by rfl) wc.heap.size _ _ _ [(aa, k)] (by rfl) hown1 (by rfl) (pair_at hpb) (by simp; omega) e2.size ?_
            intro v2 w2 hown2 hgrow2
            have e4 : Ext wc w2 := ext_grown e2 hgrow2 hown1.own
            refine hK.out _ _ ?s26 (fun hHeld => ?k26)
            case s26 => ((try dsimp only); (refine keep3 C1 F1 ?_; first | exact Ext.drew _ | exact e1 | exact e1b | exact e2 | exact e3 | exact e4 | exact e5))
            clear hK K
            (try simp only [Act.put, List.setIfInBounds_toArray, List.set_cons_zero, List.set_cons_succ, List.getElem_toArray, List.getElem_cons_zero, List.getElem_cons_succ])
            refine wpAnyH_ready (rs := [20]) (by kernel_rfl) (by simp) ?_
            refine AllReadyH.cons rfl (fun K hK => ?_) AllReadyH.nil
            refine step_append_pairs (by rfl) _ _ (by rfl) wc.heap.size _ u2 _ (R.drop jj) (by rfl) hown2 (by rfl) (HP2.out _ (HRC.out.ext e4).regs) (by simp; omega) e4.size ?_
            intro v3 w3 hown3 hgrow3
            have e5 : Ext wc w3 := ext_grown e4 hgrow3 hown2.own
            refine hK.out _ _ ?s27 (fun hHeld => ?k27)
            case s27 => ((try dsimp only); (refine keep3 C1 F1 ?_; first | exact Ext.drew _ | exact e1 | exact e1b | exact e2 | exact e3 | exact e4 | exact e5))
            clear hK K
            (try simp only [Act.put, List.setIfInBounds_toArray, List.set_cons_zero, List.set_cons_succ, List.getElem_toArray, List.getElem_cons_zero, List.getElem_cons_succ])
            refine wpAnyH_take (i := 21) (v := ?v28) rfl (by kernel_rfl) (by kernel_rfl) (by kernel_rfl) (fun _ _ _ h => h) (Or.inl ⟨by rfl, ?y28⟩) (by assumption) ?r28
            case y28 => intro w hSw; (try dsimp only at hSw); go_simp; (try with_reducible rfl)
            (try simp only [Act.put, List.setIfInBounds_toArray, List.set_cons_zero, List.set_cons_succ, List.getElem_toArray, List.getElem_cons_zero, List.getElem_cons_succ])
            refine wpAnyH_take (i := 22) (v := ?v29) rfl (by kernel_rfl) (by kernel_rfl) (by kernel_rfl) (fun _ _ _ h => h) (Or.inl ⟨by rfl, ?y29⟩) (by assumption) ?r29
            case y29 => intro w hSw; (try dsimp only at hSw); go_simp; (try with_reducible rfl)
            (try simp only [Act.put, List.setIfInBounds_toArray, List.set_cons_zero, List.set_cons_succ, List.getElem_toArray, List.getElem_cons_zero, List.getElem_cons_succ])
            refine wpAnyH_done (by kernel_rfl) ?_ _
            show wpList _ _ _ _ _ _
            have hc3 := e5.cell C1
            have hf3 := (e5.frozen C1).trans F1
            have HR3 := Lib.hid (show PairRow w3 wc.heap.size v3 (ins (aa, k) R) by rw [HIN.out]; simpa using hown3)
            have HE5 := Lib.hid e5
            obtain ⟨q3, n3, c3, hv3⟩ : ∃ q n c, v3 = .slice q n c := by obtain ⟨q3, c3, h, _⟩ := hown3.nilOr; exact ⟨q3, _, c3, h⟩
            subst hv3
            clear hown3
            go_wp2
            refine NoPanic.normal ?_
            go_wp2
            go_meet
            exact ⟨_, HRC.out.newRegs HE5.out hBc HR3.out (good_ins (by simpa using hk) (by simpa using hfit) HG.out (by rw [← HSC.out]; exact scan_free HG.out)), (Turn.of_ext HE5.out).setCell (.inl (by simp)) _⟩
        · skip
          have e1 : Ext wc (wc.alloc (.cells #[.int .i64 aa, .int .i64 k] 107)).drew := Ext.trans (Ext.alloc _ _) (Ext.drew _)
          go_simp
          refine hK.out _ _ ?s30 (fun hHeld => ?k30)
          case s30 => ((try dsimp only); (refine keep3 C1 F1 ?_; first | exact Ext.drew _ | exact e1 | exact e1b | exact e2 | exact e3 | exact e4 | exact e5))
          clear hK K
          (try simp only [Act.put, List.setIfInBounds_toArray, List.set_cons_zero, List.set_cons_succ, List.getElem_toArray, List.getElem_cons_zero, List.getElem_cons_succ])
          refine wpAnyH_ready (rs := [1]) (by kernel_rfl) (by simp) ?_
          refine AllReadyH.cons rfl (fun K hK => ?_) AllReadyH.nil
          have e1b : Ext wc ((wc.alloc (.cells #[.int .i64 aa, .int .i64 k] 107)).alloc (.cells #[] 107)).drew := Ext.trans (Ext.trans (Ext.alloc _ _) (Ext.alloc _ _)) (Ext.drew _)
          go_simp
          refine hK.out _ _ ?s31 (fun hHeld => ?k31)
          case s31 => ((try dsimp only); (refine keep3 C1 F1 ?_; first | exact Ext.drew _ | exact e1 | exact e1b | exact e2 | exact e3 | exact e4 | exact e5))
          clear hK K
          (try simp only [Act.put, List.setIfInBounds_toArray, List.set_cons_zero, List.set_cons_succ, List.getElem_toArray, List.getElem_cons_zero, List.getElem_cons_succ])
          refine wpAnyH_ready (rs := [8]) (by kernel_rfl) (by simp) ?_
          refine AllReadyH.cons rfl (fun K hK => ?_) AllReadyH.nil
          have hnew : (wc.alloc (.cells #[.int .i64 aa, .int .i64 k] 107)).heap.size = wc.heap.size + 1 := by simp
          refine step_append_pairs (by rfl) _ _ (by rfl) wc.heap.size _ u1 [] (R.take jj) (by rfl) (empty_at (b := wc.heap.size + 1) (by have := heap_alloc_new (wc.alloc (.cells #[.int .i64 aa, .int .i64 k] 107)) (.cells #[] 107); rw [hnew] at this; exact this) (by omega)) (by rfl) (HP1.out _ (HRC.out.ext e1b).regs) (by rw [List.length_take, List.length_nil]; omega) e1b.size ?_
          intro v1 w1 hown1 hgrow1
          have e2 : Ext wc w1 := ext_grown e1b hgrow1 (by intro b hb; simp [Value.ownBlock] at hb; omega)
          have hpb : w1.heap[wc.heap.size]? = some (.cells #[.int .i64 aa, .int .i64 k] 107) := by
            rw [hgrow1.block wc.heap.size (by simp; omega) (by simp [Value.ownBlock])]
            have h2 := Below.block (Below.alloc (B := wc.heap.size + 1) (Below.refl _ (wc.alloc (.cells #[.int .i64 aa, .int .i64 k] 107))) (by simp) (.cells #[] 107)) wc.heap.size (by omega)
            exact h2.trans (heap_alloc_new wc _)
          refine hK.out _ _ ?s32 (fun hHeld => ?k32)
          case s32 => ((try dsimp only); (refine keep3 C1 F1 ?_; first | exact Ext.drew _ | exact e1 | exact e1b | exact e2 | exact e3 | exact e4 | exact e5))
          clear hK K
          (try simp only [Act.put, List.setIfInBounds_toArray, List.set_cons_zero, List.set_cons_succ, List.getElem_toArray, List.getElem_cons_zero, List.getElem_cons_succ])
          refine wpAnyH_ready (rs := [13]) (by kernel_rfl) (by simp) ?_
          refine AllReadyH.cons rfl (fun K hK => ?_) AllReadyH.nil
          refine step_append_pairs (by rfl) _ _ (by rfl) wc.heap.size _ _ _ [(aa, k)] (by rfl) hown1 (by rfl) (pair_at hpb) (by simp; omega) e2.size ?_
          intro v2 w2 hown2 hgrow2
          have e4 : Ext wc w2 := ext_grown e2 hgrow2 hown1.own
          refine hK.out _ _ ?s33 (fun hHeld => ?k33)
          case s33 => ((try dsimp only); (refine keep3 C1 F1 ?_; first | exact Ext.drew _ | exact e1 | exact e1b | exact e2 | exact e3 | exact e4 | exact e5))
          clear hK K
          (try simp only [Act.put, List.setIfInBounds_toArray, List.set_cons_zero, List.set_cons_succ, List.getElem_toArray, List.getElem_cons_zero, List.getElem_cons_succ])
          refine wpAnyH_ready (rs := [20]) (by kernel_rfl) (by simp) ?_
          refine AllReadyH.cons rfl (fun K hK => ?_) AllReadyH.nil
          refine step_append_pairs (by rfl) _ _ (by rfl) wc.heap.size _ u2 _ (R.drop jj) (by rfl) hown2 (by rfl) (HP2.out _ (HRC.out.ext e4).regs) (by simp; omega) e4.size ?_
          intro v3 w3 hown3 hgrow3
          have e5 : Ext wc w3 := ext_grown e4 hgrow3 hown2.own
          refine hK.out _ _ ?s34 (fun hHeld => ?k34)
          case s34 => ((try dsimp only); (refine keep3 C1 F1 ?_; first | exact Ext.drew _ | exact e1 | exact e1b | exact e2 | exact e3 | exact e4 | exact e5))
          clear hK K
          (try simp only [Act.put, List.setIfInBounds_toArray, List.set_cons_zero, List.set_cons_succ, List.getElem_toArray, List.getElem_cons_zero, List.getElem_cons_succ])
          refine wpAnyH_take (i := 21) (v := ?v35) rfl (by kernel_rfl) (by kernel_rfl) (by kernel_rfl) (fun _ _ _ h => h) (Or.inl ⟨by rfl, ?y35⟩) (by assumption) ?r35
          case y35 => intro w hSw; (try dsimp only at hSw); go_simp; (try with_reducible rfl)
          (try simp only [Act.put, List.setIfInBounds_toArray, List.set_cons_zero, List.set_cons_succ, List.getElem_toArray, List.getElem_cons_zero, List.getElem_cons_succ])
          refine wpAnyH_take (i := 22) (v := ?v36) rfl (by kernel_rfl) (by kernel_rfl) (by kernel_rfl) (fun _ _ _ h => h) (Or.inl ⟨by rfl, ?y36⟩) (by assumption) ?r36
          case y36 => intro w hSw; (try dsimp only at hSw); go_simp; (try with_reducible rfl)
          (try simp only [Act.put, List.setIfInBounds_toArray, List.set_cons_zero, List.set_cons_succ, List.getElem_toArray, List.getElem_cons_zero, List.getElem_cons_succ])
          refine wpAnyH_done (by kernel_rfl) ?_ _
          show wpList _ _ _ _ _ _
          have hc3 := e5.cell C1
          have hf3 := (e5.frozen C1).trans F1
          have HR3 := Lib.hid (show PairRow w3 wc.heap.size v3 (ins (aa, k) R) by rw [HIN.out]; simpa using hown3)
          have HE5 := Lib.hid e5
          obtain ⟨q3, n3, c3, hv3⟩ : ∃ q n c, v3 = .slice q n c := by obtain ⟨q3, c3, h, _⟩ := hown3.nilOr; exact ⟨q3, _, c3, h⟩
          subst hv3
          clear hown3
          go_wp2
          refine NoPanic.normal ?_
          go_wp2
          go_meet
          exact ⟨_, HRC.out.newRegs HE5.out hBc HR3.out (good_ins (by simpa using hk) (by simpa using hfit) HG.out (by rw [← HSC.out]; exact scan_free HG.out)), (Turn.of_ext HE5.out).setCell (.inl (by simp)) _⟩
      case rest =>
        obtain ⟨v, hR, hT⟩ := hcut
        have HR := Lib.hid hR; have HT := Lib.hid hT
        have hl0 := hR.len
        clear hR hT
        have HT2 := Lib.hid ((Turn.of_ext (bs := [q]) HX.out).trans HT.out)
        go_wp2_with fail
        go_loopw [7] (fun i wx => ∃ ii : Nat, ii ≤ k ∧ i = .int .i64 ii ∧ RefAt wx q gq B n (setMany ws aa (List.replicate ii 0)) v (ins (aa, k) R) ∧ Turn [gq] wc wx) (fun i _ => k - (Go.RowKit.intOf i).toNat)
        case atStart => exact ⟨0, by omega, rfl, HR.out, Turn.refl _ _⟩
        case round =>
          obtain ⟨ii, hii, rfl, hR2, hT2⟩ := hrel
          have HR2 := Lib.hid hR2; have HT3 := Lib.hid hT2
          clear hR2 hT2
          by_cases hil : ii < k
          · obtain ⟨d0, d1, _⟩ := HR2.out.cells
            obtain ⟨k0, k1⟩ := HR2.out.word (i := aa + ii) (by omega)
            have i1 : (ii : Int) < (k : Int) := by omega
            have HST := Lib.hid (HR2.out.store (aa + ii) 0)
            have hmk : (setMany ws aa (List.replicate ii 0)).set (aa + ii) 0 = setMany ws aa (List.replicate (ii + 1) 0) := by
              rw [List.replicate_succ', setMany_snoc, List.length_replicate]
            rw [hmk] at HST
            generalize (setMany ws aa (List.replicate ii 0)).getD (aa + ii) 0 = u at *
            clear hmk
            go_wp2_with fail
            exact ⟨⟨ii + 1, by omega, by go_num, HST.out, HT3.out.trans ((Turn.refl _ _).setCell (.inl (by simp)) _)⟩, by simp [Go.RowKit.intOf]; omega⟩
          · obtain rfl : ii = k := by omega
            go_wp2_with fail
            go_ret
            refine .inl ⟨by rw [HSC.out]; exact hfit, by rw [HSC.out]; rfl, ⟨v, by rw [HSC.out]; exact HR2.out⟩, (HT2.out.mono (by simp)).trans (HT3.out.mono (by simp))⟩
    · have t1 : decide ((n : Int) - (aa : Int) < (k : Int)) = true := decide_eq_true (by omega)
      go_wp2_with fail
      go_ret
      exact .inr ⟨by rw [HSC.out]; exact hfit, rfl, HX.out⟩
end Go.Proofs.YtinakendlpomnaaGreat
/- The arena's and the reference's calls, each answer as one function of the regions and words. -/
namespace Go.Proofs.YtinakendlpomnaaGreat
open Go.RowKit Go.Maps Arena
set_option maxHeartbeats 4000000
set_option maxRecDepth 100000
theorem drop_none {R : List (Nat × Nat)} {x : Int} (h : ∀ r ∈ R, (r.1 : Int) ≠ x) : Arena.drop x R = R := by
  unfold Arena.drop
  refine List.filter_eq_self.2 fun r hr => ?_
  have := h r hr
  simp [this]
theorem lenAt_some' {n : Nat} {R : List (Nat × Nat)} {x : Int} (_hg : Arena.Good n R) (h : ¬ lenAt R x = 0) : ∃ (i : Nat) (hi : i < R.length), (R[i].1 : Int) = x ∧ lenAt R x = R[i].2 := by
  obtain ⟨r, hr, h1, h2⟩ := lenAt_some h
  obtain ⟨i, hi, rfl⟩ := List.getElem_of_mem hr
  exact ⟨i, hi, h1, h2⟩
def freeB (R : List (Nat × Nat)) (x : Int) : Bool := !decide (lenAt R x = 0)
/-- whether a place is within the region that begins at x -/
def within (R : List (Nat × Nat)) (x a : Int) : Bool := decide (0 ≤ a ∧ a < lenAt R x)
def setWs (ws : List Int) (R : List (Nat × Nat)) (x a v : Int) : List Int := if within R x a then ws.set (x + a).toNat v else ws
def getW (ws : List Int) (R : List (Nat × Nat)) (x a : Int) : Int := if within R x a then ws.getD (x + a).toNat 0 else 0
def wordsAt (ws : List Int) (R : List (Nat × Nat)) (x : Int) : List Int := (ws.drop x.toNat).take (lenAt R x)
/-- a place, by where it stands -/
theorem place_cases {n : Nat} {R : List (Nat × Nat)} (hg : Arena.Good n R) (x a : Int) :
    (lenAt R x = 0 ∧ within R x a = false) ∨ (∃ (i : Nat) (hi : i < R.length), (R[i].1 : Int) = x ∧ lenAt R x = R[i].2 ∧ ((within R x a = false ∧ (a < 0 ∨ (R[i].2 : Int) ≤ a)) ∨ ∃ m : Nat, a = m ∧ m < R[i].2 ∧ within R x a = true)) := by
  by_cases h0 : lenAt R x = 0
  · exact .inl ⟨h0, by unfold within; rw [h0]; simp⟩
  · obtain ⟨i, hi, hx, hl⟩ := lenAt_some' hg h0
    refine .inr ⟨i, hi, hx, hl, ?_⟩
    by_cases ha : 0 ≤ a ∧ a < lenAt R x
    · obtain ⟨m, rfl⟩ := Int.eq_ofNat_of_zero_le ha.1
      exact .inr ⟨m, rfl, by rw [← hl]; omega, by unfold within; exact decide_eq_true ha⟩
    · refine .inl ⟨by unfold within; exact decide_eq_false ha, ?_⟩
      rw [← hl]; omega
theorem setA_said {w : World} {p g bm n : Nat} {ws : List Int} {R : List (Nat × Nat)} {x a v : Int} (h : ArenaAt w p g bm n ws R) (hw : (Lit.int .i64 x).wf = true) :
    Calls Tryz.prog 25 #[.pointer (some ⟨p, 0, none⟩), .int .i64 x, .int .i64 a, .int .u64 v] w fun e w' => e = .returned (.bool (within R x a)) ∧ ArenaAt w' p g bm n (setWs ws R x a v) R ∧ Turn [g] w w' := by
  rcases place_cases h.good x a with ⟨h0, hf⟩ | ⟨i, hi, rfl, hl, ⟨hf, ho⟩ | ⟨m, rfl, hm, hf⟩⟩
  · refine (set_no h hw h0).mono ?_
    rintro e w' ⟨rfl, rfl⟩
    exact ⟨by rw [hf], by simpa [setWs, hf] using h, Turn.refl _ _⟩
  · refine (set_out h (List.getElem_mem hi) ho).mono ?_
    rintro e w' ⟨rfl, rfl⟩
    exact ⟨by rw [hf], by simpa [setWs, hf] using h, Turn.refl _ _⟩
  · refine (set_yes h (List.getElem_mem hi) hm).mono ?_
    rintro e w' ⟨rfl, h1, h2⟩
    refine ⟨by rw [hf], ?_, h2⟩
    unfold setWs
    rw [if_pos hf, show ((R[i].1 : Int) + (m : Int)).toNat = R[i].1 + m by omega]
    exact h1
theorem setR_said {w : World} {q gq B n : Nat} {ws : List Int} {vR : Value} {R : List (Nat × Nat)} {x a v : Int} (h : RefAt w q gq B n ws vR R) :
    Calls Tryz.prog 26 #[.pointer (some ⟨q, 0, none⟩), .int .i64 x, .int .i64 a, .int .u64 v] w fun e w' => e = .returned (.bool (within R x a)) ∧ RefAt w' q gq B n (setWs ws R x a v) vR R ∧ Turn [gq] w w' := by
  rcases place_cases h.good x a with ⟨h0, hf⟩ | ⟨i, hi, rfl, hl, ⟨hf, ho⟩ | ⟨m, rfl, hm, hf⟩⟩
  · refine (refset_no h h0).mono ?_
    rintro e w' ⟨rfl, rfl⟩
    exact ⟨by rw [hf], by simpa [setWs, hf] using h, Turn.refl _ _⟩
  · refine (refset_out h (List.getElem_mem hi) ho).mono ?_
    rintro e w' ⟨rfl, rfl⟩
    exact ⟨by rw [hf], by simpa [setWs, hf] using h, Turn.refl _ _⟩
  · refine (refset_yes h (List.getElem_mem hi) hm).mono ?_
    rintro e w' ⟨rfl, h1, h2⟩
    refine ⟨by rw [hf], ?_, h2⟩
    unfold setWs
    rw [if_pos hf, show ((R[i].1 : Int) + (m : Int)).toNat = R[i].1 + m by omega]
    exact h1
theorem getA_said {w : World} {p g bm n : Nat} {ws : List Int} {R : List (Nat × Nat)} {x a : Int} (h : ArenaAt w p g bm n ws R) (hw : (Lit.int .i64 x).wf = true) :
    Calls Tryz.prog 75 #[.pointer (some ⟨p, 0, none⟩), .int .i64 x, .int .i64 a] w fun e w' => e = .returned (.tuple #[.int .u64 (getW ws R x a), .bool (within R x a)]) ∧ w = w' := by
  rcases place_cases h.good x a with ⟨h0, hf⟩ | ⟨i, hi, rfl, hl, ⟨hf, ho⟩ | ⟨m, rfl, hm, hf⟩⟩
  · refine (get_no h hw h0).mono ?_
    rintro e w' ⟨rfl, rfl⟩
    exact ⟨by simp [getW, hf], rfl⟩
  · refine (get_out h (List.getElem_mem hi) ho).mono ?_
    rintro e w' ⟨rfl, rfl⟩
    exact ⟨by simp [getW, hf], rfl⟩
  · refine (get_yes h (List.getElem_mem hi) hm).mono ?_
    rintro e w' ⟨rfl, rfl⟩
    refine ⟨?_, rfl⟩
    unfold getW
    rw [if_pos hf, hf, show ((R[i].1 : Int) + (m : Int)).toNat = R[i].1 + m by omega]
theorem wordSl_nil (w : World) : WordSl w (.slice none 0 0) [] := ⟨none, 0, rfl, Nat.le_refl _, Nat.zero_le _, fun i x h => by simp at h⟩
theorem wordsAt_zero {ws : List Int} {R : List (Nat × Nat)} {x : Int} (h0 : lenAt R x = 0) : wordsAt ws R x = [] := by unfold wordsAt; rw [h0]; simp
theorem wordsA_said {w : World} {p g bm n : Nat} {ws : List Int} {R : List (Nat × Nat)} {x : Int} (h : ArenaAt w p g bm n ws R) (hw : (Lit.int .i64 x).wf = true) :
    Calls Tryz.prog 20 #[.pointer (some ⟨p, 0, none⟩), .int .i64 x] w fun e w' => ∃ v, e = .returned (.tuple #[v, .bool (freeB R x)]) ∧ WordSl w' v (wordsAt ws R x) ∧ Ext w w' := by
  by_cases h0 : lenAt R x = 0
  · refine (words_no h hw h0).mono ?_
    rintro e w' ⟨rfl, rfl⟩
    exact ⟨.slice none 0 0, by simp [freeB, h0], by rw [wordsAt_zero h0]; exact wordSl_nil _, Ext.refl _⟩
  · obtain ⟨i, hi, rfl, hl⟩ := lenAt_some' h.good h0
    refine (words_yes h (List.getElem_mem hi)).mono ?_
    rintro e w' ⟨v, rfl, h1, h2⟩
    refine ⟨v, by simp [freeB, h0], ?_, h2⟩
    have hlen := wordsOf_length (ws := ws) h.good h.len (List.getElem_mem hi)
    have e1 : wordsAt ws R (R[i].1 : Int) = wordsOf ws R[i] := by
      unfold wordsAt wordsOf
      rw [hl]
      simp
    rw [e1]
    refine WordSl.of_row (l := wordsOf ws R[i]) (base := w.heap.size) ?_
    rw [hlen]
    exact h1
theorem wordsR_said {w : World} {q gq B n : Nat} {ws : List Int} {vR : Value} {R : List (Nat × Nat)} {x : Int} (h : RefAt w q gq B n ws vR R) :
    Calls Tryz.prog 32 #[.pointer (some ⟨q, 0, none⟩), .int .i64 x] w fun e w' => ∃ v, e = .returned v ∧ WordSl w v (wordsAt ws R x) ∧ w = w' := by
  by_cases h0 : lenAt R x = 0
  · refine (refwords_no h h0).mono ?_
    rintro e w' ⟨rfl, rfl⟩
    exact ⟨_, rfl, by rw [wordsAt_zero h0]; exact wordSl_nil _, rfl⟩
  · obtain ⟨i, hi, rfl, hl⟩ := lenAt_some' h.good h0
    refine (refwords_yes h (List.getElem_mem hi)).mono ?_
    rintro e w' ⟨rfl, rfl⟩
    refine ⟨_, rfl, ?_, rfl⟩
    have hlen := wordsOf_length (ws := ws) h.good h.len (List.getElem_mem hi)
    have hb := h.good.2 R[i] (List.getElem_mem hi)
    have hn := h.least
    have e1 : wordsAt ws R (R[i].1 : Int) = wordsOf ws R[i] := by
      unfold wordsAt wordsOf
      rw [hl]
      simp
    rw [e1]
    refine ⟨some ⟨gq, R[i].1, none⟩, n - R[i].1, by rw [hlen], by rw [hlen]; omega, by unfold maxLen; omega, fun j y hj => ⟨gq, R[i].1, rfl, ?_⟩⟩
    have hjl : j < (wordsOf ws R[i]).length := (List.getElem?_eq_some_iff.1 hj).1
    rw [hlen] at hjl
    rw [(h.word (i := R[i].1 + j) (by omega)).1]
    unfold wordsOf at hj
    rw [List.getElem?_take_of_lt hjl, List.getElem?_drop] at hj
    rw [List.getD_eq_getElem?_getD, hj]
    rfl
theorem sizeR_said {w : World} {q gq B n : Nat} {ws : List Int} {vR : Value} {R : List (Nat × Nat)} {x : Int} (h : RefAt w q gq B n ws vR R) :
    Calls Tryz.prog 48 #[.pointer (some ⟨q, 0, none⟩), .int .i64 x] w fun e w' => (∃ s : Int, e = .returned (.int .i64 s) ∧ decide (0 ≤ s) = freeB R x) ∧ w = w' := by
  by_cases h0 : lenAt R x = 0
  · refine (size_no h h0).mono ?_
    rintro e w' ⟨rfl, rfl⟩
    exact ⟨⟨-1, rfl, by simp [freeB, h0]⟩, rfl⟩
  · obtain ⟨i, hi, rfl, hl⟩ := lenAt_some' h.good h0
    refine (size_yes h (List.getElem_mem hi)).mono ?_
    rintro e w' ⟨rfl, rfl⟩
    exact ⟨⟨_, rfl, by simp [freeB, h0]⟩, rfl⟩
end Go.Proofs.YtinakendlpomnaaGreat
