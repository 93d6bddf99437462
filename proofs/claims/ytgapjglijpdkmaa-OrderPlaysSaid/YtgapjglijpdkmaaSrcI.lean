/- Pairs appended to pairs: what an append may take them from. -/
import Derived.Test.YtgapjglijpdkmaaPairsI
import Derived.Deep.RegionHeld3
import Derived.Deep.AppendLies
import Derived.Deep.DrawnRows
import Derived.Maps.AppendAt
namespace Go.Proofs.Ytgapjglijpdkmaa
open Go.RowKit Go.Maps
set_option maxHeartbeats 4000000
set_option maxRecDepth 100000
/-- what an append may take its elements from: a slice that reads as pairs, nil or at an address -/
def PairSrc (w : World) (u : Value) (L : List (Int × Int)) : Prop := PairSl w u L ∧ ((∃ ad m c, u = .slice (some ad) m c) ∨ u = .slice none 0 0)
theorem pairSl_take {w : World} {q : Option Addr} {c k : Nat} {R : List (Int × Int)} (h : PairSl w (.slice q R.length c) R) (hk : k ≤ R.length) : PairSl w (sliced q 0 k c 2) (R.take k) := by
  obtain ⟨q', c', he, h1, h2, hc⟩ := h
  obtain ⟨rfl, _, rfl⟩ := Value.slice.inj he
  have hl : (R.take k).length = k := by rw [List.length_take]; omega
  refine ⟨if c = 0 then q else q.map (·.add (0 * 2)), c, by unfold sliced; rw [hl, Nat.sub_zero, Nat.sub_zero], by omega, h2, fun i x hx => ?_⟩
  have hi : i < (R.take k).length := (List.getElem?_eq_some_iff.1 hx).1
  rw [List.getElem?_take_of_lt (by omega)] at hx
  obtain ⟨b, off, rfl, p0, p1⟩ := hc i x hx
  exact ⟨b, off, by split <;> simp [Addr.add], p0, p1⟩
theorem pairSl_drop {w : World} {q : Option Addr} {c k : Nat} {R : List (Int × Int)} (h : PairSl w (.slice q R.length c) R) (hk : k ≤ R.length) : PairSl w (sliced q k R.length c 2) (R.drop k) := by
  obtain ⟨q', c', he, h1, h2, hc⟩ := h
  obtain ⟨rfl, _, rfl⟩ := Value.slice.inj he
  have hl : (R.drop k).length = R.length - k := by rw [List.length_drop]
  refine ⟨if c = k then q else q.map (·.add (k * 2)), c - k, by unfold sliced; rw [hl], by omega, by omega, fun i x hx => ?_⟩
  have hi : i < (R.drop k).length := (List.getElem?_eq_some_iff.1 hx).1
  rw [List.getElem?_drop] at hx
  obtain ⟨b, off, rfl, p0, p1⟩ := hc (k + i) x hx
  refine ⟨b, off + k * 2, ?_, ?_, ?_⟩
  · rw [if_neg (by omega)]; simp [Addr.add]
  · rw [show off + k * 2 + i * 2 = off + (k + i) * 2 by omega]; exact p0
  · rw [show off + k * 2 + i * 2 + 1 = off + (k + i) * 2 + 1 by omega]; exact p1
theorem flat2_length (L : List (Int × Int)) : (L.flatMap pairC).length = L.length * 2 := by
  induction L with
  | nil => rfl
  | cons x L ih => rw [List.flatMap_cons, List.length_append, ih]; simp [pairC]; omega
theorem pair_elem : Try.prog.elem 26 = 35 := by kernel_rfl
theorem pair_size (w : World) : (sizeOf (Try.prog.elem 26)).run Try.prog w = .ok 2 w := by kernel_rfl
theorem src_of {w : World} {q : Option Addr} {n c l h m : Nat} {L : List (Int × Int)} (hv : (∃ ad, q = some ad) ∨ (q = none ∧ c = 0 ∧ n = 0)) (hh : h ≤ m) (hm : m ≤ c) (hs : PairSl w (sliced q l h m 2) L) : PairSrc w (sliced q l h m 2) L := by
  refine ⟨hs, ?_⟩
  rcases hv with ⟨ad, rfl⟩ | ⟨rfl, rfl, rfl⟩
  · left
    unfold sliced
    split
    · exact ⟨_, _, _, rfl⟩
    · exact ⟨_, _, _, rfl⟩
  · right
    obtain rfl : m = 0 := by omega
    obtain rfl : h = 0 := by omega
    unfold sliced
    simp
theorem PairRow.nilOr {w : World} {B : Nat} {v : Value} {R : List (Int × Int)} (h : PairRow w B v R) : ∃ q c, v = .slice q R.length c ∧ R.length ≤ c ∧ ((∃ ad, q = some ad) ∨ (q = none ∧ c = 0 ∧ R.length = 0)) := by
  rcases h.2 with ⟨h1, h2⟩ | ⟨b, c, cur, h1, hb, hg, h2, h3, h4, h5⟩
  · exact ⟨none, 0, by rw [h1, h2], by omega, .inr ⟨rfl, rfl, h2⟩⟩
  · exact ⟨_, c, h1, h2, .inl ⟨_, rfl⟩⟩
theorem head_src {w : World} {B k : Nat} {v : Value} {R : List (Int × Int)} (h : PairRow w B v R) (hk : k ≤ R.length) :
    ∃ u, (∀ W, (Instr.slice 26 v none (some (.int .i64 k)) none).run Try.prog W = .ok u W) ∧ ∀ W, PairRow W B v R → PairSrc W u (R.take k) := by
  obtain ⟨q, c, rfl, hc, hn⟩ := h.nilOr
  refine ⟨sliced q 0 k c 2, fun W => ?_, fun W hW => src_of hn (by omega) (Nat.le_refl _) (pairSl_take hW.sl hk)⟩
  rw [run_slice_h W 26 q R.length c (by rw [pair_elem]; exact Try.underlying26) .i64 k (by omega) (by omega), pair_size]
  simp
theorem tail_src {w : World} {B k : Nat} {v : Value} {R : List (Int × Int)} (h : PairRow w B v R) (hk : k ≤ R.length) :
    ∃ u, (∀ W, (Instr.slice 26 v (some (.int .i64 k)) none none).run Try.prog W = .ok u W) ∧ ∀ W, PairRow W B v R → PairSrc W u (R.drop k) := by
  obtain ⟨q, c, rfl, hc, hn⟩ := h.nilOr
  refine ⟨sliced q k R.length c 2, fun W => ?_, fun W hW => src_of hn (by omega) (Nat.le_refl _) (pairSl_drop hW.sl hk)⟩
  rw [run_slice_l W 26 q R.length c (by rw [pair_elem]; exact Try.underlying26) .i64 k (by omega) (by omega), pair_size]
  simp
/-- an append of pairs, wherever they lie, to a row of the call's own, at a step of a region that draws -/
theorem step_append_pairs {w : World} {ops : Array Oper} {o : Oper} {a : Act} {K : Act → World → Prop} {Q : Exit → Act → World → Prop} {E : Prop} (hgd : o.guard = none) (s x : Operand)
    (ho : o.op = .call { callee := .builtin .append, args := #[s, x], argTypes := #[26, 26] })
    (base : Nat) (v u : Value) (R L : List (Int × Int)) (hs : a.eval s = v) (hown : PairRow w base v R) (hx : a.eval x = u) (hu : PairSrc w u L)
    (h63 : R.length + L.length ≤ 1000000) (hbase : base ≤ w.heap.size)
    (h : ∀ v' w', PairRow w' base v' (R ++ L) → w.grownBy w' v.ownBlock → K (a.put o.dst v') w') :
    if Region.wanted o (yielded ops a.tmps) = true then Oper.wp Try.prog o a w K Q else E := by
  have hw : Region.wanted o (yielded ops a.tmps) = true := by simp [Region.wanted, hgd]
  rw [if_pos hw]
  obtain ⟨i0, hi, hz0, hz1, hz2⟩ := info_parts info_pair
  have hrun : ∃ v' w', (Builtin.append_ #[26, 26] o.type #[v, u]).run Try.prog w = .ok v' w' ∧ PairRow w' base v' (R ++ L) ∧ w.grownBy w' v.ownBlock := by
    obtain ⟨⟨q, c, hv, h1, h2, hc⟩, hsrc⟩ := hu
    rcases hsrc with ⟨ad, m, c', rfl⟩ | rfl
    · obtain ⟨rfl, rfl, rfl⟩ := Value.slice.inj hv
      have hnews : ∀ j y, (L.flatMap pairC)[j]? = some y → w.cell? (ad.add j) = some y := by
        intro j y hj
        have hjl : j < (L.flatMap pairC).length := (List.getElem?_eq_some_iff.1 hj).1
        rw [flat2_length L] at hjl
        obtain ⟨b, off, hq, p0, p1⟩ := hc (j / 2) _ (List.getElem?_eq_getElem (by omega))
        obtain rfl := Option.some.inj hq
        obtain ⟨f0, f1⟩ := flat2 L (j / 2) _ (List.getElem?_eq_getElem (by omega))
        rw [Go.WideShapes.add_plain]
        rcases Nat.mod_two_eq_zero_or_one j with e | e
        · have ej : j / 2 * 2 = j := by omega
          rw [ej] at f0 p0
          rw [p0, ← f0, hj]
        · have ej : j / 2 * 2 + 1 = j := by omega
          rw [ej] at f1
          rw [Nat.add_assoc, ej] at p1
          rw [p1, ← f1, hj]
      have hone : ∀ y ∈ L.flatMap pairC, y.oneCell' = true := by
        intro y hy
        obtain ⟨r, _, hr⟩ := List.mem_flatMap.1 hy
        simp [pairC] at hr
        rcases hr with rfl | rfl <;> rfl
      obtain ⟨v', w', hr, h3, h4, _, _⟩ := run_append_own_at (P := Try.prog) w base 26 o.type 35 i0 _ 2 16 Try.underlying26 hi hz0 hz1 hz2 rfl (by decide) v R.length (R.flatMap pairC) hown
        ad L.length c' (L.flatMap pairC) (flat2_length L) hnews hone (by unfold maxLen; omega) (by omega) hbase
      exact ⟨v', w', hr, by unfold PairRow; rw [List.length_append, List.flatMap_append]; exact h3, h4⟩
    · obtain ⟨_, hl, _⟩ := Value.slice.inj hv
      obtain rfl : L = [] := List.length_eq_zero_iff.1 hl.symm
      refine ⟨v, w, run_append_owned_none w base 26 o.type 35 i0 2 Try.underlying26 hi v R.length (R.flatMap pairC) hown, by rw [List.append_nil]; exact hown, ?_⟩
      exact ⟨rfl, rfl, rfl, Nat.le_refl _, fun _ _ _ => rfl⟩
  obtain ⟨v', w', hr, h2, h3⟩ := hrun
  unfold Oper.wp execOp
  simp only [ho, resolve, invoke, builtin, Sem.run_bind, Sem.run_pure, Result.andThen_ok, List.map_toArray, List.map_cons, List.map_nil, hs, hx, hr]
  exact h v' w' h2 h3
theorem keep3 {w w' : World} {a : Addr} {v : Value} (h : w.cell? a = some v) (f : w.frozen? a = false) (e : Ext w w') : w'.cell? a = some v ∧ w'.frozen? a = false ∧ Ext w w' :=
  ⟨e.cell h, (e.frozen h).trans f, e⟩
theorem ext_grown {w W W' : World} {v : Value} (e : Ext w W) (hg : W.grownBy W' v.ownBlock) (hv : ∀ b, v.ownBlock = some b → w.heap.size ≤ b) : Ext w W' :=
  Below.grown e hg e.size hv
theorem empty_row (w : World) : PairRow (w.alloc (.cells #[] 35)).drew w.heap.size (.slice (some ⟨w.heap.size, 0, none⟩) 0 0) [] :=
  World.ownsRow.drew (World.ownsRow_lit w #[] 0 (Nat.le_refl _) (Nat.zero_le _) rfl)
theorem empty_at {w : World} {b B : Nat} (hb : w.heap[b]? = some (.cells #[] 35 (0, 0))) (hB : B ≤ b) : PairRow w B (.slice (some ⟨b, 0, none⟩) 0 0) [] :=
  ⟨rfl, .inr ⟨b, 0, #[], rfl, hB, hb, Nat.le_refl _, Nat.zero_le _, rfl, rfl⟩⟩
theorem pair_at {w : World} {b : Nat} {x y : Int} (hb : w.heap[b]? = some (.cells #[.int .i64 x, .int .i64 y] 35 (0, 0))) : PairSrc w (.slice (some ⟨b, 0, none⟩) 1 1) [(x, y)] := by
  refine ⟨⟨_, 1, rfl, by simp, by unfold maxLen; omega, fun i z hz => ?_⟩, .inl ⟨_, _, _, rfl⟩⟩
  have hi : i = 0 := by
    have := (List.getElem?_eq_some_iff.1 hz).1
    simp at this; exact this
  subst hi
  simp at hz
  subst hz
  exact ⟨b, 0, rfl, by simp [World.cell?, hb], by simp [World.cell?, hb]⟩
end Go.Proofs.Ytgapjglijpdkmaa
