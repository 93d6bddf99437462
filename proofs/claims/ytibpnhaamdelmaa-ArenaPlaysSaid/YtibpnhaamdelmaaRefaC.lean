/- The reference's arena: what makes its regions anew. -/
import Derived.Test.YtibpnhaamdelmaaRefaB
import Derived.Test.YtibpnhaamdelmaaLast
namespace Go.Proofs.Ytibpnhaamdelmaa
open Go.RowKit Go.Maps Arena
set_option maxHeartbeats 4000000
set_option maxRecDepth 100000
attribute [local go_sem ↓] Go.wp_at_zero Go.wp_at_succ
/-- the rest of a row without one of its places -/
theorem drop_at {n : Nat} {R : List (Nat × Nat)} (hg : Arena.Good n R) {i : Nat} (hi : i < R.length) : R.take i ++ R.drop (i + 1) = Arena.drop (R[i].1 : Int) R := by
  have h1 : Arena.drop (R[i].1 : Int) (R.take i ++ R[i] :: R.drop (i + 1)) = R.take i ++ R.drop (i + 1) := by
    unfold Arena.drop
    rw [List.filter_append, List.filter_cons]
    simp only [decide_true, Bool.not_true, Bool.false_eq_true, if_false]
    congr 1
    · refine List.filter_eq_self.2 fun r hr => ?_
      obtain ⟨j, hj, rfl⟩ := List.getElem_of_mem hr
      rw [List.length_take] at hj
      have := good_ne hg (i := j) (j := i) (by omega) hi
      have := (hg.2 R[j] (List.getElem_mem (by omega))).1
      simp only [List.getElem_take, Bool.not_eq_true', decide_eq_false_iff_not]
      omega
    · refine List.filter_eq_self.2 fun r hr => ?_
      obtain ⟨j, hj, rfl⟩ := List.getElem_of_mem hr
      rw [List.length_drop] at hj
      have := good_ne hg (i := i) (j := i + 1 + j) (by omega) (by omega)
      have := (hg.2 R[i] (List.getElem_mem (by omega))).1
      simp only [List.getElem_drop, Bool.not_eq_true', decide_eq_false_iff_not]
      omega
  rw [← h1, List.getElem_cons_drop, List.take_append_drop]
/-- what an append may take its elements from: a slice that reads as pairs, nil or at an address -/
def PairSrc (w : World) (u : Value) (L : List (Nat × Nat)) : Prop := PairSl w u L ∧ ((∃ ad m c, u = .slice (some ad) m c) ∨ u = .slice none 0 0)
theorem pairSl_take {w : World} {q : Option Addr} {c k : Nat} {R : List (Nat × Nat)} (h : PairSl w (.slice q R.length c) R) (hk : k ≤ R.length) : PairSl w (sliced q 0 k c 2) (R.take k) := by
  obtain ⟨q', c', he, h1, h2, hc⟩ := h
  obtain ⟨rfl, _, rfl⟩ := Value.slice.inj he
  have hl : (R.take k).length = k := by rw [List.length_take]; omega
  refine ⟨if c = 0 then q else q.map (·.add (0 * 2)), c, by unfold sliced; rw [hl, Nat.sub_zero, Nat.sub_zero], by omega, h2, fun i x hx => ?_⟩
  have hi : i < (R.take k).length := (List.getElem?_eq_some_iff.1 hx).1
  rw [List.getElem?_take_of_lt (by omega)] at hx
  obtain ⟨b, off, rfl, p0, p1⟩ := hc i x hx
  exact ⟨b, off, by split <;> simp [Addr.add], p0, p1⟩
theorem pairSl_drop {w : World} {q : Option Addr} {c k : Nat} {R : List (Nat × Nat)} (h : PairSl w (.slice q R.length c) R) (hk : k ≤ R.length) : PairSl w (sliced q k R.length c 2) (R.drop k) := by
  obtain ⟨q', c', he, h1, h2, hc⟩ := h
  obtain ⟨rfl, _, rfl⟩ := Value.slice.inj he
  have hl : (R.drop k).length = R.length - k := by rw [List.length_drop]
  refine ⟨if c = k then q else q.map (·.add (k * 2)), c - k, by unfold sliced; rw [hl], by omega, by omega, fun i x hx => ?_⟩
  have hi : i < (R.drop k).length := (List.getElem?_eq_some_iff.1 hx).1
  rw [List.getElem?_drop] at hx
  obtain ⟨b, off, rfl, p0, p1⟩ := hc (k + i) x hx
  refine ⟨b, off + k * 2, ?_, ?_, ?_⟩
  · rw [if_neg (by omega)]; simp [Addr.add]
  · rw [show off + k * 2 + i * 2 = off + (k + i) * 2 by omega]; exact p0
  · rw [show off + k * 2 + i * 2 + 1 = off + (k + i) * 2 + 1 by omega]; exact p1
theorem flat2_length (L : List (Nat × Nat)) : (L.flatMap pairC).length = L.length * 2 := by
  induction L with
  | nil => rfl
  | cons x L ih => rw [List.flatMap_cons, List.length_append, ih]; simp [pairC]; omega
theorem pair_elem : Try.prog.elem 48 = 55 := by kernel_rfl
theorem pair_size (w : World) : (sizeOf (Try.prog.elem 48)).run Try.prog w = .ok 2 w := by kernel_rfl
theorem src_of {w : World} {q : Option Addr} {n c l h m : Nat} {L : List (Nat × Nat)} (hv : (∃ ad, q = some ad) ∨ (q = none ∧ c = 0 ∧ n = 0)) (hh : h ≤ m) (hm : m ≤ c) (hs : PairSl w (sliced q l h m 2) L) : PairSrc w (sliced q l h m 2) L := by
  refine ⟨hs, ?_⟩
  rcases hv with ⟨ad, rfl⟩ | ⟨rfl, rfl, rfl⟩
  · left
    unfold sliced
    split
    · exact ⟨_, _, _, rfl⟩
    · exact ⟨_, _, _, rfl⟩
  · right
    obtain rfl : m = 0 := by omega
    obtain rfl : h = 0 := by omega
    unfold sliced
    simp
theorem PairRow.nilOr {w : World} {B : Nat} {v : Value} {R : List (Nat × Nat)} (h : PairRow w B v R) : ∃ q c, v = .slice q R.length c ∧ R.length ≤ c ∧ ((∃ ad, q = some ad) ∨ (q = none ∧ c = 0 ∧ R.length = 0)) := by
  rcases h.2 with ⟨h1, h2⟩ | ⟨b, c, cur, h1, hb, hg, h2, h3, h4, h5⟩
  · exact ⟨none, 0, by rw [h1, h2], by omega, .inr ⟨rfl, rfl, h2⟩⟩
  · exact ⟨_, c, h1, h2, .inl ⟨_, rfl⟩⟩
theorem head_src {w : World} {B k : Nat} {v : Value} {R : List (Nat × Nat)} (h : PairRow w B v R) (hk : k ≤ R.length) :
    ∃ u, (∀ W, (Instr.slice 48 v none (some (.int .i64 k)) none).run Try.prog W = .ok u W) ∧ ∀ W, PairRow W B v R → PairSrc W u (R.take k) := by
  obtain ⟨q, c, rfl, hc, hn⟩ := h.nilOr
  refine ⟨sliced q 0 k c 2, fun W => ?_, fun W hW => src_of hn (by omega) (Nat.le_refl _) (pairSl_take hW.sl hk)⟩
  rw [run_slice_h W 48 q R.length c (by rw [pair_elem]; exact Try.underlying48) .i64 k (by omega) (by omega), pair_size]
  simp
theorem tail_src {w : World} {B k : Nat} {v : Value} {R : List (Nat × Nat)} (h : PairRow w B v R) (hk : k ≤ R.length) :
    ∃ u, (∀ W, (Instr.slice 48 v (some (.int .i64 k)) none none).run Try.prog W = .ok u W) ∧ ∀ W, PairRow W B v R → PairSrc W u (R.drop k) := by
  obtain ⟨q, c, rfl, hc, hn⟩ := h.nilOr
  refine ⟨sliced q k R.length c 2, fun W => ?_, fun W hW => src_of hn (by omega) (Nat.le_refl _) (pairSl_drop hW.sl hk)⟩
  rw [run_slice_l W 48 q R.length c (by rw [pair_elem]; exact Try.underlying48) .i64 k (by omega) (by omega), pair_size]
  simp
/-- an append of pairs, wherever they lie, to a row of the call's own, at a step of a region that draws -/
theorem step_append_pairs {w : World} {ops : Array Oper} {o : Oper} {a : Act} {K : Act → World → Prop} {Q : Exit → Act → World → Prop} {E : Prop} (hgd : o.guard = none) (s x : Operand)
    (ho : o.op = .call { callee := .builtin .append, args := #[s, x], argTypes := #[48, 48] })
    (base : Nat) (v u : Value) (R L : List (Nat × Nat)) (hs : a.eval s = v) (hown : PairRow w base v R) (hx : a.eval x = u) (hu : PairSrc w u L)
    (h63 : R.length + L.length ≤ 1000000) (hbase : base ≤ w.heap.size)
    (h : ∀ v' w', PairRow w' base v' (R ++ L) → w.grownBy w' v.ownBlock → K (a.put o.dst v') w') :
    if Region.wanted o (yielded ops a.tmps) = true then Oper.wp Try.prog o a w K Q else E := by
  have hw : Region.wanted o (yielded ops a.tmps) = true := by simp [Region.wanted, hgd]
  rw [if_pos hw]
  obtain ⟨i0, hi, hz0, hz1, hz2⟩ := info_parts info_pair
  have hrun : ∃ v' w', (Builtin.append_ #[48, 48] o.type #[v, u]).run Try.prog w = .ok v' w' ∧ PairRow w' base v' (R ++ L) ∧ w.grownBy w' v.ownBlock := by
    obtain ⟨⟨q, c, hv, h1, h2, hc⟩, hsrc⟩ := hu
    rcases hsrc with ⟨ad, m, c', rfl⟩ | rfl
    · obtain ⟨rfl, rfl, rfl⟩ := Value.slice.inj hv
      have hnews : ∀ j y, (L.flatMap pairC)[j]? = some y → w.cell? (ad.add j) = some y := by
        intro j y hj
        have hjl : j < (L.flatMap pairC).length := (List.getElem?_eq_some_iff.1 hj).1
        rw [flat2_length L] at hjl
        obtain ⟨b, off, hq, p0, p1⟩ := hc (j / 2) _ (List.getElem?_eq_getElem (by omega))
        obtain rfl := Option.some.inj hq
        obtain ⟨f0, f1⟩ := flat2 L (j / 2) _ (List.getElem?_eq_getElem (by omega))
        rw [Go.WideShapes.add_plain]
        rcases Nat.mod_two_eq_zero_or_one j with e | e
        · have ej : j / 2 * 2 = j := by omega
          rw [ej] at f0 p0
          rw [p0, ← f0, hj]
        · have ej : j / 2 * 2 + 1 = j := by omega
          rw [ej] at f1
          rw [Nat.add_assoc, ej] at p1
          rw [p1, ← f1, hj]
      have hone : ∀ y ∈ L.flatMap pairC, y.oneCell' = true := by
        intro y hy
        obtain ⟨r, _, hr⟩ := List.mem_flatMap.1 hy
        simp [pairC] at hr
        rcases hr with rfl | rfl <;> rfl
      obtain ⟨v', w', hr, h3, h4, _, _⟩ := run_append_own_at (P := Try.prog) w base 48 o.type 55 i0 _ 2 16 Try.underlying48 hi hz0 hz1 hz2 rfl (by decide) v R.length (R.flatMap pairC) hown
        ad L.length c' (L.flatMap pairC) (flat2_length L) hnews hone (by unfold maxLen; omega) (by omega) hbase
      exact ⟨v', w', hr, by unfold PairRow; rw [List.length_append, List.flatMap_append]; exact h3, h4⟩
    · obtain ⟨_, hl, _⟩ := Value.slice.inj hv
      obtain rfl : L = [] := List.length_eq_zero_iff.1 hl.symm
      refine ⟨v, w, run_append_owned_none w base 48 o.type 55 i0 2 Try.underlying48 hi v R.length (R.flatMap pairC) hown, by rw [List.append_nil]; exact hown, ?_⟩
      exact ⟨rfl, rfl, rfl, Nat.le_refl _, fun _ _ _ => rfl⟩
  obtain ⟨v', w', hr, h2, h3⟩ := hrun
  unfold Oper.wp execOp
  simp only [ho, resolve, invoke, builtin, Sem.run_bind, Sem.run_pure, Result.andThen_ok, List.map_toArray, List.map_cons, List.map_nil, hs, hx, hr]
  exact h v' w' h2 h3
theorem keep3 {w w' : World} {a : Addr} {v : Value} (h : w.cell? a = some v) (f : w.frozen? a = false) (e : Ext w w') : w'.cell? a = some v ∧ w'.frozen? a = false ∧ Ext w w' :=
  ⟨e.cell h, (e.frozen h).trans f, e⟩
theorem ext_grown {w W W' : World} {v : Value} (e : Ext w W) (hg : W.grownBy W' v.ownBlock) (hv : ∀ b, v.ownBlock = some b → w.heap.size ≤ b) : Ext w W' :=
  Below.grown e hg e.size hv
theorem empty_row (w : World) : PairRow (w.alloc (.cells #[] 55)).drew w.heap.size (.slice (some ⟨w.heap.size, 0, none⟩) 0 0) [] :=
  World.ownsRow.drew (World.ownsRow_lit w #[] 0 (Nat.le_refl _) (Nat.zero_le _) rfl)
theorem RefAt.newRegs {w w' : World} {q gq B n : Nat} {ws : List Int} {vR v : Value} {R R' : List (Nat × Nat)} (h : RefAt w q gq B n ws vR R) (e : Ext w w') (hB : B ≤ w.heap.size) (hv : PairRow w' w.heap.size v R') (hg : Arena.Good n R') :
    RefAt (w'.setCell ⟨q, 1, none⟩ v) q gq B n ws v R' := by
  have hlt := h.lt
  have t : Turn [q] w' (w'.setCell ⟨q, 1, none⟩ v) := (Turn.refl _ _).setCell (.inl (by simp)) _
  have h2 := h.ext e
  obtain ⟨lq, lg⟩ := h2.lt
  refine ⟨?_, by rw [t.block gq lg (by simp; exact fun e => h.ne e.symm)]; exact h2.words, h.len, (hv.turn t (by simp; omega)).mono hB, hg, h.ne, h.qB, h.gB, h.least⟩
  rw [heap_setCell_same w' q 1 _ _ _ h2.row]
  rfl
theorem reffree_no {w : World} {q gq B n : Nat} {ws : List Int} {vR : Value} {R : List (Nat × Nat)} {x : Int} (h : RefAt w q gq B n ws vR R) (h0 : lenAt R x = 0) :
    Calls Try.prog 13 #[.pointer (some ⟨q, 0, none⟩), .int .i64 x] w fun e w' => e = .returned (.bool false) ∧ w = w' := by
  have HF := Lib.hid (find_no h h0)
  clear h h0
  go_enter Try.func13, Try.ntmps13
  go_wp2_with fail
  refine HF.out.mono ?_; rintro e w' ⟨rfl, rfl⟩
  go_wp2
  go_ret
  exact ⟨rfl, rfl⟩
theorem reffree_yes {w : World} {q gq B n : Nat} {ws : List Int} {vR : Value} {R : List (Nat × Nat)} (h : RefAt w q gq B n ws vR R) (hB : B ≤ w.heap.size) {i : Nat} (hi : i < R.length) :
    Calls Try.prog 13 #[.pointer (some ⟨q, 0, none⟩), .int .i64 R[i].1] w fun e w' => e = .returned (.bool true) ∧ (∃ vR', RefAt w' q gq B n ws vR' (Arena.drop (R[i].1 : Int) R)) ∧ Turn [q] w w' := by
  have HF := Lib.hid (find_yes h hi)
  have H := Lib.hid h
  obtain ⟨c0, c1, f1⟩ := h.cells
  have hrl := good_len h.good
  have hn := h.least
  have hlt := h.lt
  obtain ⟨u1, hs1, hp1⟩ := head_src (k := i) h.regs (by omega)
  obtain ⟨u2, hs2, hp2⟩ := tail_src (k := i + 1) h.regs (by omega)
  rw [show ((i + 1 : Nat) : Int) = (i : Int) + 1 by omega] at hs2
  have HP1 := Lib.hid hp1; have HP2 := Lib.hid hp2
  clear h hp1 hp2
  have HD := Lib.hid (drop_at H.out.good hi)
  generalize R[i].1 = x at *
  go_enter Try.func13, Try.ntmps13
  go_wp2_with fail
  refine HF.out.mono ?_; rintro e w' ⟨rfl, rfl⟩
  go_wp2_with fail
  have hwr : IntKind.i64.wrap ((i : Int) + 1) = (i : Int) + 1 := IntWalk.i64_in _ (by omega)
  refine wp_region_noPanic ?_
  refine wp_region_last 19 (S := (fun w' => w'.cell? ⟨q, 1, none⟩ = some vR ∧ w'.frozen? ⟨q, 1, none⟩ = false ∧ Ext w w')) (by kernel_rfl) (by kernel_rfl) _ rfl ?_ (fun hHeld => ?_)
  · (refine keep3 c1 f1 ?_; first | exact Ext.drew _ | exact Ext.trans (Ext.alloc _ _) (Ext.drew _) | exact hg1 | exact hg2)
  simp only [List.take_succ_cons, List.take_zero]
  refine wpAnyH_take (i := 0) (v := ?v1_0) rfl (by kernel_rfl) (by kernel_rfl) (by kernel_rfl) (fun _ _ _ h => h) (Or.inl ⟨by rfl, ?y1_0⟩) (by assumption) ?r1_0
  case y1_0 => intro w hSw; (try dsimp only at hSw); go_simp; (try with_reducible rfl)
  (try simp only [Act.put, List.setIfInBounds_toArray, List.set_cons_zero, List.set_cons_succ, List.getElem_toArray, List.getElem_cons_zero, List.getElem_cons_succ])
  refine wpAnyH_take (i := 2) (v := ?v1_1) rfl (by kernel_rfl) (by kernel_rfl) (by kernel_rfl) (fun _ _ _ h => h) (Or.inl ⟨by rfl, ?y1_1⟩) (by assumption) ?r1_1
  case y1_1 => intro w hSw; (try dsimp only at hSw); go_simp; (try with_reducible rfl)
  (try simp only [Act.put, List.setIfInBounds_toArray, List.set_cons_zero, List.set_cons_succ, List.getElem_toArray, List.getElem_cons_zero, List.getElem_cons_succ])
  refine wpAnyH_take (i := 3) (v := ?v1_2) rfl (by kernel_rfl) (by kernel_rfl) (by kernel_rfl) (fun _ _ _ h => h) (Or.inl ⟨by rfl, ?y1_2⟩) (by assumption) ?r1_2
  case y1_2 => intro w hSw; (try dsimp only at hSw); go_simp; (try with_reducible rfl)
  (try simp only [Act.put, List.setIfInBounds_toArray, List.set_cons_zero, List.set_cons_succ, List.getElem_toArray, List.getElem_cons_zero, List.getElem_cons_succ])
  refine wpAnyH_take (i := 4) (v := ?v1_3) rfl (by kernel_rfl) (by kernel_rfl) (by kernel_rfl) (fun _ _ _ h => h) (Or.inl ⟨by rfl, ?y1_3⟩) (by assumption) ?r1_3
  case y1_3 => intro w hSw; (try dsimp only at hSw); go_simp; (try with_reducible rfl)
  (try simp only [Act.put, List.setIfInBounds_toArray, List.set_cons_zero, List.set_cons_succ, List.getElem_toArray, List.getElem_cons_zero, List.getElem_cons_succ])
  refine wpAnyH_take (i := 5) (v := ?v1_4) rfl (by kernel_rfl) (by kernel_rfl) (by kernel_rfl) (fun _ _ _ h => h) (Or.inl ⟨by rfl, ?y1_4⟩) (by assumption) ?r1_4
  case y1_4 => intro w hSw; (try dsimp only at hSw); go_simp; (try with_reducible rfl)
  (try simp only [Act.put, List.setIfInBounds_toArray, List.set_cons_zero, List.set_cons_succ, List.getElem_toArray, List.getElem_cons_zero, List.getElem_cons_succ])
  refine wpAnyH_take (i := 6) (v := ?v1_5) rfl (by kernel_rfl) (by kernel_rfl) (by kernel_rfl) (fun _ _ _ h => h) (Or.inl ⟨by rfl, ?y1_5⟩) (by assumption) ?r1_5
  case y1_5 => intro w hSw; (try dsimp only at hSw); go_simp; (try with_reducible rfl)
  (try simp only [Act.put, List.setIfInBounds_toArray, List.set_cons_zero, List.set_cons_succ, List.getElem_toArray, List.getElem_cons_zero, List.getElem_cons_succ])
  refine wpAnyH_take (i := 7) (v := ?v1_6) rfl (by kernel_rfl) (by kernel_rfl) (by kernel_rfl) (fun _ _ _ h => h) (Or.inl ⟨by rfl, ?y1_6⟩) (by assumption) ?r1_6
  case y1_6 => intro w hSw; (try dsimp only at hSw); go_simp; (try with_reducible rfl)
  (try simp only [Act.put, List.setIfInBounds_toArray, List.set_cons_zero, List.set_cons_succ, List.getElem_toArray, List.getElem_cons_zero, List.getElem_cons_succ])
  refine wpAnyH_take (i := 9) (v := ?v1_7) rfl (by kernel_rfl) (by kernel_rfl) (by kernel_rfl) (fun _ _ _ h => h) (Or.inl ⟨by rfl, ?y1_7⟩) (by assumption) ?r1_7
  case y1_7 => intro w hSw; (try dsimp only at hSw); go_simp; (try with_reducible rfl)
  (try simp only [Act.put, List.setIfInBounds_toArray, List.set_cons_zero, List.set_cons_succ, List.getElem_toArray, List.getElem_cons_zero, List.getElem_cons_succ])
  refine wpAnyH_take (i := 10) (v := ?v1_8) rfl (by kernel_rfl) (by kernel_rfl) (by kernel_rfl) (fun _ _ _ h => h) (Or.inl ⟨by rfl, ?y1_8⟩) (by assumption) ?r1_8
  case y1_8 => intro w hSw; (try dsimp only at hSw); go_simp; (try with_reducible rfl)
  (try simp only [Act.put, List.setIfInBounds_toArray, List.set_cons_zero, List.set_cons_succ, List.getElem_toArray, List.getElem_cons_zero, List.getElem_cons_succ])
  refine wpAnyH_take (i := 11) (v := ?v1_9) rfl (by kernel_rfl) (by kernel_rfl) (by kernel_rfl) (fun _ _ _ h => h) (Or.inl ⟨by rfl, ?y1_9⟩) (by assumption) ?r1_9
  case y1_9 => intro w hSw; (try dsimp only at hSw); go_simp; (try with_reducible rfl)
  (try simp only [Act.put, List.setIfInBounds_toArray, List.set_cons_zero, List.set_cons_succ, List.getElem_toArray, List.getElem_cons_zero, List.getElem_cons_succ])
  refine wpAnyH_take (i := 12) (v := ?v1_10) rfl (by kernel_rfl) (by kernel_rfl) (by kernel_rfl) (fun _ _ _ h => h) (Or.inl ⟨by rfl, ?y1_10⟩) (by assumption) ?r1_10
  case y1_10 => intro w hSw; (try dsimp only at hSw); go_simp; (try with_reducible rfl)
  (try simp only [Act.put, List.setIfInBounds_toArray, List.set_cons_zero, List.set_cons_succ, List.getElem_toArray, List.getElem_cons_zero, List.getElem_cons_succ])
  refine wpAnyH_take (i := 13) (v := ?v1_11) rfl (by kernel_rfl) (by kernel_rfl) (by kernel_rfl) (fun _ _ _ h => h) (Or.inl ⟨by rfl, ?y1_11⟩) (by assumption) ?r1_11
  case y1_11 => intro w hSw; (try dsimp only at hSw); go_simp; (try with_reducible rfl)
  (try simp only [Act.put, List.setIfInBounds_toArray, List.set_cons_zero, List.set_cons_succ, List.getElem_toArray, List.getElem_cons_zero, List.getElem_cons_succ])
  refine wpAnyH_take (i := 14) (v := ?v1_12) rfl (by kernel_rfl) (by kernel_rfl) (by kernel_rfl) (fun _ _ _ h => h) (Or.inl ⟨by rfl, ?y1_12⟩) (by assumption) ?r1_12
  case y1_12 => intro w hSw; (try dsimp only at hSw); go_simp; (try with_reducible rfl)
  (try simp only [Act.put, List.setIfInBounds_toArray, List.set_cons_zero, List.set_cons_succ, List.getElem_toArray, List.getElem_cons_zero, List.getElem_cons_succ])
  refine wpAnyH_take (i := 15) (v := ?v1_13) rfl (by kernel_rfl) (by kernel_rfl) (by kernel_rfl) (fun _ _ _ h => h) (Or.inl ⟨by rfl, ?y1_13⟩) (by assumption) ?r1_13
  case y1_13 => intro w hSw; (try dsimp only at hSw); go_simp; (try with_reducible rfl)
  (try simp only [Act.put, List.setIfInBounds_toArray, List.set_cons_zero, List.set_cons_succ, List.getElem_toArray, List.getElem_cons_zero, List.getElem_cons_succ])
  refine wpAnyH_ready (rs := [1]) (by kernel_rfl) (by simp) ?_
  refine AllReadyH.cons rfl (fun K hK => ?_) AllReadyH.nil
  go_simp
  refine hK.out _ _ ?s1_14 (fun hHeld => ?k1_14)
  case s1_14 => ((try dsimp only); (refine keep3 c1 f1 ?_; first | exact Ext.drew _ | exact Ext.trans (Ext.alloc _ _) (Ext.drew _) | exact hg1 | exact hg2))
  clear hK K
  (try simp only [Act.put, List.setIfInBounds_toArray, List.set_cons_zero, List.set_cons_succ, List.getElem_toArray, List.getElem_cons_zero, List.getElem_cons_succ])
  refine wpAnyH_ready (rs := [8]) (by kernel_rfl) (by simp) ?_
  refine AllReadyH.cons rfl (fun K hK => ?_) AllReadyH.nil
  refine step_append_pairs (by rfl) _ _ (by rfl) w.heap.size _ u1 [] (R.take i) (by rfl) (empty_row w) (by rfl) (HP1.out _ (H.out.ext ((Ext.alloc _ _).trans (Ext.drew _))).regs) (by rw [List.length_take, List.length_nil]; omega) (by simp) ?_
  intro v1 w1 hown1 hgrow1
  have hg1 : Ext w w1 := ext_grown ((Ext.alloc _ _).trans (Ext.drew _)) hgrow1 (empty_row w).own
  refine hK.out _ _ ?s1_15 (fun hHeld => ?k1_15)
  case s1_15 => ((try dsimp only); (refine keep3 c1 f1 ?_; first | exact Ext.drew _ | exact Ext.trans (Ext.alloc _ _) (Ext.drew _) | exact hg1 | exact hg2))
  clear hK K
  (try simp only [Act.put, List.setIfInBounds_toArray, List.set_cons_zero, List.set_cons_succ, List.getElem_toArray, List.getElem_cons_zero, List.getElem_cons_succ])
  refine wpAnyH_ready (rs := [16]) (by kernel_rfl) (by simp) ?_
  refine AllReadyH.cons rfl (fun K hK => ?_) AllReadyH.nil
  refine step_append_pairs (by rfl) _ _ (by rfl) w.heap.size _ u2 _ (R.drop (i + 1)) (by rfl) hown1 (by rfl) (HP2.out _ (H.out.ext hg1).regs) (by simp; omega) hg1.size ?_
  intro v2 w2 hown2 hgrow2
  have hg2 : Ext w w2 := ext_grown hg1 hgrow2 hown1.own
  refine hK.out _ _ ?s1_16 (fun hHeld => ?k1_16)
  case s1_16 => ((try dsimp only); (refine keep3 c1 f1 ?_; first | exact Ext.drew _ | exact Ext.trans (Ext.alloc _ _) (Ext.drew _) | exact hg1 | exact hg2))
  clear hK K
  (try simp only [Act.put, List.setIfInBounds_toArray, List.set_cons_zero, List.set_cons_succ, List.getElem_toArray, List.getElem_cons_zero, List.getElem_cons_succ])
  refine wpAnyH_take (i := 17) (v := ?v1_17) rfl (by kernel_rfl) (by kernel_rfl) (by kernel_rfl) (fun _ _ _ h => h) (Or.inl ⟨by rfl, ?y1_17⟩) (by assumption) ?r1_17
  case y1_17 => intro w hSw; (try dsimp only at hSw); go_simp; (try with_reducible rfl)
  (try simp only [Act.put, List.setIfInBounds_toArray, List.set_cons_zero, List.set_cons_succ, List.getElem_toArray, List.getElem_cons_zero, List.getElem_cons_succ])
  refine wpAnyH_take (i := 18) (v := ?v1_18) rfl (by kernel_rfl) (by kernel_rfl) (by kernel_rfl) (fun _ _ _ h => h) (Or.inl ⟨by rfl, ?y1_18⟩) (by assumption) ?r1_18
  case y1_18 => intro w hSw; (try dsimp only at hSw); go_simp; (try with_reducible rfl)
  (try simp only [Act.put, List.setIfInBounds_toArray, List.set_cons_zero, List.set_cons_succ, List.getElem_toArray, List.getElem_cons_zero, List.getElem_cons_succ])
  refine wpAnyH_done (by kernel_rfl) ?_ _
  show wpList _ _ _ _ _ _
  have hc2 := hg2.cell c1
  have hf2 := (hg2.frozen c1).trans f1
  have HR2 := Lib.hid (show PairRow w2 w.heap.size v2 (Arena.drop x R) by rw [← HD.out]; exact hown2)
  have HG2 := Lib.hid hg2
  obtain ⟨q2, n2, c2, hv2⟩ : ∃ q n c, v2 = .slice q n c := by obtain ⟨q2, c2, h, _⟩ := hown2.nilOr; exact ⟨q2, _, c2, h⟩
  subst hv2
  clear hown2 hown1 hg1 hg2 hgrow1 hgrow2 hHeld
  go_wp2
  refine NoPanic.normal ?_
  go_wp2
  go_ret
  refine ⟨rfl, ⟨_, H.out.newRegs HG2.out hB HR2.out (good_drop _ H.out.good)⟩, (Turn.of_ext HG2.out).setCell (.inl (by simp)) _⟩
end Go.Proofs.Ytibpnhaamdelmaa
