/- Slices of pairs of numbers; the walk of keep.Pairs. -/
import Derived.Test.YtgapjglijpdkmaaTurn
import Derived.Test.YtgapjglijpdkmaaProg
import Derived.Deep.OwnRows
import Derived.Deep.QuietTactic
import Derived.BigQuiet
import Derived.Laws.StructEq
import Derived.Maps.OwnOps
import Derived.Lib.SliceRun
namespace Go.Proofs.Ytgapjglijpdkmaa
open Go.RowKit Go.Maps
set_option maxHeartbeats 2000000
set_option maxRecDepth 100000
theorem info_pair : (Try.prog.info? 35).map (fun i => (i.zero, i.size, i.bytes)) = some (some (.agg #[.int .i64 0, .int .i64 0]), 2, 16) := by kernel_rfl
def pairC (r : Int × Int) : List Value := [.int .i64 r.1, .int .i64 r.2]
/-- a slice of pairs of the call's own -/
def PairRow (w : World) (base : Nat) (v : Value) (R : List (Int × Int)) : Prop := w.ownsRow base 35 2 v R.length (R.flatMap pairC)
theorem PairRow.nil (w : World) (base : Nat) : PairRow w base (.slice none 0 0) [] := World.ownsRow_nil _ _ _ _
theorem PairRow.alloc {w : World} {base : Nat} {v : Value} {R : List (Int × Int)} (h : PairRow w base v R) (o : Obj) : PairRow (w.alloc o) base v R := World.ownsRow.alloc h o
theorem PairRow.len {w : World} {base : Nat} {v : Value} {R : List (Int × Int)} (h : PairRow w base v R) : ∃ a c, v = .slice a R.length c ∧ R.length ≤ c ∧ c ≤ maxLen := by
  rcases h.2 with ⟨h1, h2⟩ | ⟨g, cap, cur, h1, _, _, h2, h3, _⟩
  · exact ⟨none, 0, by rw [h1, h2], by omega, Nat.zero_le _⟩
  · exact ⟨_, cap, h1, h2, h3⟩
theorem PairRow.own {w : World} {base : Nat} {v : Value} {R : List (Int × Int)} (h : PairRow w base v R) : ∀ b, v.ownBlock = some b → base ≤ b := by
  intro b hb
  rcases h.2 with ⟨h1, _⟩ | ⟨g, cap, cur, h1, hb1, _⟩
  · subst h1; simp [Value.ownBlock] at hb
  · subst h1; simp only [Value.ownBlock, Option.some.injEq] at hb; omega
theorem PairRow.mono {w : World} {base base' : Nat} {v : Value} {R : List (Int × Int)} (h : PairRow w base v R) (hb : base' ≤ base) : PairRow w base' v R := by
  refine ⟨h.1, ?_⟩
  rcases h.2 with h1 | ⟨g, cap, cur, h1, hb1, hg, h2⟩
  · exact .inl h1
  · exact .inr ⟨g, cap, cur, h1, by omega, hg, h2⟩
theorem PairRow.turn {w w' : World} {base : Nat} {bs : List Nat} {v : Value} {R : List (Int × Int)} (h : PairRow w base v R) (t : Turn bs w w') (hb : ∀ b ∈ bs, b < base) : PairRow w' base v R := by
  refine ⟨h.1, ?_⟩
  rcases h.2 with h1 | ⟨g, cap, cur, h1, hb1, hg, h2⟩
  · exact .inl h1
  · exact .inr ⟨g, cap, cur, h1, hb1, by rw [t.block g (Array.getElem?_eq_some_iff.1 hg).1 (fun hm => by have := hb g hm; omega)]; exact hg, h2⟩
theorem cell_pair {w : World} {a b : Value} {T : TypeId} : ∀ j u, [a, b][j]? = some u → (w.alloc (.cells #[a, b] T)).cell? ((⟨w.heap.size, 0, none⟩ : Addr).add j) = some u := by
  intro j u h
  have hb : (w.alloc (.cells #[a, b] T)).heap[w.heap.size]? = some (.cells #[a, b] T (0, 0)) := heap_alloc_new _ _
  match j, h with
  | 0, h => simp at h; subst h; simp [Addr.add]
  | 1, h => simp at h; subst h; simp [Addr.add]
  | j + 2, h => simp at h
theorem wpList_append_pair {ops : Array Oper} {rest : List Oper} {o : Oper} {a : Act} {Q : Exit → Act → World → Prop} {w : World} (hgd : o.guard = none) (s x : Operand)
    (ho : o.op = .call { callee := .builtin .append, args := #[s, x], argTypes := #[26, 26] })
    (base : Nat) (v : Value) (R : List (Int × Int)) (hs : a.eval s = v) (hown : PairRow w base v R) (r1 r2 : Int) (g : Nat) (hx : a.eval x = .slice (some ⟨g, 0, none⟩) 1 1) (hgs : w.heap.size = g)
    (hlen : R.length + 1 ≤ 1099511627776) (hbase : base ≤ w.heap.size)
    (h : ∀ v' w', PairRow w' base v' (R ++ [(r1, r2)]) → (w.alloc (.cells #[.int .i64 r1, .int .i64 r2] 35)).grownBy w' v.ownBlock → wpList Try.prog ops Q rest (a.put o.dst v') w') :
    wpList Try.prog ops Q (o :: rest) a (w.alloc (.cells #[.int .i64 r1, .int .i64 r2] 35)) := by
  subst hgs
  obtain ⟨i0, hi, hz0, hz1, hz2⟩ := info_parts info_pair
  refine wpList_append_own (P := Try.prog) (w := w.alloc (.cells #[.int .i64 r1, .int .i64 r2] 35)) hgd s x 26 ho base 35 i0 _ 2 16 Try.underlying26 hi hz0 hz1 hz2 rfl (by decide) v R.length (R.flatMap pairC) hs (World.ownsRow.alloc hown _)
    ⟨w.heap.size, 0, none⟩ 1 1 (pairC (r1, r2)) hx rfl cell_pair ?_ (by unfold maxLen; omega) (by omega) (by simp; omega) ?_
  · intro u hu; simp [pairC] at hu; rcases hu with rfl | rfl <;> rfl
  · intro v' w' hown' hgrow _
    refine h v' w' ?_ hgrow
    unfold PairRow
    rw [List.length_append, List.flatMap_append]
    simpa using hown'
/-- a slice that reads as pairs, wherever it lies -/
def PairSl (w : World) (v : Value) (l : List (Int × Int)) : Prop := ∃ q c, v = .slice q l.length c ∧ l.length ≤ c ∧ c ≤ maxLen ∧ ∀ (i : Nat) (x : Int × Int), l[i]? = some x → ∃ b off, q = some ⟨b, off, none⟩ ∧ w.cell? ⟨b, off + i * 2, none⟩ = some (.int .i64 x.1) ∧ w.cell? ⟨b, off + i * 2 + 1, none⟩ = some (.int .i64 x.2)
theorem PairSl.ext {w w' : World} {v : Value} {l : List (Int × Int)} (h : PairSl w v l) (e : Ext w w') : PairSl w' v l := by
  obtain ⟨q, c, hv, h1, h2, hc⟩ := h
  exact ⟨q, c, hv, h1, h2, fun i x hx => by obtain ⟨b, off, hq, hc1, hc2⟩ := hc i x hx; exact ⟨b, off, hq, e.cell hc1, e.cell hc2⟩⟩
theorem flat2 : ∀ (l : List (Int × Int)) (i : Nat) (x : Int × Int), l[i]? = some x → (l.flatMap pairC)[i * 2]? = some (.int .i64 x.1) ∧ (l.flatMap pairC)[i * 2 + 1]? = some (.int .i64 x.2) := by
  intro l
  induction l with
  | nil => intro i x h; simp at h
  | cons y l ih =>
    intro i x h
    cases i with
    | zero => simp at h; subst h; simp [pairC]
    | succ i =>
      have h2 := ih i x (by simpa using h)
      rw [List.flatMap_cons]
      have e0 : (i + 1) * 2 = (pairC y).length + i * 2 := by simp [pairC]; omega
      have e1 : (i + 1) * 2 + 1 = (pairC y).length + (i * 2 + 1) := by simp [pairC]; omega
      rw [e0, show (pairC y).length + i * 2 + 1 = (pairC y).length + (i * 2 + 1) by omega, List.getElem?_append_right (by omega), List.getElem?_append_right (by omega)]
      simpa using h2
theorem PairRow.sl {w : World} {base : Nat} {v : Value} {l : List (Int × Int)} (h : PairRow w base v l) : PairSl w v l := by
  rcases h.2 with ⟨h1, h2⟩ | ⟨g, cap, cur, h1, hb, hg, h2, h3, h4, h5⟩
  · refine ⟨none, 0, by rw [h1, h2], by omega, Nat.zero_le _, fun i x hx => ?_⟩
    have := (List.getElem?_eq_some_iff.1 hx).1
    omega
  · refine ⟨_, cap, h1, h2, h3, fun i x hx => ⟨g, 0, rfl, ?_⟩⟩
    subst h1
    have hi : i < l.length := (List.getElem?_eq_some_iff.1 hx).1
    have hf := flat2 l i x hx
    rw [Nat.zero_add, World.ownsRow.cellAt h (i * 2) (by omega), World.ownsRow.cellAt h (i * 2 + 1) (by omega)]
    exact hf
theorem run_part2 (xs : Array Value) (i : Nat) (v : Value) (h : xs[i]? = some v) (w : World) : (part 3 xs i).run Try.prog w = .ok v w := by
  have hA : ∀ w, (isAgg 3).run Try.prog w = .ok false w := fun w => by kernel_rfl
  simp [part, hA, h]
theorem run_equal_pair' (dd : Nat) (a b c d : Int) (w : World) : (Op.equalIn (dd + 1 + 1) 35 (.agg #[.int .i64 a, .int .i64 b]) (.agg #[.int .i64 c, .int .i64 d])).run Try.prog w = .ok ((a == c) && (b == d)) w := by
  have hS : ∀ w, (sizeOf 3).run Try.prog w = .ok 1 w := fun w => by kernel_rfl
  have h0 : ∀ (x y : Value) w, (part 3 #[x, y] 0).run Try.prog w = .ok x w := fun x y w => run_part2 _ 0 x rfl w
  have h1 : ∀ (x y : Value) w, (part 3 #[x, y] 1).run Try.prog w = .ok y w := fun x y w => run_part2 _ 1 y rfl w
  have he : ∀ (x y : Int) w, (Op.equalIn (dd + 1) 3 (.int .i64 x) (.int .i64 y)).run Try.prog w = .ok (x == y) w := fun x y w => run_equalIn_int w dd 3 .i64 .i64 x y Try.underlying3
  rw [Op.equalIn]
  simp only [Sem.run_bind, run_underlying Try.underlying35, Result.andThen_ok, hS]
  simp [Std.Legacy.Range.forIn_eq_forIn_range', List.range', h0, h1, he]
  by_cases e1 : a = c <;> by_cases e2 : b = d <;> simp [e1, e2]
theorem run_equal_pair (a b c d : Int) (w : World) : (Op.equalIn 10000 35 (.agg #[.int .i64 a, .int .i64 b]) (.agg #[.int .i64 c, .int .i64 d])).run Try.prog w = .ok ((a == c) && (b == d)) w := run_equal_pair' 9998 a b c d w
theorem keep_pairs {w : World} {va vb : Value} {a b : List (Int × Int)} (ha : PairSl w va a) (hb : PairSl w vb b) (hla : a.length ≤ 4000000000) : Calls Try.prog 13 #[va, vb] w fun e w' => e = .returned (.bool (decide (a = b))) ∧ Ext w w' := by
  obtain ⟨qa, ca, rfl, la1, la2, hca⟩ := ha
  obtain ⟨qb, cb, rfl, lb1, lb2, hcb⟩ := hb
  unfold maxLen at la2 lb2
  by_cases hl : a.length = b.length
  · have hep := run_equal_pair
    have HA := Lib.hid hca; have HB := Lib.hid hcb
    have HL := Lib.hid hl.symm
    rw [← hl] at lb1 ⊢
    clear hca hcb hl
    go_enter Try.func13, Try.ntmps13
    go_wp2
    go_loopw [5] (fun i wr => ∃ k : Nat, k ≤ a.length ∧ i = .int .i64 k ∧ a.take k = b.take k ∧ Ext w wr) (fun i _ => a.length - (intOf i).toNat)
    case atStart => exact ⟨0, by omega, rfl, rfl, Ext.refl _⟩
    case round =>
      obtain ⟨k, hk, rfl, htk, hx⟩ := hrel
      have HT := Lib.hid htk
      clear htk
      by_cases hlt : k < a.length
      · have hltb : k < b.length := by rw [HL.out]; exact hlt
        obtain ⟨b1, o1, rfl, p0, p1⟩ := HA.out k a[k] (List.getElem?_eq_getElem hlt)
        obtain ⟨b2, o2, rfl, q0, q1⟩ := HB.out k b[k] (List.getElem?_eq_getElem hltb)
        have P0 := hx.cell p0; have Q0 := hx.cell q0; have P1 := hx.cell p1; have Q1 := hx.cell q1
        clear p0 q0 p1 q1
        have HX := Lib.hid (show a[k] = b[k] → a.take (k + 1) = b.take (k + 1) by intro e; rw [List.take_succ_eq_append_getElem hlt, List.take_succ_eq_append_getElem hltb, e, HT.out])
        have HY := Lib.hid (show a[k] ≠ b[k] → decide (a = b) = false by intro e; exact decide_eq_false (fun h => e (by subst h; rfl)))
        generalize a[k] = x at *
        generalize b[k] = y at *
        obtain ⟨xk, xt⟩ := x
        obtain ⟨yk, yt⟩ := y
        dsimp only at P0 P1 Q0 Q1
        have i1 : (k : Int) < (a.length : Int) := by omega
        by_cases h1 : xk = yk
        · subst h1
          by_cases h2 : xt = yt
          · subst h2
            go_wp2
            go_big_quiet (fail)
            go_wp2
            exact ⟨⟨k + 1, by omega, by go_num, HX.out (by first | trivial | rfl), hx.trans (Ext.drewN _ _)⟩, by simp [intOf]; omega⟩
          · have hres := HY.out (by intro e; injection e with _ e; exact h2 e)
            have bne : ((xt : Int) == (yt : Int)) = false := beq_false_of_ne (by omega)
            have HRS := Lib.hid hres
            clear hres
            go_wp2
            go_big_quiet (fail)
            go_wp2
            go_ret
            rw [HRS.out]
            exact ⟨rfl, hx.trans (Ext.drewN _ _)⟩
        · have hres := HY.out (by intro e; injection e with e _; exact h1 e)
          have bne : ((xk : Int) == (yk : Int)) = false := beq_false_of_ne (by omega)
          have HRS := Lib.hid hres
          clear hres
          go_wp2
          go_big_quiet (fail)
          go_wp2
          go_ret
          rw [HRS.out]
          exact ⟨rfl, hx.trans (Ext.drewN _ _)⟩
      · obtain rfl : k = a.length := by omega
        have hab : a = b := by
          have := HT.out
          rw [List.take_length, ← HL.out, List.take_length] at this
          exact this
        have HAB := Lib.hid (decide_eq_true hab)
        clear hab
        go_wp2
        go_ret
        rw [HAB.out]
        exact ⟨rfl, hx⟩
  · have bl : ((a.length : Int) == (b.length : Int)) = false := beq_false_of_ne (by omega)
    have hab : decide (a = b) = false := decide_eq_false (fun e => hl (by rw [e]))
    rw [hab]
    clear hca hcb hab hl
    go_enter Try.func13, Try.ntmps13
    go_wp2
    go_ret
    exact ⟨rfl, Ext.refl _⟩
end Go.Proofs.Ytgapjglijpdkmaa
