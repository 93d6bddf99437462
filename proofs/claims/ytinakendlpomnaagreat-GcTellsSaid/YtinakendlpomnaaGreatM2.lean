/- Proved here: the contracts and laws of ObjF, PieceP, Pairs, Words, Wd2, Last, ObjG, ObjH, ObjI, ArenaP, RefaA, RefaB of this claim, each beneath its own remark; conditions: those that each theorem names. -/
import Derived.Test.YtinakendlpomnaaGreatM1
import Derived.Test.YtinakendlpomnaaGreatProg
import Derived.Deep.OwnRows
import Derived.Deep.QuietTactic
import Derived.BigQuiet
import Derived.Laws.StructEq
import Derived.Maps.OwnOps
import Derived.Lib.SliceRun
import Derived.WalkKit
import Derived.StillTail
import Derived.Deep.RegionHeld3
import Derived.Deep.CutBlock
import Derived.RowKit
import Derived.Maps.Own
import Derived.Maps.OwnSet
import Derived.Lib.SlKeysI
import Derived.Deep.AppendLies
import Derived.Deep.DrawnRows
/- Words: numbers, places. -/
namespace Go.Proofs.YtinakendlpomnaaGreat
open Go.RowKit
set_option maxHeartbeats 4000000
set_option maxRecDepth 100000
/-- a number of 64 bits -/
def W64 (x : Int) : Prop := 0 ≤ x ∧ x < 18446744073709551616
theorem and_one {x : Int} (h : W64 x) : bits .and .u64 x 1 = x % 2 := by
  obtain ⟨n, rfl⟩ := Int.eq_ofNat_of_zero_le h.1
  rw [show (1 : Int) = ((1 : Nat) : Int) from rfl, u64_and_nat n 1 (by have := h.2; omega) (by decide), Nat.and_one_is_mod]
  omega
theorem isInt_is {x : Int} (hx : W64 x) (w : World) : Calls Tryz.prog 29 #[.int .u64 x] w fun e w' => e = .returned (.bool (isIntW x)) ∧ w = w' := by
  have ha := and_one hx
  have hb : ((x % 2) == 1) = isIntW x := by unfold isIntW; rw [Bool.eq_iff_iff]; simp
  go_enter Tryz.func29, Tryz.ntmps29
  go_wp2
  go_ret
  exact ⟨by first | rfl | simp [ha, hb], rfl⟩
theorem refIsInt_is {x : Int} (hx : W64 x) (w : World) : Calls Tryz.prog 62 #[.int .u64 x] w fun e w' => e = .returned (.bool (isIntW x)) ∧ w = w' := by
  have hb : ((x % 2) == 1) = isIntW x := by unfold isIntW; rw [Bool.eq_iff_iff]; simp
  obtain ⟨h1, h2⟩ := hx
  go_enter Tryz.func62, Tryz.ntmps62
  go_wp2
  go_ret
  exact ⟨by first | rfl | simp [hb], rfl⟩
theorem at_is {x : Int} (hx : W64 x) (w : World) : Calls Tryz.prog 50 #[.int .u64 x] w fun e w' => e = .returned (if isIntW x = true ∨ 4294967296 ≤ x / 2 then .tuple #[.int .i64 0, .bool false] else .tuple #[.int .i64 (x / 2), .bool true]) ∧ w = w' := by
  have HI := Lib.hid (fun W => isInt_is hx W)
  cases hi : isIntW x with
  | true =>
    rw [hi] at HI
    rw [if_pos (.inl rfl)]
    clear hi
    go_enter Tryz.func50, Tryz.ntmps50
    go_wp2_with fail
    refine (HI.out _).mono ?_
    rintro e w1 ⟨rfl, rfl⟩
    go_wp2
    go_ret2
    exact ⟨rfl, rfl⟩
  | false =>
    rw [hi] at HI
    clear hi
    obtain ⟨h1, h2⟩ := hx
    by_cases hb : 4294967296 ≤ x / 2
    · have c1 : decide (4294967295 < x / 2) = true := decide_eq_true (by omega)
      rw [if_pos (.inr hb)]
      go_enter Tryz.func50, Tryz.ntmps50
      go_wp2_with fail
      refine (HI.out _).mono ?_
      rintro e w1 ⟨rfl, rfl⟩
      go_wp2
      go_ret2
      exact ⟨rfl, rfl⟩
    · have c1 : decide (4294967295 < x / 2) = false := decide_eq_false (by omega)
      have hc : ¬ (false = true ∨ 4294967296 ≤ x / 2) := by simp; omega
      rw [if_neg hc]
      have b3 : x / 2 < 4294967296 := by omega
      clear hb hc
      go_enter Tryz.func50, Tryz.ntmps50
      go_wp2_with fail
      refine (HI.out _).mono ?_
      rintro e w1 ⟨rfl, rfl⟩
      go_wp2
      go_ret2
      exact ⟨rfl, rfl⟩
theorem refAt_is {x : Int} (hx : W64 x) (w : World) : Calls Tryz.prog 63 #[.int .u64 x] w fun e w' => e = .returned (.int .i64 (if isIntW x = true ∨ 4294967296 ≤ x / 2 then -1 else x / 2)) ∧ w = w' := by
  have HI := Lib.hid (fun W => refIsInt_is hx W)
  cases hi : isIntW x with
  | true =>
    rw [hi] at HI
    rw [if_pos (.inl rfl)]
    clear hi
    go_enter Tryz.func63, Tryz.ntmps63
    go_wp2_with fail
    refine (HI.out _).mono ?_
    rintro e w1 ⟨rfl, rfl⟩
    go_wp2
    go_ret
    exact ⟨rfl, rfl⟩
  | false =>
    rw [hi] at HI
    clear hi
    obtain ⟨h1, h2⟩ := hx
    by_cases hb : 4294967296 ≤ x / 2
    · have c1 : decide (4294967296 ≤ x / 2) = true := decide_eq_true (by omega)
      rw [if_pos (.inr hb)]
      go_enter Tryz.func63, Tryz.ntmps63
      go_wp2_with fail
      refine (HI.out _).mono ?_
      rintro e w1 ⟨rfl, rfl⟩
      go_wp2
      go_ret
      exact ⟨rfl, rfl⟩
    · have c1 : decide (4294967296 ≤ x / 2) = false := decide_eq_false (by omega)
      have hc : ¬ (false = true ∨ 4294967296 ≤ x / 2) := by simp; omega
      rw [if_neg hc]
      have b3 : x / 2 < 4294967296 := by omega
      clear hb hc
      go_enter Tryz.func63, Tryz.ntmps63
      go_wp2_with fail
      refine (HI.out _).mono ?_
      rintro e w1 ⟨rfl, rfl⟩
      go_wp2
      go_ret
      exact ⟨rfl, rfl⟩
theorem place_is {n : Nat} (hn : n ≤ 4294967295) (w : World) : Calls Tryz.prog 44 #[.int .i64 n] w fun e w' => e = .returned (.int .u64 ((2 * n : Nat) : Int)) ∧ w = w' := by
  go_enter Tryz.func44, Tryz.ntmps44
  go_wp2
  go_ret
  exact ⟨by show Ending.returned (.int .u64 ((n : Int) * 2)) = _; congr 2; omega, rfl⟩
theorem refPlace_is {n : Nat} (hn : n ≤ 4294967295) (w : World) : Calls Tryz.prog 74 #[.int .i64 n] w fun e w' => e = .returned (.int .u64 ((2 * n : Nat) : Int)) ∧ w = w' := by
  have hM : ∀ W, Calls Tryz.prog 82 #[.int .i64 n] W fun e w' => e = .returned (.bool true) ∧ W = w' := by
    intro W
    go_enter Tryz.func82, Tryz.ntmps82
    go_wp2
    go_ret
    exact ⟨by simp <;> omega, rfl⟩
  have HM := Lib.hid hM
  clear hM
  go_enter Tryz.func74, Tryz.ntmps74
  go_wp2_with fail
  refine (HM.out _).mono ?_
  rintro e w1 ⟨rfl, rfl⟩
  go_wp2
  go_ret
  exact ⟨by show Ending.returned (.int .u64 (2 * (n : Int))) = _; congr 2, rfl⟩
end Go.Proofs.YtinakendlpomnaaGreat
/- A text's bytes packed into words, in plain Lean. -/
namespace Go.Proofs.YtinakendlpomnaaGreat
open Go
theorem pk_app (A : List UInt8) (x : UInt8) : pk (A ++ [x]) = pk A + x.toNat * 256 ^ A.length := by
  induction A with
  | nil => simp [pk]
  | cons a A ih =>
    rw [List.cons_append, pk, ih, pk, List.length_cons, Nat.pow_succ, Nat.mul_add, ← Nat.add_assoc]
    congr 1
    rw [Nat.mul_comm 256, Nat.mul_assoc]
theorem pk_lt (A : List UInt8) : pk A < 256 ^ A.length := by
  induction A with
  | nil => simp [pk]
  | cons a A ih =>
    have := a.toNat_lt
    rw [pk, List.length_cons, Nat.pow_succ]
    omega
theorem pieceN_here {s : List UInt8} {k : Nat} {x : UInt8} (hx : s[k]? = some x) : pieceN (s.take (k + 1)) (k / 8) = pieceN (s.take k) (k / 8) + ((x.toNat * 256 ^ (k % 8) : Nat) : Int) ∧ 0 ≤ pieceN (s.take k) (k / 8) ∧ pieceN (s.take k) (k / 8) < ((256 ^ (k % 8) : Nat) : Int) := by
  have hk : k < s.length := (List.getElem?_eq_some_iff.1 hx).1
  have ht : s.take (k + 1) = s.take k ++ [x] := by rw [List.take_succ_eq_append_getElem hk, (List.getElem?_eq_some_iff.1 hx).2]
  have hl : (s.take k).length = k := by rw [List.length_take]; omega
  have hd : (s.take (k + 1)).drop (8 * (k / 8)) = (s.take k).drop (8 * (k / 8)) ++ [x] := by rw [ht, List.drop_append_of_le_length (by omega)]
  have hA : ((s.take k).drop (8 * (k / 8))).length = k % 8 := by rw [List.length_drop, hl]; omega
  have hlt := pk_lt ((s.take k).drop (8 * (k / 8)))
  rw [hA] at hlt
  unfold pieceN
  rw [hd]
  generalize (s.take k).drop (8 * (k / 8)) = A at *
  have hm : k % 8 < 8 := Nat.mod_lt _ (by omega)
  rw [List.take_of_length_le (l := A ++ [x]) (by rw [List.length_append, hA, List.length_singleton]; omega), List.take_of_length_le (l := A) (by rw [hA]; omega), pk_app, hA]
  exact ⟨by simp, by omega, by exact_mod_cast hlt⟩
theorem pieceN_other {s : List UInt8} {k j : Nat} (hk : k < s.length) (hj : j ≠ k / 8) : pieceN (s.take (k + 1)) j = pieceN (s.take k) j := by
  have ht : s.take (k + 1) = s.take k ++ [s[k]] := by rw [List.take_succ_eq_append_getElem hk]
  have hl : (s.take k).length = k := by rw [List.length_take]; omega
  unfold pieceN
  rcases Nat.lt_or_gt_of_ne hj with h | h
  · rw [ht, List.drop_append_of_le_length (by omega), List.take_append_of_le_length (by rw [List.length_drop, hl]; omega)]
  · rw [List.drop_of_length_le (l := s.take (k + 1)) (by rw [List.length_take]; omega), List.drop_of_length_le (l := s.take k) (by rw [List.length_take]; omega)]
theorem pieces_step {s : List UInt8} {k m : Nat} {x : UInt8} (hx : s[k]? = some x) (f : Int → List Value) : (List.range m).map (fun j => f (pieceN (s.take (k + 1)) j)) = ((List.range m).map (fun j => f (pieceN (s.take k) j))).set (k / 8) (f (pieceN (s.take k) (k / 8) + ((x.toNat * 256 ^ (k % 8) : Nat) : Int))) := by
  have hk : k < s.length := (List.getElem?_eq_some_iff.1 hx).1
  apply List.ext_getElem?
  intro i
  rw [List.getElem?_set]
  by_cases hi : k / 8 = i
  · subst hi
    rw [if_pos rfl]
    by_cases hm : k / 8 < m
    · simp [hm, (pieceN_here hx).1]
    · simp [hm]
  · rw [if_neg hi]
    by_cases hm : i < m
    · simp [hm, pieceN_other hk (Ne.symm hi)]
    · simp [hm]
theorem pieceN_nil (j : Nat) : pieceN [] j = 0 := by simp [pieceN, pk]
theorem pieces_start (m : Nat) (f : Int → List Value) (s : List UInt8) : (List.range m).map (fun j => f (pieceN (s.take 0) j)) = List.replicate m (f 0) := by
  rw [List.take_zero]
  simp only [pieceN_nil]
  apply List.ext_getElem?
  intro i
  by_cases hi : i < m <;> simp [hi]
end Go.Proofs.YtinakendlpomnaaGreat
/- Slices of pairs; the walk of keep.Pairs. -/
namespace Go.Proofs.YtinakendlpomnaaGreat
open Go.RowKit Go.Maps
set_option maxHeartbeats 2000000
set_option maxRecDepth 100000
theorem info_pair : (Tryz.prog.info? 107).map (fun i => (i.zero, i.size, i.bytes)) = some (some (.agg #[.int .i64 0, .int .i64 0]), 2, 16) := by kernel_rfl
def pairC (r : Nat × Nat) : List Value := [.int .i64 r.1, .int .i64 r.2]
/-- a slice of pairs of the call's own -/
def PairRow (w : World) (base : Nat) (v : Value) (R : List (Nat × Nat)) : Prop := w.ownsRow base 107 2 v R.length (R.flatMap pairC)
theorem PairRow.nil (w : World) (base : Nat) : PairRow w base (.slice none 0 0) [] := World.ownsRow_nil _ _ _ _
theorem PairRow.alloc {w : World} {base : Nat} {v : Value} {R : List (Nat × Nat)} (h : PairRow w base v R) (o : Obj) : PairRow (w.alloc o) base v R := World.ownsRow.alloc h o
theorem PairRow.len {w : World} {base : Nat} {v : Value} {R : List (Nat × Nat)} (h : PairRow w base v R) : ∃ a c, v = .slice a R.length c ∧ R.length ≤ c ∧ c ≤ maxLen := by
  rcases h.2 with ⟨h1, h2⟩ | ⟨g, cap, cur, h1, _, _, h2, h3, _⟩
  · exact ⟨none, 0, by rw [h1, h2], by omega, Nat.zero_le _⟩
  · exact ⟨_, cap, h1, h2, h3⟩
theorem PairRow.own {w : World} {base : Nat} {v : Value} {R : List (Nat × Nat)} (h : PairRow w base v R) : ∀ b, v.ownBlock = some b → base ≤ b := by
  intro b hb
  rcases h.2 with ⟨h1, _⟩ | ⟨g, cap, cur, h1, hb1, _⟩
  · subst h1; simp [Value.ownBlock] at hb
  · subst h1; simp only [Value.ownBlock, Option.some.injEq] at hb; omega
theorem PairRow.mono {w : World} {base base' : Nat} {v : Value} {R : List (Nat × Nat)} (h : PairRow w base v R) (hb : base' ≤ base) : PairRow w base' v R := by
  refine ⟨h.1, ?_⟩
  rcases h.2 with h1 | ⟨g, cap, cur, h1, hb1, hg, h2⟩
  · exact .inl h1
  · exact .inr ⟨g, cap, cur, h1, by omega, hg, h2⟩
theorem PairRow.turn {w w' : World} {base : Nat} {bs : List Nat} {v : Value} {R : List (Nat × Nat)} (h : PairRow w base v R) (t : Turn bs w w') (hb : ∀ b ∈ bs, b < base) : PairRow w' base v R := by
  refine ⟨h.1, ?_⟩
  rcases h.2 with h1 | ⟨g, cap, cur, h1, hb1, hg, h2⟩
  · exact .inl h1
  · exact .inr ⟨g, cap, cur, h1, hb1, by rw [t.block g (Array.getElem?_eq_some_iff.1 hg).1 (fun hm => by have := hb g hm; omega)]; exact hg, h2⟩
theorem cell_pair {w : World} {a b : Value} {T : TypeId} : ∀ j u, [a, b][j]? = some u → (w.alloc (.cells #[a, b] T)).cell? ((⟨w.heap.size, 0, none⟩ : Addr).add j) = some u := by
  intro j u h
  have hb : (w.alloc (.cells #[a, b] T)).heap[w.heap.size]? = some (.cells #[a, b] T (0, 0)) := heap_alloc_new _ _
  match j, h with
  | 0, h => simp at h; subst h; simp [Addr.add]
  | 1, h => simp at h; subst h; simp [Addr.add]
  | j + 2, h => simp at h
theorem wpList_append_pair {ops : Array Oper} {rest : List Oper} {o : Oper} {a : Act} {Q : Exit → Act → World → Prop} {w : World} (hgd : o.guard = none) (s x : Operand)
    (ho : o.op = .call { callee := .builtin .append, args := #[s, x], argTypes := #[103, 103] })
    (base : Nat) (v : Value) (R : List (Nat × Nat)) (hs : a.eval s = v) (hown : PairRow w base v R) (r1 r2 : Nat) (g : Nat) (hx : a.eval x = .slice (some ⟨g, 0, none⟩) 1 1) (hgs : w.heap.size = g)
    (hlen : R.length + 1 ≤ 1099511627776) (hbase : base ≤ w.heap.size)
    (h : ∀ v' w', PairRow w' base v' (R ++ [(r1, r2)]) → (w.alloc (.cells #[.int .i64 r1, .int .i64 r2] 107)).grownBy w' v.ownBlock → wpList Tryz.prog ops Q rest (a.put o.dst v') w') :
    wpList Tryz.prog ops Q (o :: rest) a (w.alloc (.cells #[.int .i64 r1, .int .i64 r2] 107)) := by
  subst hgs
  obtain ⟨i0, hi, hz0, hz1, hz2⟩ := info_parts info_pair
  refine wpList_append_own (P := Tryz.prog) (w := w.alloc (.cells #[.int .i64 r1, .int .i64 r2] 107)) hgd s x 103 ho base 107 i0 _ 2 16 Tryz.underlying103 hi hz0 hz1 hz2 rfl (by decide) v R.length (R.flatMap pairC) hs (World.ownsRow.alloc hown _)
    ⟨w.heap.size, 0, none⟩ 1 1 (pairC (r1, r2)) hx rfl cell_pair ?_ (by unfold maxLen; omega) (by omega) (by simp; omega) ?_
  · intro u hu; simp [pairC] at hu; rcases hu with rfl | rfl <;> rfl
  · intro v' w' hown' hgrow _
    refine h v' w' ?_ hgrow
    unfold PairRow
    rw [List.length_append, List.flatMap_append]
    simpa using hown'
/-- a slice that reads as pairs, wherever it lies -/
def PairSl (w : World) (v : Value) (l : List (Nat × Nat)) : Prop := ∃ q c, v = .slice q l.length c ∧ l.length ≤ c ∧ c ≤ maxLen ∧ ∀ (i : Nat) (x : Nat × Nat), l[i]? = some x → ∃ b off, q = some ⟨b, off, none⟩ ∧ w.cell? ⟨b, off + i * 2, none⟩ = some (.int .i64 x.1) ∧ w.cell? ⟨b, off + i * 2 + 1, none⟩ = some (.int .i64 x.2)
theorem PairSl.ext {w w' : World} {v : Value} {l : List (Nat × Nat)} (h : PairSl w v l) (e : Ext w w') : PairSl w' v l := by
  obtain ⟨q, c, hv, h1, h2, hc⟩ := h
  exact ⟨q, c, hv, h1, h2, fun i x hx => by obtain ⟨b, off, hq, hc1, hc2⟩ := hc i x hx; exact ⟨b, off, hq, e.cell hc1, e.cell hc2⟩⟩
theorem flat2 : ∀ (l : List (Nat × Nat)) (i : Nat) (x : Nat × Nat), l[i]? = some x → (l.flatMap pairC)[i * 2]? = some (.int .i64 x.1) ∧ (l.flatMap pairC)[i * 2 + 1]? = some (.int .i64 x.2) := by
  intro l
  induction l with
  | nil => intro i x h; simp at h
  | cons y l ih =>
    intro i x h
    cases i with
    | zero => simp at h; subst h; simp [pairC]
    | succ i =>
      have h2 := ih i x (by simpa using h)
      rw [List.flatMap_cons]
      have e0 : (i + 1) * 2 = (pairC y).length + i * 2 := by simp [pairC]; omega
      have e1 : (i + 1) * 2 + 1 = (pairC y).length + (i * 2 + 1) := by simp [pairC]; omega
      rw [e0, show (pairC y).length + i * 2 + 1 = (pairC y).length + (i * 2 + 1) by omega, List.getElem?_append_right (by omega), List.getElem?_append_right (by omega)]
      simpa using h2
theorem PairRow.sl {w : World} {base : Nat} {v : Value} {l : List (Nat × Nat)} (h : PairRow w base v l) : PairSl w v l := by
  rcases h.2 with ⟨h1, h2⟩ | ⟨g, cap, cur, h1, hb, hg, h2, h3, h4, h5⟩
  · refine ⟨none, 0, by rw [h1, h2], by omega, Nat.zero_le _, fun i x hx => ?_⟩
    have := (List.getElem?_eq_some_iff.1 hx).1
    omega
  · refine ⟨_, cap, h1, h2, h3, fun i x hx => ⟨g, 0, rfl, ?_⟩⟩
    subst h1
    have hi : i < l.length := (List.getElem?_eq_some_iff.1 hx).1
    have hf := flat2 l i x hx
    rw [Nat.zero_add, World.ownsRow.cellAt h (i * 2) (by omega), World.ownsRow.cellAt h (i * 2 + 1) (by omega)]
    exact hf
theorem run_part2 (xs : Array Value) (i : Nat) (v : Value) (h : xs[i]? = some v) (w : World) : (part 3 xs i).run Tryz.prog w = .ok v w := by
  have hA : ∀ w, (isAgg 3).run Tryz.prog w = .ok false w := fun w => by kernel_rfl
  simp [part, hA, h]
theorem run_equal_pair' (dd : Nat) (a b c d : Int) (w : World) : (Op.equalIn (dd + 1 + 1) 107 (.agg #[.int .i64 a, .int .i64 b]) (.agg #[.int .i64 c, .int .i64 d])).run Tryz.prog w = .ok ((a == c) && (b == d)) w := by
  have hS : ∀ w, (sizeOf 3).run Tryz.prog w = .ok 1 w := fun w => by kernel_rfl
  have h0 : ∀ (x y : Value) w, (part 3 #[x, y] 0).run Tryz.prog w = .ok x w := fun x y w => run_part2 _ 0 x rfl w
  have h1 : ∀ (x y : Value) w, (part 3 #[x, y] 1).run Tryz.prog w = .ok y w := fun x y w => run_part2 _ 1 y rfl w
  have he : ∀ (x y : Int) w, (Op.equalIn (dd + 1) 3 (.int .i64 x) (.int .i64 y)).run Tryz.prog w = .ok (x == y) w := fun x y w => run_equalIn_int w dd 3 .i64 .i64 x y Tryz.underlying3
  rw [Op.equalIn]
  simp only [Sem.run_bind, run_underlying Tryz.underlying107, Result.andThen_ok, hS]
  simp [Std.Legacy.Range.forIn_eq_forIn_range', List.range', h0, h1, he]
  by_cases e1 : a = c <;> by_cases e2 : b = d <;> simp [e1, e2]
theorem run_equal_pair (a b c d : Int) (w : World) : (Op.equalIn 10000 107 (.agg #[.int .i64 a, .int .i64 b]) (.agg #[.int .i64 c, .int .i64 d])).run Tryz.prog w = .ok ((a == c) && (b == d)) w := run_equal_pair' 9998 a b c d w
end Go.Proofs.YtinakendlpomnaaGreat
/- Slices of words; the walk of keep.Words. -/
namespace Go.Proofs.YtinakendlpomnaaGreat
open Go.RowKit Go.Maps
set_option maxHeartbeats 2000000
set_option maxRecDepth 100000
theorem info_u64 : (Tryz.prog.info? 51).map (fun i => (i.zero, i.size, i.bytes)) = some (some (.int .u64 0), 1, 8) := by kernel_rfl
/-- a slice that reads as words, wherever it lies -/
def WordSl (w : World) (v : Value) (l : List Int) : Prop := ∃ q c, v = .slice q l.length c ∧ l.length ≤ c ∧ c ≤ maxLen ∧ ∀ (i : Nat) (x : Int), l[i]? = some x → ∃ b off, q = some ⟨b, off, none⟩ ∧ w.cell? ⟨b, off + i, none⟩ = some (.int .u64 x)
theorem WordSl.ext {w w' : World} {v : Value} {l : List Int} (h : WordSl w v l) (e : Ext w w') : WordSl w' v l := by
  obtain ⟨q, c, hv, h1, h2, hc⟩ := h
  exact ⟨q, c, hv, h1, h2, fun i x hx => by obtain ⟨b, off, hq, hcc⟩ := hc i x hx; exact ⟨b, off, hq, e.cell hcc⟩⟩
theorem WordSl.of_row {w : World} {base : Nat} {v : Value} {l : List Int} (h : w.ownsRow base 51 1 v l.length (l.map fun x => Value.int .u64 x)) : WordSl w v l := by
  rcases h.2 with ⟨h1, h2⟩ | ⟨g, cap, cur, h1, hb, hg, h2, h3, h4, h5⟩
  · refine ⟨none, 0, by rw [h1, h2], by omega, Nat.zero_le _, fun i x hx => ?_⟩
    have := (List.getElem?_eq_some_iff.1 hx).1
    omega
  · refine ⟨_, cap, h1, h2, h3, fun i x hx => ⟨g, 0, rfl, ?_⟩⟩
    subst h1
    have hi : i < l.length := (List.getElem?_eq_some_iff.1 hx).1
    rw [Nat.zero_add, World.ownsRow.cellAt h i (by omega), List.getElem?_map, hx]
    rfl
theorem keep_words {w : World} {va vb : Value} {a b : List Int} (ha : WordSl w va a) (hb : WordSl w vb b) : Calls Tryz.prog 14 #[va, vb] w fun e w' => e = .returned (.bool (decide (a = b))) ∧ Ext w w' := by
  obtain ⟨qa, ca, rfl, la1, la2, hca⟩ := ha
  obtain ⟨qb, cb, rfl, lb1, lb2, hcb⟩ := hb
  unfold maxLen at la2 lb2
  by_cases hl : a.length = b.length
  · have HA := Lib.hid hca; have HB := Lib.hid hcb
    have HL := Lib.hid hl.symm
    rw [← hl] at lb1 ⊢
    clear hca hcb hl
    go_enter Tryz.func14, Tryz.ntmps14
    go_wp2
    go_loopw [5] (fun i wr => ∃ k : Nat, k ≤ a.length ∧ i = .int .i64 k ∧ a.take k = b.take k ∧ Ext w wr) (fun i _ => a.length - (Go.RowKit.intOf i).toNat)
    case atStart => exact ⟨0, by omega, rfl, rfl, Ext.refl _⟩
    case round =>
      obtain ⟨k, hk, rfl, htk, hx⟩ := hrel
      have HT := Lib.hid htk
      clear htk
      by_cases hlt : k < a.length
      · have hltb : k < b.length := by rw [HL.out]; exact hlt
        obtain ⟨b1, o1, rfl, p0⟩ := HA.out k a[k] (List.getElem?_eq_getElem hlt)
        obtain ⟨b2, o2, rfl, q0⟩ := HB.out k b[k] (List.getElem?_eq_getElem hltb)
        have P0 := hx.cell p0; have Q0 := hx.cell q0
        clear p0 q0
        have HX := Lib.hid (show a[k] = b[k] → a.take (k + 1) = b.take (k + 1) by intro e; rw [List.take_succ_eq_append_getElem hlt, List.take_succ_eq_append_getElem hltb, e, HT.out])
        have HY := Lib.hid (show a[k] ≠ b[k] → decide (a = b) = false by intro e; exact decide_eq_false (fun h => e (by subst h; rfl)))
        generalize a[k] = x at *
        generalize b[k] = y at *
        have i1 : (k : Int) < (a.length : Int) := by omega
        by_cases hxy : x = y
        · subst hxy
          go_wp2
          go_big_quiet (fail)
          go_wp2
          exact ⟨⟨k + 1, by omega, by go_num, HX.out (by first | trivial | rfl), hx.trans (Ext.drewN _ _)⟩, by simp [Go.RowKit.intOf]; omega⟩
        · have hres := HY.out hxy
          have bne : (x == y) = false := beq_false_of_ne hxy
          have HRS := Lib.hid hres
          clear hres
          go_wp2
          go_big_quiet (fail)
          go_wp2
          go_ret
          rw [HRS.out]
          exact ⟨rfl, hx.trans (Ext.drewN _ _)⟩
      · obtain rfl : k = a.length := by omega
        have hab : a = b := by
          have := HT.out
          rw [List.take_length, ← HL.out, List.take_length] at this
          exact this
        have HAB := Lib.hid (decide_eq_true hab)
        clear hab
        go_wp2
        go_ret
        rw [HAB.out]
        exact ⟨rfl, hx⟩
  · have bl : ((a.length : Int) == (b.length : Int)) = false := beq_false_of_ne (by omega)
    have hab : decide (a = b) = false := decide_eq_false (fun e => hl (by rw [e]))
    rw [hab]
    clear hca hcb hab hl
    go_enter Tryz.func14, Tryz.ntmps14
    go_wp2
    go_ret
    exact ⟨rfl, Ext.refl _⟩
end Go.Proofs.YtinakendlpomnaaGreat
/- Words as rows (over Sli), beside Words. -/
namespace Go.Proofs.YtinakendlpomnaaGreat
open Go.RowKit Go.Maps
set_option maxHeartbeats 2000000
set_option maxRecDepth 100000
def wordC (x : Int) : List Value := [.int .u64 x]
theorem wordC_rows (S : List Int) : Rows1 1 (S.map wordC) := by
  intro cs hm
  obtain ⟨x, _, rfl⟩ := List.mem_map.1 hm
  exact ⟨rfl, fun u hu => by simp [wordC] at hu; subst hu; rfl⟩
theorem wordC_flat (S : List Int) : (S.map wordC).flatten = S.map fun x => Value.int .u64 x := by
  induction S with
  | nil => rfl
  | cons x S ih => rw [List.map_cons, List.flatten_cons, ih]; rfl
theorem E64 : ElemT Tryz.prog 22 51 1 8 := ⟨Tryz.underlying22, ⟨.int .u64 0, by kernel_rfl, rfl⟩, by decide⟩
theorem WordSl.of_rows {w : World} {v : Value} {l : List Int} (h : RowsP w v 1 (l.map wordC)) : WordSl w v l := by
  obtain ⟨q, c, rfl, h1, h2, hc⟩ := h.at
  rw [List.length_map] at h1 ⊢
  refine ⟨q, c, rfl, h1, h2, fun i x hx => ?_⟩
  obtain ⟨b, off, hq, hcc⟩ := hc i (wordC x) (by rw [List.getElem?_map, hx]; rfl)
  have := hcc 0 _ rfl
  rw [Nat.add_zero, Nat.mul_one] at this
  exact ⟨b, off, hq, this⟩
theorem mk_u64s (k : Nat) (hk : k ≤ 1000000) (W : World) : (Instr.makeSlice 22 (.int .i64 k) (.int .i64 k)).run Tryz.prog W = .ok (.slice (some ⟨W.heap.size, 0, none⟩) k k) (W.alloc (.cells (madeCells #[.int .u64 0] k) 51)) := by
  obtain ⟨i0, hi, hz0, hz1, hz2⟩ := info_parts (show (Tryz.prog.info? 51).map (fun i => (i.zero, i.size, i.bytes)) = some (some (.int .u64 0), 1, 8) by kernel_rfl)
  have h := run_makeSlice (P := Tryz.prog) (w := W) 22 51 i0 (.int .u64 0) Tryz.underlying22 hi hz0 .i64 .i64 (k : Int) (k : Int) (by omega) (by omega) (by rw [hz1]; omega) (by rw [hz2]; omega) (by omega)
  rw [hz1, Nat.mul_one] at h
  exact h
end Go.Proofs.YtinakendlpomnaaGreat
/- A region that draws its order, whose last operation waits for all others: the others by 'wpAnyH' (loads first), the last one as in a plain region. -/
namespace Go.Proofs.YtinakendlpomnaaGreat
open Go
section
variable {P : Program} {md : Region.Mode}
/-- the post of all but the last operation -/
def lastQ (P : Program) (ops : Array Oper) (ol : Oper) (Q : Exit → Act → World → Prop) : Exit → Act → World → Prop
  | .normal, a, w => wpList P ops Q [ol] a w
  | e, a, w => Q e a w
theorem lets_last {ops : Array Oper} {ol : Oper} {Q : Exit → Act → World → Prop} (h : LetsOut (lastQ P ops ol Q)) : LetsOut Q := h
theorem Oper.wp_switch {o : Oper} {a : Act} {w : World} {K K' : Act → World → Prop} {Q Q' : Exit → Act → World → Prop} (hK : ∀ a w, K a w → K' a w) (hp : ∀ c a w, Q' (.panic c) a w → Q (.panic c) a w) (hl : LetsOut Q' → LetsOut Q)
    (hh : o.wp P a w K Q') : o.wp P a w K' Q := by
  unfold Oper.wp at *
  generalize (execOp a.eval o).run P w = r at *
  cases r with
  | ok n w' =>
    cases n <;> simp only [Oper.upon] at hh ⊢ <;>
      first
        | exact hK _ _ hh
        | exact Calls.mono hh (fun e w'' he => by cases e <;> first | exact hK _ _ he | exact hp _ _ _ he | exact hl he)
        | exact Rows.mono hh (fun _ _ he => hK _ _ he)
  | halt x w' =>
    cases x <;> simp only [Oper.upon] at hh ⊢ <;> first | exact hp _ _ _ hh | exact hh
/-- the side conditions, as one Bool -/
def lastB (ops : Array Oper) (n : Nat) : Bool :=
  decide (ops.size = n + 1) && Region.sinkB .any ops n && Region.chainB .any ops n &&
  ((List.range (n + 1)).all fun i => match ops[i]? with
    | some o => (o.after.all fun e => !(Region.binds .any e) || decide (e.on < i)) && (match o.guard with | some (g, _) => decide (g < i) | none => true)
    | none => false) &&
  (match ops[n]? with | some o => o.guard.isNone | none => false)
theorem wanted_same {ops init : Array Oper} {n : Nat} (hi : ∀ i, i < n → init[i]? = ops[i]?) {o : Oper} (hg : ∀ g b, o.guard = some (g, b) → g < n) (t : Array Value) : Region.wanted o (yielded init t) = Region.wanted o (yielded ops t) := by
  unfold Region.wanted
  cases h : o.guard with
  | none => rfl
  | some x =>
    obtain ⟨g, b⟩ := x
    have : yielded init t g = yielded ops t g := by unfold yielded; rw [hi g (hg g b h)]
    simp [this]
theorem last_core {ops init : Array Oper} {n : Nat} {ol : Oper} {Q : Exit → Act → World → Prop} (hsz : ops.size = n + 1) (hin : init.size = n) (hi : ∀ i, i < n → init[i]? = ops[i]?)
    (hs : Region.sinkB .any ops n = true) (hc : Region.chainB .any ops n = true) (hedge : ∀ (i : Nat) (o : Oper), ops[i]? = some o → ∀ e ∈ o.after, Region.binds .any e = true → e.on < i) (hguard : ∀ (i : Nat) (o : Oper), ops[i]? = some o → ∀ g b, o.guard = some (g, b) → g < i)
    (hol : ops[n]? = some ol) (_hog : ol.guard = none) :
    ∀ (fuel : Nat) (l' l : Array Bool) (a : Act) (w : World), l'.size = n → (∀ i, i < n → ∀ d, l'.getD i d = l.getD i d) → HeadInv .any ops n l →
      wpAny P .any init (lastQ P ops ol Q) fuel l' a w → wpAny P .any ops Q (fuel + 1) l a w := by
  -- what is ready, in both
  have hready : ∀ (l' l : Array Bool), l'.size = n → (∀ i, i < n → ∀ d, l'.getD i d = l.getD i d) → ∀ i, i < n → (i ∈ Region.ready .any init l' ↔ i ∈ Region.ready .any ops l) := by
    intro l' l hl' hll i hin'
    rw [mem_ready, mem_ready, hll i hin' true, hi i hin']
    constructor
    · rintro ⟨h0, o, ho, h⟩
      refine ⟨h0, o, ho, fun e he hb => ?_⟩
      have := hedge i o ho e he hb
      rw [← hll e.on (by omega)]
      exact h e he hb
    · rintro ⟨h0, o, ho, h⟩
      refine ⟨h0, o, ho, fun e he hb => ?_⟩
      have := hedge i o ho e he hb
      rw [hll e.on (by omega)]
      exact h e he hb
  -- nothing ready: all have come up
  have hall : ∀ (l : Array Bool), l.size = ops.size → (∀ i, i < n → i ∉ Region.ready .any ops l) → ∀ m i, i < m → i < n → l.getD i false = true := by
    intro l hlsz hno m
    induction m with
    | zero => intro i h; omega
    | succ m ih =>
      intro i him hin'
      by_cases hlt : i < m
      · exact ih i hlt hin'
      · obtain rfl : i = m := by omega
        cases hv : l.getD i false with
        | true => rfl
        | false =>
          refine absurd (mem_ready.2 ⟨getD_in (by omega) hv, ?_⟩) (hno i hin')
          obtain ⟨o, ho⟩ : ∃ o, ops[i]? = some o := ⟨_, Array.getElem?_eq_getElem (by omega)⟩
          exact ⟨o, ho, fun e he hb => ih e.on (hedge i o ho e he hb) (by have := hedge i o ho e he hb; omega)⟩
  have hnready : ∀ (l : Array Bool), HeadInv .any ops n l → (∀ i, i < n → l.getD i false = true) → n ∈ Region.ready .any ops l := by
    intro l inv h
    exact mem_ready.2 ⟨inv.tail n (Nat.le_refl _) (by omega), ol, hol, fun e he hb => h e.on (hedge n ol hol e he hb)⟩
  have hdone : ∀ (l : Array Bool), l.size = ops.size → (∀ i, i < n → l.getD i false = true) → Region.ready .any ops (l.setIfInBounds n true) = [] := by
    intro l hlsz h
    refine List.eq_nil_iff_forall_not_mem.2 fun i hr => ?_
    obtain ⟨h0, o, ho, _⟩ := mem_ready.1 hr
    have hlt : i < ops.size := (Array.getElem?_eq_some_iff.1 ho).1
    have h1 := getD_both h0
    by_cases hin' : i < n
    · rw [getD_set_ne false (by omega), h i hin'] at h1; cases h1
    · obtain rfl : i = n := by omega
      rw [Array.getD_eq_getD_getElem?, Array.getElem?_setIfInBounds_self_of_lt (by omega)] at h1
      simp at h1
  have hlast : ∀ (f : Nat) (l : Array Bool) (a : Act) (w : World), l.size = ops.size → (∀ i, i < n → l.getD i false = true) → lastQ P ops ol Q .normal a w → wpOp P ops Q n (wpAny P .any ops Q f (l.setIfInBounds n true)) a w := by
    intro f l a w hlsz h hq
    have hd := hdone l hlsz h
    have hmono : ∀ a w, Q .normal a w → wpAny P .any ops Q f (l.setIfInBounds n true) a w := by
      intro a w hQ
      cases f with
      | zero => exact ⟨hd, hQ⟩
      | succ f => exact ⟨fun _ => hQ, fun i hi' => by rw [hd] at hi'; cases hi'⟩
    unfold wpOp
    rw [hol]
    simp only
    have hq2 : wpList P ops Q [ol] a w := hq
    unfold wpList at hq2
    split at hq2
    · rename_i hw
      rw [if_pos hw]
      refine hq2.imp (Oper.wp_mono fun a w h => ?_) id
      exact hmono a w (by simpa [wpList] using h)
    · rename_i hw
      rw [if_neg hw]
      exact hmono _ _ (by simpa [wpList] using hq2)
  intro fuel
  induction fuel with
  | zero =>
    intro l' l a w hl' hll inv h
    have hno : ∀ i, i < n → i ∉ Region.ready .any ops l := fun i hin' hr => by
      have := (hready l' l hl' hll i hin').2 hr
      rw [h.1] at this; cases this
    have hA := fun i (hin' : i < n) => hall l inv.size hno (i + 1) i (by omega) hin'
    refine ⟨fun h0 => absurd (hnready l inv hA) (by rw [h0]; simp), fun i hr => ?_⟩
    have hin2 : i = n := by
      by_cases hin' : i < n
      · exact absurd hr (hno i hin')
      · obtain ⟨_, o, ho, _⟩ := mem_ready.1 hr
        have : i < ops.size := (Array.getElem?_eq_some_iff.1 ho).1
        omega
    subst hin2
    exact hlast 0 l a w inv.size hA h.2
  | succ fuel ih =>
    intro l' l a w hl' hll inv h
    have hQn : (∀ i, i < n → i ∉ Region.ready .any ops l) → lastQ P ops ol Q .normal a w := by
      intro hno
      refine h.1 (List.eq_nil_iff_forall_not_mem.2 fun i hr => ?_)
      obtain ⟨_, o, ho, _⟩ := mem_ready.1 hr
      have hlt : i < n := by rw [← hin]; exact (Array.getElem?_eq_some_iff.1 ho).1
      exact hno i hlt ((hready l' l hl' hll i hlt).1 hr)
    refine ⟨fun h0 => ?_, fun i hr => ?_⟩
    · have hno : ∀ i, i < n → i ∉ Region.ready .any ops l := fun i _ hr => by rw [h0] at hr; cases hr
      have hA := fun i (hin' : i < n) => hall l inv.size hno (i + 1) i (by omega) hin'
      exact absurd (hnready l inv hA) (by rw [h0]; simp)
    · by_cases hin' : i < n
      · have h2 := h.2 i ((hready l' l hl' hll i hin').2 hr)
        have inv2 := inv.set hr hin'
        unfold wpOp at h2 ⊢
        rw [hi i hin'] at h2
        obtain ⟨_, o, ho, _⟩ := mem_ready.1 hr
        rw [ho] at h2 ⊢
        simp only at h2 ⊢
        rw [wanted_same hi (fun g b hg => by have := hguard i o ho g b hg; omega)] at h2
        have hstep : ∀ a' w', wpAny P .any init (lastQ P ops ol Q) fuel (l'.setIfInBounds i true) a' w' → wpAny P .any ops Q (fuel + 1) (l.setIfInBounds i true) a' w' := fun a' w' hh => by
          refine ih _ _ a' w' (by simpa using hl') (fun k hk d => ?_) inv2 hh
          by_cases hik : i = k
          · subst hik
            have hlsz := inv.size
            simp [Array.getD_eq_getD_getElem?, hl', hlsz, hsz, hk, Nat.lt_succ_of_lt hk]
          · rw [getD_set_ne d hik, getD_set_ne d hik]; exact hll k hk d
        split at h2
        · rename_i hw
          rw [if_pos hw]
          rcases h2 with h2 | ⟨h2, h3⟩
          · exact .inl (Oper.wp_switch (Q' := lastQ P ops ol Q) hstep (fun _ _ _ h => h) (lets_last (P := P) (ops := ops) (ol := ol)) h2)
          · exact .inr ⟨h2, lets_last (P := P) (ops := ops) (ol := ol) h3⟩
        · rename_i hw
          rw [if_neg hw]
          exact hstep _ _ h2
      · obtain ⟨_, o, ho, _⟩ := mem_ready.1 hr
        have hlt : i < ops.size := (Array.getElem?_eq_some_iff.1 ho).1
        obtain rfl : i = n := by omega
        have hno : ∀ k, k < i → k ∉ Region.ready .any ops l := fun k hk hrk => by
          have hun := (mem_ready.1 hrk).1
          exact absurd hr (tail_waits hs hc (by omega) inv _ k rfl hk hun i (Nat.le_refl _))
        exact hlast (fuel + 1) l a w inv.size (fun k hk => hall l inv.size hno (k + 1) k (by omega) hk) (hQn hno)
/-- THE LAW: all but the last by 'wpAnyH' under S, the last one as in a plain region -/
theorem wp_region_last (n : Nat) {id : Nat} {ops : Array Oper} {Q : Exit → Act → World → Prop} {a : Act} {w : World} (S : World → Prop) (hm : P.follows .mixedOrders = true) (hB : lastB ops n = true) (ol : Oper) (hol : ops[n]? = some ol)
    (hS : S w.drew) (h : S w.drew → wpAnyH P .any (ops.toList.take n).toArray (lastQ P ops ol Q) S n (Array.replicate n false) a w.drew) : (Code.region id ops true).wp P Q a w := by
  unfold lastB at hB
  simp only [Bool.and_eq_true, decide_eq_true_eq] at hB
  obtain ⟨⟨⟨⟨hsz, hs⟩, hc⟩, hall⟩, hg⟩ := hB
  have hall' : ∀ (i : Nat) (o : Oper), ops[i]? = some o → (∀ e ∈ o.after, Region.binds .any e = true → e.on < i) ∧ ∀ g b, o.guard = some (g, b) → g < i := by
    intro i o ho
    have hlt : i < ops.size := (Array.getElem?_eq_some_iff.1 ho).1
    have := List.all_eq_true.1 hall i (List.mem_range.2 (by omega))
    rw [ho] at this
    simp only [Bool.and_eq_true] at this
    refine ⟨fun e he hb => ?_, fun g b hgb => ?_⟩
    · have h1 := Array.all_eq_true_iff_forall_mem.1 this.1 e he
      rw [hb] at h1
      simpa using h1
    · have h2 := this.2
      rw [hgb] at h2
      simpa using h2
  have hog : ol.guard = none := by rw [hol] at hg; simpa using hg
  have htl : (ops.toList.take n).length = n := by rw [List.length_take, Array.length_toList, hsz]; omega
  refine wp_region_any hm ?_
  rw [hsz]
  refine last_core (init := (ops.toList.take n).toArray) hsz (by simpa using htl) (fun i hi => ?_) hs hc (fun i o ho => (hall' i o ho).1) (fun i o ho => (hall' i o ho).2) hol hog n (Array.replicate n false) (Array.replicate (n + 1) false) a w.drew
    (by simp) (fun i hi d => by simp [Array.getD_eq_getD_getElem?, hi, Nat.lt_succ_of_lt hi]) ⟨by simp [hsz], (fun j oj _ hl => by rw [getD_replicate_false] at hl; exact absurd hl (by decide)), fun t _ ht => by simp [Array.getD_eq_getD_getElem?, show t < n + 1 by omega]⟩ (wpAny_of_held _ _ _ _ (h hS))
  rw [List.getElem?_toArray, List.getElem?_take_of_lt hi, Array.getElem?_toList]
end
end Go.Proofs.YtinakendlpomnaaGreat
/- A text's words (the program's). -/
namespace Go.Proofs.YtinakendlpomnaaGreat
open Go.RowKit
set_option maxHeartbeats 4000000
set_option maxRecDepth 100000
theorem wrap64_of {x : Int} (h1 : -9223372036854775808 ≤ x) (h2 : x ≤ 9223372036854775807) : IntKind.i64.wrap x = x := by
  simp [IntKind.wrap, IntKind.bits, IntKind.signed]
  omega
theorem keepB {w w' : World} {a : Addr} {v : Value} (h : w.cell? a = some v) (hf : w.frozen? a = false) (e : Ext w w') : w'.cell? a = some v ∧ w'.frozen? a = false ∧ Ext w w' := ⟨e.cell h, (e.frozen h).trans hf, e⟩
theorem wrapu_of {x : Int} (h1 : 0 ≤ x) (h2 : x < 18446744073709551616) : IntKind.u64.wrap x = x := by
  simp [IntKind.wrap, IntKind.bits, IntKind.signed]
  omega
theorem shl_run {P : Program} {b : Nat} (hb : b < 256) : ∀ (r : Nat) (_ : r < 8) (W : World), (Op.shift .shl .u64 (IntKind.u64.wrap (b : Int)) .i64 (IntKind.i64.wrap (8 * (r : Int)))).run P W = .ok (.int .u64 ((b * 256 ^ r : Nat) : Int)) W := by
  intro r hr W
  have e1 : IntKind.u64.wrap (b : Int) = b := by simp [IntKind.wrap, IntKind.bits, IntKind.signed]; omega
  rw [e1, wrap64_of (by omega) (by omega)]
  rcases (show r = 0 ∨ r = 1 ∨ r = 2 ∨ r = 3 ∨ r = 4 ∨ r = 5 ∨ r = 6 ∨ r = 7 by omega) with rfl | rfl | rfl | rfl | rfl | rfl | rfl | rfl <;> simp [go_sem] <;> exact wrapu_of (by omega) (by omega)
theorem or_shl {b r a : Nat} (hb : b < 256) (hr : r < 8) (ha : a < 256 ^ r) : bits .or .u64 (a : Int) ((b * 256 ^ r : Nat) : Int) = (a : Int) + ((b * 256 ^ r : Nat) : Int) := by
  rcases (show r = 0 ∨ r = 1 ∨ r = 2 ∨ r = 3 ∨ r = 4 ∨ r = 5 ∨ r = 6 ∨ r = 7 by omega) with rfl | rfl | rfl | rfl | rfl | rfl | rfl | rfl
  · rw [or_apart 0 a _ (by omega) (by omega) (by omega) (by omega)]; omega
  · rw [or_apart 8 a _ (by omega) (by omega) (by omega) (by omega)]; omega
  · rw [or_apart 16 a _ (by omega) (by omega) (by omega) (by omega)]; omega
  · rw [or_apart 24 a _ (by omega) (by omega) (by omega) (by omega)]; omega
  · rw [or_apart 32 a _ (by omega) (by omega) (by omega) (by omega)]; omega
  · rw [or_apart 40 a _ (by omega) (by omega) (by omega) (by omega)]; omega
  · rw [or_apart 48 a _ (by omega) (by omega) (by omega) (by omega)]; omega
  · rw [or_apart 56 a _ (by omega) (by omega) (by omega) (by omega)]; omega
theorem pieces_is (s : ByteArray) (w : World) (hs : s.size ≤ 400) : Calls Tryz.prog 67 #[.string s] w fun e w' => ∃ v, e = .returned v ∧ OwnP w' w.heap.size 51 v 1 ((pieces s.data.toList).map wordC) ∧ Ext w w' := by
  obtain ⟨m, hm⟩ : ∃ m : Nat, m = (s.size + 7) / 8 := ⟨_, rfl⟩
  have HM := Lib.hid hm
  have hm4 : m ≤ 50 := by omega
  have hms : ∀ W, (Instr.makeSlice 22 (.int .i64 (((s.size : Int) + 7) / 8)) (.int .i64 (((s.size : Int) + 7) / 8))).run Tryz.prog W = .ok (.slice (some ⟨W.heap.size, 0, none⟩) m m) (W.alloc (.cells (madeCells #[.int .u64 0] m) 51)) := by
    intro W
    rw [show ((s.size : Int) + 7) / 8 = (m : Int) by omega]
    exact mk_u64s m (by omega) W
  have hms2 : ∀ W, (Instr.makeSlice 22 (.int .i64 (((s.size : Int) + 8 - 1) / 8)) (.int .i64 (((s.size : Int) + 8 - 1) / 8))).run Tryz.prog W = .ok (.slice (some ⟨W.heap.size, 0, none⟩) m m) (W.alloc (.cells (madeCells #[.int .u64 0] m) 51)) := by
    intro W
    rw [show ((s.size : Int) + 8 - 1) / 8 = (m : Int) by omega]
    exact mk_u64s m (by omega) W
  clear hm
  have hS : s.data.toList.length = s.size := Array.length_toList
  have HS := Lib.hid hS
  clear hS
  go_enter Tryz.func67, Tryz.ntmps67
  go_wp2_with fail
  have ho := made_own w 51 (.int .u64 0) m w.heap.size rfl (Nat.le_refl _) (by unfold maxLen; omega)
  have ho1 : OwnP (w.alloc (.cells (madeCells #[.int .u64 0] m) 51)) w.heap.size 51 (.slice (some ⟨w.heap.size, 0, none⟩) m m) 1 ((List.range m).map fun j => wordC (pieceN (s.data.toList.take 0) j)) := by
    rw [pieces_start m wordC]; exact ho
  have HO := Lib.hid ho1
  have X1 := Lib.hid (Ext.alloc w (.cells (madeCells #[.int .u64 0] m) 51))
  generalize w.alloc (.cells (madeCells #[.int .u64 0] m) 51) = w1 at *
  clear ho ho1
  go_wp2_with fail
  go_loopw [13] (fun i wr => ∃ k : Nat, k ≤ s.size ∧ i = .int .i64 k ∧ OwnP wr w.heap.size 51 (.slice (some ⟨w.heap.size, 0, none⟩) m m) 1 ((List.range m).map fun j => wordC (pieceN (s.data.toList.take k) j)) ∧ Ext w wr) (fun i _ => s.size - (Go.RowKit.intOf i).toNat)
  case atStart => exact ⟨0, by omega, rfl, HO.out, X1.out⟩
  case round =>
    obtain ⟨k, hk, rfl, hown, hx⟩ := hrel
    have HOW := Lib.hid hown; have HX := Lib.hid hx
    clear hx
    by_cases hlt : k < s.size
    · have i1 : (k : Int) < (s.size : Int) := by omega
      have hkl : k < s.data.toList.length := by rw [HS.out]; exact hlt
      have hxk := List.getElem?_eq_getElem hkl
      generalize hbx : s.data.toList[k] = x at hxk
      obtain ⟨j, hj⟩ : ∃ j : Nat, j = k / 8 := ⟨_, rfl⟩
      have HJ := Lib.hid hj
      have hjm : j < m := by have := HM.out; omega
      have hjk : (k : Int) / 8 = (j : Int) := by omega
      obtain ⟨r, hr⟩ : ∃ r : Nat, r = k % 8 := ⟨_, rfl⟩
      have HR := Lib.hid hr
      have hrk : (k : Int) % 8 = (r : Int) := by omega
      have hrk2 : (k : Int).tmod 8 = (r : Int) := by rw [Int.tmod_eq_emod_of_nonneg (by omega)]; omega
      have hr8 : r < 8 := by omega
      have hjm2 : (j : Int) < (m : Int) := by omega
      have hwj : IntKind.i64.wrap (j : Int) = (j : Int) := wrap64_of (by omega) (by omega)
      have hrow : ((List.range m).map fun j => wordC (pieceN (s.data.toList.take k) j))[j]? = some [.int .u64 (pieceN (s.data.toList.take k) j)] := by simp [hjm, wordC]
      obtain ⟨g', e, _, y0, f0⟩ := hown.cell hrow (f := 0) rfl
      obtain ⟨rfl, _⟩ := Addr.mk.inj (Option.some.inj e)
      have hP := pieceN_here hxk
      rw [← hj, ← hr] at hP
      have hor : bits .or .u64 (pieceN (s.data.toList.take k) j) ((x.toNat : Int) * 256 ^ r) = pieceN (s.data.toList.take k) j + ((x.toNat * 256 ^ r : Nat) : Int) := by
        obtain ⟨_, hp1, hp2⟩ := hP
        obtain ⟨a, ha⟩ := Int.eq_ofNat_of_zero_le hp1
        rw [ha] at hp2 ⊢
        have hp3 : a < 256 ^ r := by exact_mod_cast hp2
        rw [show ((x.toNat : Int) * 256 ^ r) = ((x.toNat * 256 ^ r : Nat) : Int) by push_cast; rfl]
        exact or_shl x.toNat_lt hr8 hp3
      have hst := hown.store (f := 0) hrow (by omega) (u := .int .u64 (pieceN (s.data.toList.take k) j + ((x.toNat * 256 ^ r : Nat) : Int))) rfl
      have hps := pieces_step (m := m) hxk wordC
      rw [← hj, ← hr] at hps
      have HST := Lib.hid (show OwnP (wr.setCell ⟨w.heap.size, j, none⟩ (.int .u64 (pieceN (s.data.toList.take k) j + ((x.toNat * 256 ^ r : Nat) : Int)))) w.heap.size 51 (.slice (some ⟨w.heap.size, 0, none⟩) m m) 1 ((List.range m).map fun j => wordC (pieceN (s.data.toList.take (k + 1)) j)) by rw [hps]; simpa [wordC] using hst)
      rw [← hor] at HST
      have HT := Lib.hid (show Ext w (wr.setCell ⟨w.heap.size, j, none⟩ (.int .u64 (bits .or .u64 (pieceN (s.data.toList.take k) j) ((x.toNat : Int) * 256 ^ r)))) from Below.setCell HX.out (Nat.le_refl _) _)
      clear hj hr hown hrow hor hst hps hP
      have hsk : (s[k]'hlt).toNat = x.toNat := by rw [← hbx]; rfl
      have hsh : ∀ W, (Op.shift .shl .u64 (IntKind.u64.wrap ((s[k]'hlt).toNat : Int)) .i64 (IntKind.i64.wrap (8 * (k : Int).tmod 8))).run Tryz.prog W = .ok (.int .u64 ((x.toNat * 256 ^ r : Nat) : Int)) W := fun W => by
        rw [hsk, hrk2]; exact shl_run x.toNat_lt r hr8 W
      have HK2 := Lib.hid hrk2
      clear hrk hrk2 hbx hsk
      go_upto_region 5 with fail
      rw [Nat.mul_one, Nat.add_zero] at y0 f0
      refine wp_region_noPanic ?_
      refine wp_region_last 15 (S := (fun w' => w'.cell? ⟨w.heap.size, j, none⟩ = some (.int .u64 (pieceN (s.data.toList.take k) j)) ∧ w'.frozen? ⟨w.heap.size, j, none⟩ = false ∧ Ext wr w')) (by kernel_rfl) (by kernel_rfl) _ rfl ?_ (fun hHeld => ?_)
      · (refine keepB y0 f0 ?_; first | exact Ext.drew _)
      simp only [List.take_succ_cons, List.take_zero]
      refine wpAnyH_take (i := 0) (v := ?v1) rfl (by kernel_rfl) (by kernel_rfl) (by kernel_rfl) (fun _ _ _ h => h) (Or.inl ⟨by rfl, ?y1⟩) (by assumption) ?r1
      case y1 => intro w hSw; (try dsimp only at hSw); go_simp; (try with_reducible rfl)
      (try simp only [Act.put, List.setIfInBounds_toArray, List.set_cons_zero, List.set_cons_succ, List.getElem_toArray, List.getElem_cons_zero, List.getElem_cons_succ])
      refine wpAnyH_take (i := 1) (v := ?v2) rfl (by kernel_rfl) (by kernel_rfl) (by kernel_rfl) (fun _ _ _ h => h) (Or.inl ⟨by rfl, ?y2⟩) (by assumption) ?r2
      case y2 => intro w hSw; (try dsimp only at hSw); go_simp; (try with_reducible rfl)
      (try simp only [Act.put, List.setIfInBounds_toArray, List.set_cons_zero, List.set_cons_succ, List.getElem_toArray, List.getElem_cons_zero, List.getElem_cons_succ])
      refine wpAnyH_take (i := 2) (v := ?v3) rfl (by kernel_rfl) (by kernel_rfl) (by kernel_rfl) (fun _ _ _ h => h) (Or.inl ⟨by rfl, ?y3⟩) (by assumption) ?r3
      case y3 => intro w hSw; (try dsimp only at hSw); go_simp; (try with_reducible rfl)
      (try simp only [Act.put, List.setIfInBounds_toArray, List.set_cons_zero, List.set_cons_succ, List.getElem_toArray, List.getElem_cons_zero, List.getElem_cons_succ])
      refine wpAnyH_take (i := 3) (v := ?v4) rfl (by kernel_rfl) (by kernel_rfl) (by kernel_rfl) (fun _ _ _ h => h) (Or.inl ⟨by rfl, ?y4⟩) (by assumption) ?r4
      case y4 => intro w hSw; (try dsimp only at hSw); go_simp; (try with_reducible rfl)
      (try simp only [Act.put, List.setIfInBounds_toArray, List.set_cons_zero, List.set_cons_succ, List.getElem_toArray, List.getElem_cons_zero, List.getElem_cons_succ])
      refine wpAnyH_take (i := 4) (v := ?v5) rfl (by kernel_rfl) (by kernel_rfl) (by kernel_rfl) (fun _ _ _ h => h) (Or.inl ⟨by rfl, ?y5⟩) (by assumption) ?r5
      case y5 => intro w hSw; (try dsimp only at hSw); go_simp; (try with_reducible rfl)
      (try simp only [Act.put, List.setIfInBounds_toArray, List.set_cons_zero, List.set_cons_succ, List.getElem_toArray, List.getElem_cons_zero, List.getElem_cons_succ])
      refine wpAnyH_take (i := 5) (v := ?v6) rfl (by kernel_rfl) (by kernel_rfl) (by kernel_rfl) (fun _ _ _ h => h) (Or.inl ⟨by rfl, ?y6⟩) (by assumption) ?r6
      case y6 => intro w hSw; (try dsimp only at hSw); go_simp; (try with_reducible rfl)
      (try simp only [Act.put, List.setIfInBounds_toArray, List.set_cons_zero, List.set_cons_succ, List.getElem_toArray, List.getElem_cons_zero, List.getElem_cons_succ])
      refine wpAnyH_take (i := 6) (v := ?v7) rfl (by kernel_rfl) (by kernel_rfl) (by kernel_rfl) (fun _ _ _ h => h) (Or.inl ⟨by rfl, ?y7⟩) (by assumption) ?r7
      case y7 => intro w hSw; (try dsimp only at hSw); go_simp; (try with_reducible rfl)
      (try simp only [Act.put, List.setIfInBounds_toArray, List.set_cons_zero, List.set_cons_succ, List.getElem_toArray, List.getElem_cons_zero, List.getElem_cons_succ])
      refine wpAnyH_take (i := 7) (v := ?v8) rfl (by kernel_rfl) (by kernel_rfl) (by kernel_rfl) (fun _ _ _ h => h) (Or.inl ⟨by rfl, ?y8⟩) (by assumption) ?r8
      case y8 => intro w hSw; (try dsimp only at hSw); go_simp; (try with_reducible rfl)
      (try simp only [Act.put, List.setIfInBounds_toArray, List.set_cons_zero, List.set_cons_succ, List.getElem_toArray, List.getElem_cons_zero, List.getElem_cons_succ])
      refine wpAnyH_take (i := 8) (v := ?v9) rfl (by kernel_rfl) (by kernel_rfl) (by kernel_rfl) (fun _ _ _ h => h) (Or.inl ⟨by rfl, ?y9⟩) (by assumption) ?r9
      case y9 => intro w hSw; (try dsimp only at hSw); go_simp; (try with_reducible rfl)
      (try simp only [Act.put, List.setIfInBounds_toArray, List.set_cons_zero, List.set_cons_succ, List.getElem_toArray, List.getElem_cons_zero, List.getElem_cons_succ])
      refine wpAnyH_take (i := 9) (v := ?v10) rfl (by kernel_rfl) (by kernel_rfl) (by kernel_rfl) (fun _ _ _ h => h) (Or.inl ⟨by rfl, ?y10⟩) (by assumption) ?r10
      case y10 => intro w hSw; (try dsimp only at hSw); go_simp; (try with_reducible rfl)
      (try simp only [Act.put, List.setIfInBounds_toArray, List.set_cons_zero, List.set_cons_succ, List.getElem_toArray, List.getElem_cons_zero, List.getElem_cons_succ])
      refine wpAnyH_take (i := 10) (v := ?v11) rfl (by kernel_rfl) (by kernel_rfl) (by kernel_rfl) (fun _ _ _ h => h) (Or.inl ⟨by rfl, ?y11⟩) (by assumption) ?r11
      case y11 => intro w hSw; (try dsimp only at hSw); go_simp; (try with_reducible rfl)
      (try simp only [Act.put, List.setIfInBounds_toArray, List.set_cons_zero, List.set_cons_succ, List.getElem_toArray, List.getElem_cons_zero, List.getElem_cons_succ])
      refine wpAnyH_take (i := 11) (v := ?v12) rfl (by kernel_rfl) (by kernel_rfl) (by kernel_rfl) (fun _ _ _ h => h) (Or.inl ⟨by rfl, ?y12⟩) (by assumption) ?r12
      case y12 => intro w hSw; (try dsimp only at hSw); go_simp; (try with_reducible rfl)
      (try simp only [Act.put, List.setIfInBounds_toArray, List.set_cons_zero, List.set_cons_succ, List.getElem_toArray, List.getElem_cons_zero, List.getElem_cons_succ])
      refine wpAnyH_take (i := 12) (v := ?v13) rfl (by kernel_rfl) (by kernel_rfl) (by kernel_rfl) (fun _ _ _ h => h) (Or.inl ⟨by rfl, ?y13⟩) (by assumption) ?r13
      case y13 => intro w hSw; (try dsimp only at hSw); go_simp; (try with_reducible rfl)
      (try simp only [Act.put, List.setIfInBounds_toArray, List.set_cons_zero, List.set_cons_succ, List.getElem_toArray, List.getElem_cons_zero, List.getElem_cons_succ])
      refine wpAnyH_take (i := 13) (v := ?v14) rfl (by kernel_rfl) (by kernel_rfl) (by kernel_rfl) (fun _ _ _ h => h) (Or.inl ⟨by rfl, ?y14⟩) (by assumption) ?r14
      case y14 => intro w hSw; (try dsimp only at hSw); go_simp; (try with_reducible rfl)
      (try simp only [Act.put, List.setIfInBounds_toArray, List.set_cons_zero, List.set_cons_succ, List.getElem_toArray, List.getElem_cons_zero, List.getElem_cons_succ])
      refine wpAnyH_take (i := 14) (v := ?v15) rfl (by kernel_rfl) (by kernel_rfl) (by kernel_rfl) (fun _ _ _ h => h) (Or.inl ⟨by rfl, ?y15⟩) (by assumption) ?r15
      case y15 => intro w hSw; (try dsimp only at hSw); go_simp; (try with_reducible rfl)
      (try simp only [Act.put, List.setIfInBounds_toArray, List.set_cons_zero, List.set_cons_succ, List.getElem_toArray, List.getElem_cons_zero, List.getElem_cons_succ])
      refine wpAnyH_done (by kernel_rfl) ?_ _
      show wpList _ _ _ _ _ _
      go_wp2
      refine NoPanic.normal ?_
      go_wp2
      exact ⟨⟨k + 1, by omega, by go_num, HST.out.ext (Ext.drew _), HT.out.trans (Ext.drew _)⟩, by simp [Go.RowKit.intOf]; omega⟩
    · obtain rfl : k = s.size := by omega
      have hfin : (List.range m).map (fun j => wordC (pieceN (s.data.toList.take s.size) j)) = (pieces s.data.toList).map wordC := by
        rw [← HS.out, List.take_length]
        unfold pieces
        rw [List.map_map, HS.out, ← HM.out]
        rfl
      rw [hfin] at HOW
      clear hown hfin
      go_wp2_with fail
      go_ret
      exact ⟨_, rfl, HOW.out, HX.out⟩
end Go.Proofs.YtinakendlpomnaaGreat
/- An object's words laid out (the reference's). -/
namespace Go.Proofs.YtinakendlpomnaaGreat
open Go.RowKit
set_option maxHeartbeats 4000000
set_option maxRecDepth 100000
theorem range_succ_map (m : Nat) (f : Nat → List Value) : (List.range (m + 1)).map f = (List.range m).map f ++ [f m] := by rw [List.range_succ, List.map_append]; rfl
theorem lay_row (kd tg : Int) (n c : Nat) (q : Option Addr) (F : List Int) (w : World) (hF : RowsP w (.slice q n c) 1 (F.map wordC)) (h : mayK kd tg n 0 = true) (_h2 : kd ≠ 2) : Calls Tryz.prog 36 #[.agg #[.int .i64 kd, .int .i64 tg, .slice q n c, .string ByteArray.empty]] w fun e w' => ∃ v, e = .returned v ∧ OwnP w' w.heap.size 51 v 1 ((headK kd tg n 0 :: F).map wordC) ∧ Ext w w' := by
  have hF0 := hF
  have hb := mayK_bounds h
  have hz : ByteArray.empty.size = 0 := rfl
  have hhd := fun W => refhead_is kd tg n c q ByteArray.empty W (by rw [hz]; exact h)
  rw [hz] at hhd
  generalize headK kd tg n 0 = hd at hhd ⊢
  have HH := Lib.hid hhd
  clear hhd hz
  obtain ⟨q', c', hv, hl1, hl2, hl3⟩ := RowsP.at hF0
  obtain ⟨rfl, hn, rfl⟩ := Value.slice.inj hv
  rw [List.length_map] at hn
  clear hl1 hl2 hl3
  subst hn
  have HF := Lib.hid hF
  have hn4 : F.length ≤ 400 := hb.2.2.2.2.1
  clear hF hF0 hv h hb _h2
  go_enter Tryz.func36, Tryz.ntmps36
  go_wp2_with fail
  refine at_alloc1 fun W hE hS b0 => ?_
  refine (HH.out _).mono ?_
  rintro e w1 ⟨rfl, hx⟩
  have hb1 := (Below.block hx w.heap.size (by omega)).trans b0
  have HX := Lib.hid (hE.trans hx)
  clear hx hE hS b0
  obtain ⟨x0, x1, x2, x3⟩ := cells4 hb1
  have hs2 : w.heap.size < w1.heap.size := (Array.getElem?_eq_some_iff.1 hb1).1
  clear hb1
  have hs1 : w.heap.size ≤ w1.heap.size := HX.out.size
  have HO1 := Lib.hid (show OwnP (w1.alloc (.cells #[.int .u64 (hd)] 51)) w.heap.size 51 (.slice (some ⟨w1.heap.size, 0, none⟩) 1 1) 1 [wordC hd] from OwnP.of_form (Rows1.one rfl (by intro u hu; simp [wordC] at hu; subst hu; rfl)) hs1 (heap_alloc_new _ _) (by simp) (by unfold maxLen; omega) (by simp) (by simp [wordC]))
  go_wp2_with (refine wpList_append_rows E64 (by rfl) _ _ (by rfl) w.heap.size (.slice (some ⟨w1.heap.size, 0, none⟩) 1 1) (.slice q F.length c) [wordC hd] (F.map wordC) (by rfl) HO1.out (by rfl) (RowsP.ext HF.out (HX.out.trans (Ext.alloc _ _))) (by simp; unfold maxLen; omega) (by simp; omega) (by simp; omega) ?_)
  intro v2 w2 ho2 hg2 hb2 _
  have hx2 : Ext w w2 := Below.grown (HX.out.trans (Ext.alloc _ _)) hg2 (by simp; omega) (fun b hb => by simp [Value.ownBlock] at hb; omega)
  have z3 := hg2.cell (a := ⟨w.heap.size, 3, none⟩) ((Ext.alloc w1 _).cell x3) (by simp [Value.ownBlock]; omega)
  obtain ⟨q2, c2, rfl, _⟩ := ho2.len
  have HO2 := Lib.hid ho2; have HX2 := Lib.hid hx2
  clear ho2 hg2 hb2 hx2 x0 x1 x2 x3
  go_wp2_with fail
  refine wp_loop_rounds 1 ?_
  rw [rounds_succ]
  go_wp2
  go_ret
  exact ⟨_, rfl, HO2.out, HX2.out⟩
end Go.Proofs.YtinakendlpomnaaGreat
/- A text's object laid out (the reference's). -/
namespace Go.Proofs.YtinakendlpomnaaGreat
open Go.RowKit
set_option maxHeartbeats 4000000
set_option maxRecDepth 100000
theorem _root_.Go.RowKit.Below.cellB {B : Nat} {w w' : World} (h : Below B w w') {a : Addr} {v : Value} (ha : a.block < B) (hc : w.cell? a = some v) : w'.cell? a = some v := by
  rw [World.cell?_of_block (w := w) (Below.block h a.block ha)]
  exact hc
theorem shl_val {b r m : Nat} (hb : b < 256) (hr : r < 8) (hm : m = r) : IntKind.u64.wrap (IntKind.u64.wrap (b : Int) * 2 ^ min (8 * m) 64) = ((b * 256 ^ r : Nat) : Int) := by
  subst hm
  rw [wrapu_of (x := (b : Int)) (by omega) (by omega), show min (8 * m) 64 = 8 * m by omega]
  rcases (show m = 0 ∨ m = 1 ∨ m = 2 ∨ m = 3 ∨ m = 4 ∨ m = 5 ∨ m = 6 ∨ m = 7 by omega) with rfl | rfl | rfl | rfl | rfl | rfl | rfl | rfl <;> (rw [wrapu_of (by omega) (by omega)]; omega)
theorem lay_text (c : Nat) (q : Option Addr) (s : ByteArray) (w : World) (hF : RowsP w (.slice q 0 c) 1 []) (h : s.size ≤ 400) : Calls Tryz.prog 36 #[.agg #[.int .i64 2, .int .i64 0, .slice q 0 c, .string s]] w fun e w' => ∃ v, e = .returned v ∧ OwnP w' w.heap.size 51 v 1 ((headK 2 0 0 s.size :: pieces s.data.toList).map wordC) ∧ Ext w w' := by
  have hhd := fun W => refhead_is 2 0 0 c q s W (by simp [mayK, h])
  generalize headK 2 0 0 s.size = hd at hhd ⊢
  have HH := Lib.hid hhd
  have HF := Lib.hid hF
  have hS : s.data.toList.length = s.size := Array.length_toList
  have HS := Lib.hid hS
  clear hF hhd hS
  go_enter Tryz.func36, Tryz.ntmps36
  go_wp2_with fail
  refine at_alloc1 fun W hE hS b0 => ?_
  refine (HH.out _).mono ?_
  rintro e w1 ⟨rfl, hx⟩
  have hb1 := (Below.block hx w.heap.size (by omega)).trans b0
  have HX := Lib.hid (hE.trans hx)
  clear hx hE hS b0
  obtain ⟨x0, x1, x2, x3⟩ := cells4 hb1
  have hs2 : w.heap.size < w1.heap.size := (Array.getElem?_eq_some_iff.1 hb1).1
  clear hb1
  have HO1 := Lib.hid (show OwnP (w1.alloc (.cells #[.int .u64 hd] 51)) (w.heap.size + 1) 51 (.slice (some ⟨w1.heap.size, 0, none⟩) 1 1) 1 [wordC hd] from OwnP.of_form (Rows1.one rfl (by intro u hu; simp [wordC] at hu; subst hu; rfl)) hs2 (heap_alloc_new _ _) (by simp) (by unfold maxLen; omega) (by simp) (by simp [wordC]))
  go_wp2_with (refine wpList_append_rows E64 (by rfl) _ _ (by rfl) (w.heap.size + 1) (.slice (some ⟨w1.heap.size, 0, none⟩) 1 1) (.slice q 0 c) [wordC hd] [] (by rfl) HO1.out (by rfl) (RowsP.ext HF.out (HX.out.trans (Ext.alloc _ _))) (by simp; unfold maxLen; omega) (by simp) (by simp; omega) ?_)
  intro v2 w2 ho2 hg2 hb2 _
  have hx2 : Ext w w2 := Below.grown (HX.out.trans (Ext.alloc _ _)) hg2 (by simp; omega) (fun b hb => by simp [Value.ownBlock] at hb; omega)
  have Z3 := Lib.hid (hg2.cell (a := ⟨w.heap.size, 3, none⟩) ((Ext.alloc w1 _).cell x3) (by simp [Value.ownBlock]; omega))
  have hsz2 : w.heap.size + 1 ≤ w2.heap.size := by have := World.block_lt_of_cell? _ _ Z3.out; exact this
  have HX2 := Lib.hid hx2
  have HO2 := Lib.hid (show OwnP w2 (w.heap.size + 1) 51 v2 1 (wordC hd :: (List.range ((0 + 7) / 8)).map fun i => wordC (pieceN (s.data.toList.take 0) i)) by simpa using ho2)
  clear ho2 hg2 hb2 hx2 x0 x1 x2 x3
  go_wp2_with fail
  go_loopw [3, 4] (fun v i wr => ∃ (k : Nat) (vv : Value), k ≤ s.size ∧ i = .int .i64 k ∧ v = vv ∧ OwnP wr (w.heap.size + 1) 51 vv 1 (wordC hd :: (List.range ((k + 7) / 8)).map fun i => wordC (pieceN (s.data.toList.take k) i)) ∧ Below (w.heap.size + 1) w2 wr) (fun _ i _ => s.size - (Go.RowKit.intOf i).toNat)
  case atStart => exact ⟨0, _, by omega, rfl, rfl, HO2.out, Below.refl _ _⟩
  case round =>
    obtain ⟨k, vv, hk, rfl, hvv, hown, hB⟩ := hrel
    obtain rfl := hvv.symm
    have HOW := Lib.hid hown; have HB := Lib.hid hB
    have z0 := hB.cellB (a := ⟨w.heap.size, 3, none⟩) (Nat.lt_succ_self _) Z3.out
    clear hown hB
    by_cases hlt : k < s.size
    · have i1 : (k : Int) < (s.size : Int) := by omega
      have hkl : k < s.data.toList.length := by rw [HS.out]; exact hlt
      have hxk := List.getElem?_eq_getElem hkl
      generalize hbx : s.data.toList[k] = x at hxk
      have HXK := Lib.hid hxk
      obtain ⟨j, hj⟩ : ∃ j : Nat, j = k / 8 := ⟨_, rfl⟩
      have HJ := Lib.hid hj
      have hjk : (k : Int) / 8 = (j : Int) := by omega
      have hj50 : j ≤ 50 := by omega
      obtain ⟨r, hr⟩ : ∃ r : Nat, r = k % 8 := ⟨_, rfl⟩
      have HR := Lib.hid hr
      have hrk2 : (k : Int).tmod 8 = (r : Int) := by rw [Int.tmod_eq_emod_of_nonneg (by omega)]; omega
      have hr8 : r < 8 := by omega
      have hjm2 : 1 + (j : Int) < (j : Int) + 2 := by omega
      have hjm3 : (0 : Int) ≤ 1 + (j : Int) := by omega
      have hwj0 : IntKind.i64.wrap (j : Int) = (j : Int) := wrap64_of (by omega) (by omega)
      have htn : (1 + (j : Int)).toNat = j + 1 := by omega
      have hwj : IntKind.i64.wrap (1 + (j : Int)) = 1 + (j : Int) := wrap64_of (by omega) (by omega)
      have hP := pieceN_here hxk
      rw [← hj, ← hr] at hP
      have HOR := Lib.hid (show bits .or .u64 (pieceN (s.data.toList.take k) j) (IntKind.u64.wrap (IntKind.u64.wrap (x.toNat : Int) * 2 ^ min (8 * (k % 8)) 64)) = pieceN (s.data.toList.take k) j + ((x.toNat * 256 ^ r : Nat) : Int) by
        obtain ⟨_, hp1, hp2⟩ := hP
        obtain ⟨a, ha⟩ := Int.eq_ofNat_of_zero_le hp1
        rw [ha] at hp2 ⊢
        have hp3 : a < 256 ^ r := by exact_mod_cast hp2
        rw [shl_val x.toNat_lt hr8 (show k % 8 = r by omega)]
        exact or_shl x.toNat_lt hr8 hp3)
      have hsk : (s[k]'hlt).toNat = x.toNat := by rw [← hbx]; rfl
      by_cases hr0 : r = 0
      · have hrm : (k : Int) % 8 = 0 := by omega
        have hjn : (k + 7) / 8 = j := by omega
        rw [hjn] at HOW
        have hpn : pieceN (s.data.toList.take k) j = 0 := by
          unfold pieceN
          rw [List.drop_of_length_le (by rw [List.length_take]; omega)]
          rfl
        have HPN := Lib.hid hpn
        have hlen2 : 1 + j ≤ 60 := by omega
        have HK2 := Lib.hid hrk2
        have hB0 := HB.out
        have hown0 := HOW.out.own
        clear hj hr hxk hbx hP hpn
        go_wp2_with (refine wpList_append_rows E64 (by rfl) _ _ (by rfl) (w.heap.size + 1) vv (.slice (some ⟨wr.heap.size, 0, none⟩) 1 1) (wordC hd :: (List.range j).map fun i => wordC (pieceN (s.data.toList.take k) i)) [[.int .u64 0]] (by rfl) (HOW.out.ext (Ext.alloc _ _)) (by rfl) (rows_of_block (cs := #[.int .u64 0]) (heap_alloc_new _ _) rfl (by intro u hu; simp at hu; subst hu; rfl)) (by simp; unfold maxLen; omega) (by simp; omega) (by have := Below.size hB0; simp; omega) ?_)
        intro v4 w4 ho4 hg4 hb4 _
        have HB4 := Lib.hid (show Below (w.heap.size + 1) w2 w4 from Below.grown (Below.alloc hB0 (by have := Below.size hB0; omega) _) hg4 (by have := Below.size hB0; simp; omega) (fun b hb => (hown0 b hb).1))
        have HOW4 := Lib.hid (show OwnP w4 (w.heap.size + 1) 51 v4 1 (wordC hd :: (List.range (j + 1)).map fun i => wordC (pieceN (s.data.toList.take k) i)) by
          rw [range_succ_map, HPN.out]; simpa [wordC] using ho4)
        clear ho4 hg4 hb4 hB0 hown0 z0 HOW HB HPN hrk2
        rename Hid (Below (w.heap.size + 1) w2 w4) => HB
        rename Hid (OwnP w4 _ _ v4 _ _) => HOW
        have hown := HOW.out
        obtain ⟨gv, cv, hgv, hgb⟩ : ∃ gv cv, v4 = .slice (some ⟨gv, 0, none⟩) (j + 2) cv ∧ w.heap.size + 1 ≤ gv := by
          rcases hown.forms with ⟨_, h⟩ | ⟨gv, cap, cur, h, hb, _⟩
          · cases h
          · exact ⟨gv, cap, by rw [h]; simp, hb⟩
        subst hgv
        have hrow : (wordC hd :: (List.range (j + 1)).map fun i => wordC (pieceN (s.data.toList.take k) i))[j + 1]? = some [.int .u64 (pieceN (s.data.toList.take k) j)] := by simp [wordC]
        obtain ⟨g', e, _, y0, f0⟩ := hown.cell hrow (f := 0) rfl
        obtain ⟨rfl, _⟩ := Addr.mk.inj (Option.some.inj e)
        have z3 := (HB.out.cellB (a := ⟨w.heap.size, 3, none⟩) (Nat.lt_succ_self _) Z3.out)
        have hps := pieces_step (m := j + 1) HXK.out wordC
        rw [← HJ.out, ← HR.out] at hps
        have hst := hown.store (i := j + 1) (f := 0) hrow (by omega) (u := .int .u64 (pieceN (s.data.toList.take k) j + ((x.toNat * 256 ^ r : Nat) : Int))) rfl
        have HST := Lib.hid (show OwnP (w4.setCell ⟨gv, j + 1, none⟩ (.int .u64 (pieceN (s.data.toList.take k) j + ((x.toNat * 256 ^ r : Nat) : Int)))) (w.heap.size + 1) 51 (.slice (some ⟨gv, 0, none⟩) (j + 2) cv) 1 (wordC hd :: (List.range (j + 1)).map fun i => wordC (pieceN (s.data.toList.take (k + 1)) i)) by rw [hps]; simpa [wordC] using hst)
        rw [← HOR.out] at HST
        have HT := Lib.hid (show Below (w.heap.size + 1) w2 (w4.setCell ⟨gv, j + 1, none⟩ (.int .u64 (bits .or .u64 (pieceN (s.data.toList.take k) j) (IntKind.u64.wrap (IntKind.u64.wrap (x.toNat : Int) * 2 ^ min (8 * (k % 8)) 64))))) from Below.setCell HB.out hgb _)
        rw [Nat.mul_one, Nat.add_zero] at y0 f0
        clear hown hrow hps hst e hgb
        go_upto_region 8 with fail
        refine wp_region_noPanic ?_
        refine wp_region_last 18 (S := (fun w' => w'.cell? ⟨gv, j + 1, none⟩ = some (.int .u64 (pieceN (s.data.toList.take k) j)) ∧ w'.frozen? ⟨gv, j + 1, none⟩ = false ∧ w'.cell? ⟨w.heap.size, 3, none⟩ = some (.string s))) (by kernel_rfl) (by kernel_rfl) _ rfl ?_ (fun hHeld => ?_)
        · (exact ⟨(Ext.drew _).cell y0, ((Ext.drew _).frozen y0).trans f0, (Ext.drew _).cell z3⟩)
        simp only [List.take_succ_cons, List.take_zero]
        refine wpAnyH_take (i := 0) (v := ?v1) rfl (by kernel_rfl) (by kernel_rfl) (by kernel_rfl) (fun _ _ _ h => h) (Or.inl ⟨by rfl, ?y1⟩) (by assumption) ?r1
        case y1 => intro w hSw; (try dsimp only at hSw); go_simp; (try with_reducible rfl)
        (try simp only [Act.put, List.setIfInBounds_toArray, List.set_cons_zero, List.set_cons_succ, List.getElem_toArray, List.getElem_cons_zero, List.getElem_cons_succ])
        refine wpAnyH_take (i := 1) (v := ?v2) rfl (by kernel_rfl) (by kernel_rfl) (by kernel_rfl) (fun _ _ _ h => h) (Or.inl ⟨by rfl, ?y2⟩) (by assumption) ?r2
        case y2 => intro w hSw; (try dsimp only at hSw); go_simp; (try with_reducible rfl)
        (try simp only [Act.put, List.setIfInBounds_toArray, List.set_cons_zero, List.set_cons_succ, List.getElem_toArray, List.getElem_cons_zero, List.getElem_cons_succ])
        refine wpAnyH_take (i := 2) (v := ?v3) rfl (by kernel_rfl) (by kernel_rfl) (by kernel_rfl) (fun _ _ _ h => h) (Or.inl ⟨by rfl, ?y3⟩) (by assumption) ?r3
        case y3 => intro w hSw; (try dsimp only at hSw); go_simp; (try with_reducible rfl)
        (try simp only [Act.put, List.setIfInBounds_toArray, List.set_cons_zero, List.set_cons_succ, List.getElem_toArray, List.getElem_cons_zero, List.getElem_cons_succ])
        refine wpAnyH_take (i := 3) (v := ?v4) rfl (by kernel_rfl) (by kernel_rfl) (by kernel_rfl) (fun _ _ _ h => h) (Or.inl ⟨by rfl, ?y4⟩) (by assumption) ?r4
        case y4 => intro w hSw; (try dsimp only at hSw); go_simp; (try with_reducible rfl)
        (try simp only [Act.put, List.setIfInBounds_toArray, List.set_cons_zero, List.set_cons_succ, List.getElem_toArray, List.getElem_cons_zero, List.getElem_cons_succ])
        refine wpAnyH_take (i := 4) (v := ?v5) rfl (by kernel_rfl) (by kernel_rfl) (by kernel_rfl) (fun _ _ _ h => h) (Or.inl ⟨by rfl, ?y5⟩) (by assumption) ?r5
        case y5 => intro w hSw; (try dsimp only at hSw); go_simp; (try with_reducible rfl)
        (try simp only [Act.put, List.setIfInBounds_toArray, List.set_cons_zero, List.set_cons_succ, List.getElem_toArray, List.getElem_cons_zero, List.getElem_cons_succ])
        refine wpAnyH_take (i := 5) (v := ?v6) rfl (by kernel_rfl) (by kernel_rfl) (by kernel_rfl) (fun _ _ _ h => h) (Or.inl ⟨by rfl, ?y6⟩) (by assumption) ?r6
        case y6 => intro w hSw; (try dsimp only at hSw); go_simp; (try with_reducible rfl)
        (try simp only [Act.put, List.setIfInBounds_toArray, List.set_cons_zero, List.set_cons_succ, List.getElem_toArray, List.getElem_cons_zero, List.getElem_cons_succ])
        refine wpAnyH_take (i := 6) (v := ?v7) rfl (by kernel_rfl) (by kernel_rfl) (by kernel_rfl) (fun _ _ _ h => h) (Or.inl ⟨by rfl, ?y7⟩) (by assumption) ?r7
        case y7 => intro w hSw; (try dsimp only at hSw); go_simp; (try with_reducible rfl)
        (try simp only [Act.put, List.setIfInBounds_toArray, List.set_cons_zero, List.set_cons_succ, List.getElem_toArray, List.getElem_cons_zero, List.getElem_cons_succ])
        refine wpAnyH_take (i := 7) (v := ?v8) rfl (by kernel_rfl) (by kernel_rfl) (by kernel_rfl) (fun _ _ _ h => h) (Or.inl ⟨by rfl, ?y8⟩) (by assumption) ?r8
        case y8 => intro w hSw; (try dsimp only at hSw); go_simp; (try with_reducible rfl)
        (try simp only [Act.put, List.setIfInBounds_toArray, List.set_cons_zero, List.set_cons_succ, List.getElem_toArray, List.getElem_cons_zero, List.getElem_cons_succ])
        refine wpAnyH_take (i := 8) (v := ?v9) rfl (by kernel_rfl) (by kernel_rfl) (by kernel_rfl) (fun _ _ _ h => h) (Or.inl ⟨by rfl, ?y9⟩) (by assumption) ?r9
        case y9 => intro w hSw; (try dsimp only at hSw); go_simp; (try with_reducible rfl)
        (try simp only [Act.put, List.setIfInBounds_toArray, List.set_cons_zero, List.set_cons_succ, List.getElem_toArray, List.getElem_cons_zero, List.getElem_cons_succ])
        refine wpAnyH_take (i := 9) (v := ?v10) rfl (by kernel_rfl) (by kernel_rfl) (by kernel_rfl) (fun _ _ _ h => h) (Or.inl ⟨by rfl, ?y10⟩) (by assumption) ?r10
        case y10 => intro w hSw; (try dsimp only at hSw); go_simp; (try with_reducible rfl)
        (try simp only [Act.put, List.setIfInBounds_toArray, List.set_cons_zero, List.set_cons_succ, List.getElem_toArray, List.getElem_cons_zero, List.getElem_cons_succ])
        refine wpAnyH_take (i := 10) (v := ?v11) rfl (by kernel_rfl) (by kernel_rfl) (by kernel_rfl) (fun _ _ _ h => h) (Or.inl ⟨by rfl, ?y11⟩) (by assumption) ?r11
        case y11 => intro w hSw; (try dsimp only at hSw); go_simp; (try with_reducible rfl)
        (try simp only [Act.put, List.setIfInBounds_toArray, List.set_cons_zero, List.set_cons_succ, List.getElem_toArray, List.getElem_cons_zero, List.getElem_cons_succ])
        refine wpAnyH_take (i := 11) (v := ?v12) rfl (by kernel_rfl) (by kernel_rfl) (by kernel_rfl) (fun _ _ _ h => h) (Or.inl ⟨by rfl, ?y12⟩) (by assumption) ?r12
        case y12 => intro w hSw; (try dsimp only at hSw); go_simp; (try with_reducible rfl)
        (try simp only [Act.put, List.setIfInBounds_toArray, List.set_cons_zero, List.set_cons_succ, List.getElem_toArray, List.getElem_cons_zero, List.getElem_cons_succ])
        refine wpAnyH_take (i := 12) (v := ?v13) rfl (by kernel_rfl) (by kernel_rfl) (by kernel_rfl) (fun _ _ _ h => h) (Or.inl ⟨by rfl, ?y13⟩) (by assumption) ?r13
        case y13 => intro w hSw; (try dsimp only at hSw); go_simp; (try with_reducible rfl)
        (try simp only [Act.put, List.setIfInBounds_toArray, List.set_cons_zero, List.set_cons_succ, List.getElem_toArray, List.getElem_cons_zero, List.getElem_cons_succ])
        refine wpAnyH_take (i := 13) (v := ?v14) rfl (by kernel_rfl) (by kernel_rfl) (by kernel_rfl) (fun _ _ _ h => h) (Or.inl ⟨by rfl, ?y14⟩) (by assumption) ?r14
        case y14 => intro w hSw; (try dsimp only at hSw); go_simp; (try with_reducible rfl)
        (try simp only [Act.put, List.setIfInBounds_toArray, List.set_cons_zero, List.set_cons_succ, List.getElem_toArray, List.getElem_cons_zero, List.getElem_cons_succ])
        refine wpAnyH_take (i := 14) (v := ?v15) rfl (by kernel_rfl) (by kernel_rfl) (by kernel_rfl) (fun _ _ _ h => h) (Or.inl ⟨by rfl, ?y15⟩) (by assumption) ?r15
        case y15 => intro w hSw; (try dsimp only at hSw); go_simp; (try with_reducible rfl)
        (try simp only [Act.put, List.setIfInBounds_toArray, List.set_cons_zero, List.set_cons_succ, List.getElem_toArray, List.getElem_cons_zero, List.getElem_cons_succ])
        refine wpAnyH_take (i := 15) (v := ?v16) rfl (by kernel_rfl) (by kernel_rfl) (by kernel_rfl) (fun _ _ _ h => h) (Or.inl ⟨by rfl, ?y16⟩) (by assumption) ?r16
        case y16 => intro w hSw; (try dsimp only at hSw); go_simp; (try with_reducible rfl)
        (try simp only [Act.put, List.setIfInBounds_toArray, List.set_cons_zero, List.set_cons_succ, List.getElem_toArray, List.getElem_cons_zero, List.getElem_cons_succ])
        refine wpAnyH_take (i := 16) (v := ?v17) rfl (by kernel_rfl) (by kernel_rfl) (by kernel_rfl) (fun _ _ _ h => h) (Or.inl ⟨by rfl, ?y17⟩) (by assumption) ?r17
        case y17 => intro w hSw; (try dsimp only at hSw); go_simp; (try with_reducible rfl)
        (try simp only [Act.put, List.setIfInBounds_toArray, List.set_cons_zero, List.set_cons_succ, List.getElem_toArray, List.getElem_cons_zero, List.getElem_cons_succ])
        refine wpAnyH_take (i := 17) (v := ?v18) rfl (by kernel_rfl) (by kernel_rfl) (by kernel_rfl) (fun _ _ _ h => h) (Or.inl ⟨by rfl, ?y18⟩) (by assumption) ?r18
        case y18 => intro w hSw; (try dsimp only at hSw); go_simp; (try with_reducible rfl)
        (try simp only [Act.put, List.setIfInBounds_toArray, List.set_cons_zero, List.set_cons_succ, List.getElem_toArray, List.getElem_cons_zero, List.getElem_cons_succ])
        refine wpAnyH_done (by kernel_rfl) ?_ _
        show wpList _ _ _ _ _ _
        go_wp2
        refine NoPanic.normal ?_
        go_wp2
        refine ⟨⟨k + 1, _, by omega, by go_num, rfl, ?_, Below.drew HT.out⟩, by simp [Go.RowKit.intOf]; omega⟩
        rw [show (k + 1 + 7) / 8 = j + 1 by have := HJ.out; omega]
        exact HST.out.ext (Ext.drew _)
      · have hrm : ((k : Int) % 8 == 0) = false := beq_false_of_ne (by omega)
        have hjn : (k + 7) / 8 = j + 1 := by omega
        rw [hjn] at HOW
        have hrm2 : (((k : Int).tmod 8) == 0) = false := beq_false_of_ne (by rw [hrk2]; omega)
        have HK2 := Lib.hid hrk2
        clear hj hr hxk hbx hP hrk2 z0
        have hown := HOW.out
        obtain ⟨gv, cv, hgv, hgb⟩ : ∃ gv cv, vv = .slice (some ⟨gv, 0, none⟩) (j + 2) cv ∧ w.heap.size + 1 ≤ gv := by
          rcases hown.forms with ⟨_, h⟩ | ⟨gv, cap, cur, h, hb, _⟩
          · cases h
          · exact ⟨gv, cap, by rw [h]; simp, hb⟩
        subst hgv
        have hrow : (wordC hd :: (List.range (j + 1)).map fun i => wordC (pieceN (s.data.toList.take k) i))[j + 1]? = some [.int .u64 (pieceN (s.data.toList.take k) j)] := by simp [wordC]
        obtain ⟨g', e, _, y0, f0⟩ := hown.cell hrow (f := 0) rfl
        obtain ⟨rfl, _⟩ := Addr.mk.inj (Option.some.inj e)
        have z3 := (HB.out.cellB (a := ⟨w.heap.size, 3, none⟩) (Nat.lt_succ_self _) Z3.out)
        have hps := pieces_step (m := j + 1) HXK.out wordC
        rw [← HJ.out, ← HR.out] at hps
        have hst := hown.store (i := j + 1) (f := 0) hrow (by omega) (u := .int .u64 (pieceN (s.data.toList.take k) j + ((x.toNat * 256 ^ r : Nat) : Int))) rfl
        have HST := Lib.hid (show OwnP (wr.setCell ⟨gv, j + 1, none⟩ (.int .u64 (pieceN (s.data.toList.take k) j + ((x.toNat * 256 ^ r : Nat) : Int)))) (w.heap.size + 1) 51 (.slice (some ⟨gv, 0, none⟩) (j + 2) cv) 1 (wordC hd :: (List.range (j + 1)).map fun i => wordC (pieceN (s.data.toList.take (k + 1)) i)) by rw [hps]; simpa [wordC] using hst)
        rw [← HOR.out] at HST
        have HT := Lib.hid (show Below (w.heap.size + 1) w2 (wr.setCell ⟨gv, j + 1, none⟩ (.int .u64 (bits .or .u64 (pieceN (s.data.toList.take k) j) (IntKind.u64.wrap (IntKind.u64.wrap (x.toNat : Int) * 2 ^ min (8 * (k % 8)) 64))))) from Below.setCell HB.out hgb _)
        rw [Nat.mul_one, Nat.add_zero] at y0 f0
        clear hown hrow hps hst e hgb
        go_upto_region 8 with fail
        refine wp_region_noPanic ?_
        refine wp_region_last 18 (S := (fun w' => w'.cell? ⟨gv, j + 1, none⟩ = some (.int .u64 (pieceN (s.data.toList.take k) j)) ∧ w'.frozen? ⟨gv, j + 1, none⟩ = false ∧ w'.cell? ⟨w.heap.size, 3, none⟩ = some (.string s))) (by kernel_rfl) (by kernel_rfl) _ rfl ?_ (fun hHeld => ?_)
        · (exact ⟨(Ext.drew _).cell y0, ((Ext.drew _).frozen y0).trans f0, (Ext.drew _).cell z3⟩)
        simp only [List.take_succ_cons, List.take_zero]
        refine wpAnyH_take (i := 0) (v := ?v19) rfl (by kernel_rfl) (by kernel_rfl) (by kernel_rfl) (fun _ _ _ h => h) (Or.inl ⟨by rfl, ?y19⟩) (by assumption) ?r19
        case y19 => intro w hSw; (try dsimp only at hSw); go_simp; (try with_reducible rfl)
        (try simp only [Act.put, List.setIfInBounds_toArray, List.set_cons_zero, List.set_cons_succ, List.getElem_toArray, List.getElem_cons_zero, List.getElem_cons_succ])
        refine wpAnyH_take (i := 1) (v := ?v20) rfl (by kernel_rfl) (by kernel_rfl) (by kernel_rfl) (fun _ _ _ h => h) (Or.inl ⟨by rfl, ?y20⟩) (by assumption) ?r20
        case y20 => intro w hSw; (try dsimp only at hSw); go_simp; (try with_reducible rfl)
        (try simp only [Act.put, List.setIfInBounds_toArray, List.set_cons_zero, List.set_cons_succ, List.getElem_toArray, List.getElem_cons_zero, List.getElem_cons_succ])
        refine wpAnyH_take (i := 2) (v := ?v21) rfl (by kernel_rfl) (by kernel_rfl) (by kernel_rfl) (fun _ _ _ h => h) (Or.inl ⟨by rfl, ?y21⟩) (by assumption) ?r21
        case y21 => intro w hSw; (try dsimp only at hSw); go_simp; (try with_reducible rfl)
        (try simp only [Act.put, List.setIfInBounds_toArray, List.set_cons_zero, List.set_cons_succ, List.getElem_toArray, List.getElem_cons_zero, List.getElem_cons_succ])
        refine wpAnyH_take (i := 3) (v := ?v22) rfl (by kernel_rfl) (by kernel_rfl) (by kernel_rfl) (fun _ _ _ h => h) (Or.inl ⟨by rfl, ?y22⟩) (by assumption) ?r22
        case y22 => intro w hSw; (try dsimp only at hSw); go_simp; (try with_reducible rfl)
        (try simp only [Act.put, List.setIfInBounds_toArray, List.set_cons_zero, List.set_cons_succ, List.getElem_toArray, List.getElem_cons_zero, List.getElem_cons_succ])
        refine wpAnyH_take (i := 4) (v := ?v23) rfl (by kernel_rfl) (by kernel_rfl) (by kernel_rfl) (fun _ _ _ h => h) (Or.inl ⟨by rfl, ?y23⟩) (by assumption) ?r23
        case y23 => intro w hSw; (try dsimp only at hSw); go_simp; (try with_reducible rfl)
        (try simp only [Act.put, List.setIfInBounds_toArray, List.set_cons_zero, List.set_cons_succ, List.getElem_toArray, List.getElem_cons_zero, List.getElem_cons_succ])
        refine wpAnyH_take (i := 5) (v := ?v24) rfl (by kernel_rfl) (by kernel_rfl) (by kernel_rfl) (fun _ _ _ h => h) (Or.inl ⟨by rfl, ?y24⟩) (by assumption) ?r24
        case y24 => intro w hSw; (try dsimp only at hSw); go_simp; (try with_reducible rfl)
        (try simp only [Act.put, List.setIfInBounds_toArray, List.set_cons_zero, List.set_cons_succ, List.getElem_toArray, List.getElem_cons_zero, List.getElem_cons_succ])
        refine wpAnyH_take (i := 6) (v := ?v25) rfl (by kernel_rfl) (by kernel_rfl) (by kernel_rfl) (fun _ _ _ h => h) (Or.inl ⟨by rfl, ?y25⟩) (by assumption) ?r25
        case y25 => intro w hSw; (try dsimp only at hSw); go_simp; (try with_reducible rfl)
        (try simp only [Act.put, List.setIfInBounds_toArray, List.set_cons_zero, List.set_cons_succ, List.getElem_toArray, List.getElem_cons_zero, List.getElem_cons_succ])
        refine wpAnyH_take (i := 7) (v := ?v26) rfl (by kernel_rfl) (by kernel_rfl) (by kernel_rfl) (fun _ _ _ h => h) (Or.inl ⟨by rfl, ?y26⟩) (by assumption) ?r26
        case y26 => intro w hSw; (try dsimp only at hSw); go_simp; (try with_reducible rfl)
        (try simp only [Act.put, List.setIfInBounds_toArray, List.set_cons_zero, List.set_cons_succ, List.getElem_toArray, List.getElem_cons_zero, List.getElem_cons_succ])
        refine wpAnyH_take (i := 8) (v := ?v27) rfl (by kernel_rfl) (by kernel_rfl) (by kernel_rfl) (fun _ _ _ h => h) (Or.inl ⟨by rfl, ?y27⟩) (by assumption) ?r27
        case y27 => intro w hSw; (try dsimp only at hSw); go_simp; (try with_reducible rfl)
        (try simp only [Act.put, List.setIfInBounds_toArray, List.set_cons_zero, List.set_cons_succ, List.getElem_toArray, List.getElem_cons_zero, List.getElem_cons_succ])
        refine wpAnyH_take (i := 9) (v := ?v28) rfl (by kernel_rfl) (by kernel_rfl) (by kernel_rfl) (fun _ _ _ h => h) (Or.inl ⟨by rfl, ?y28⟩) (by assumption) ?r28
        case y28 => intro w hSw; (try dsimp only at hSw); go_simp; (try with_reducible rfl)
        (try simp only [Act.put, List.setIfInBounds_toArray, List.set_cons_zero, List.set_cons_succ, List.getElem_toArray, List.getElem_cons_zero, List.getElem_cons_succ])
        refine wpAnyH_take (i := 10) (v := ?v29) rfl (by kernel_rfl) (by kernel_rfl) (by kernel_rfl) (fun _ _ _ h => h) (Or.inl ⟨by rfl, ?y29⟩) (by assumption) ?r29
        case y29 => intro w hSw; (try dsimp only at hSw); go_simp; (try with_reducible rfl)
        (try simp only [Act.put, List.setIfInBounds_toArray, List.set_cons_zero, List.set_cons_succ, List.getElem_toArray, List.getElem_cons_zero, List.getElem_cons_succ])
        refine wpAnyH_take (i := 11) (v := ?v30) rfl (by kernel_rfl) (by kernel_rfl) (by kernel_rfl) (fun _ _ _ h => h) (Or.inl ⟨by rfl, ?y30⟩) (by assumption) ?r30
        case y30 => intro w hSw; (try dsimp only at hSw); go_simp; (try with_reducible rfl)
        (try simp only [Act.put, List.setIfInBounds_toArray, List.set_cons_zero, List.set_cons_succ, List.getElem_toArray, List.getElem_cons_zero, List.getElem_cons_succ])
        refine wpAnyH_take (i := 12) (v := ?v31) rfl (by kernel_rfl) (by kernel_rfl) (by kernel_rfl) (fun _ _ _ h => h) (Or.inl ⟨by rfl, ?y31⟩) (by assumption) ?r31
        case y31 => intro w hSw; (try dsimp only at hSw); go_simp; (try with_reducible rfl)
        (try simp only [Act.put, List.setIfInBounds_toArray, List.set_cons_zero, List.set_cons_succ, List.getElem_toArray, List.getElem_cons_zero, List.getElem_cons_succ])
        refine wpAnyH_take (i := 13) (v := ?v32) rfl (by kernel_rfl) (by kernel_rfl) (by kernel_rfl) (fun _ _ _ h => h) (Or.inl ⟨by rfl, ?y32⟩) (by assumption) ?r32
        case y32 => intro w hSw; (try dsimp only at hSw); go_simp; (try with_reducible rfl)
        (try simp only [Act.put, List.setIfInBounds_toArray, List.set_cons_zero, List.set_cons_succ, List.getElem_toArray, List.getElem_cons_zero, List.getElem_cons_succ])
        refine wpAnyH_take (i := 14) (v := ?v33) rfl (by kernel_rfl) (by kernel_rfl) (by kernel_rfl) (fun _ _ _ h => h) (Or.inl ⟨by rfl, ?y33⟩) (by assumption) ?r33
        case y33 => intro w hSw; (try dsimp only at hSw); go_simp; (try with_reducible rfl)
        (try simp only [Act.put, List.setIfInBounds_toArray, List.set_cons_zero, List.set_cons_succ, List.getElem_toArray, List.getElem_cons_zero, List.getElem_cons_succ])
        refine wpAnyH_take (i := 15) (v := ?v34) rfl (by kernel_rfl) (by kernel_rfl) (by kernel_rfl) (fun _ _ _ h => h) (Or.inl ⟨by rfl, ?y34⟩) (by assumption) ?r34
        case y34 => intro w hSw; (try dsimp only at hSw); go_simp; (try with_reducible rfl)
        (try simp only [Act.put, List.setIfInBounds_toArray, List.set_cons_zero, List.set_cons_succ, List.getElem_toArray, List.getElem_cons_zero, List.getElem_cons_succ])
        refine wpAnyH_take (i := 16) (v := ?v35) rfl (by kernel_rfl) (by kernel_rfl) (by kernel_rfl) (fun _ _ _ h => h) (Or.inl ⟨by rfl, ?y35⟩) (by assumption) ?r35
        case y35 => intro w hSw; (try dsimp only at hSw); go_simp; (try with_reducible rfl)
        (try simp only [Act.put, List.setIfInBounds_toArray, List.set_cons_zero, List.set_cons_succ, List.getElem_toArray, List.getElem_cons_zero, List.getElem_cons_succ])
        refine wpAnyH_take (i := 17) (v := ?v36) rfl (by kernel_rfl) (by kernel_rfl) (by kernel_rfl) (fun _ _ _ h => h) (Or.inl ⟨by rfl, ?y36⟩) (by assumption) ?r36
        case y36 => intro w hSw; (try dsimp only at hSw); go_simp; (try with_reducible rfl)
        (try simp only [Act.put, List.setIfInBounds_toArray, List.set_cons_zero, List.set_cons_succ, List.getElem_toArray, List.getElem_cons_zero, List.getElem_cons_succ])
        refine wpAnyH_done (by kernel_rfl) ?_ _
        show wpList _ _ _ _ _ _
        go_wp2
        refine NoPanic.normal ?_
        go_wp2
        refine ⟨⟨k + 1, _, by omega, by go_num, rfl, ?_, Below.drew HT.out⟩, by simp [Go.RowKit.intOf]; omega⟩
        rw [show (k + 1 + 7) / 8 = j + 1 by have := HJ.out; omega]
        exact HST.out.ext (Ext.drew _)
    · obtain rfl : k = s.size := by omega
      have hfin : (List.range ((s.size + 7) / 8)).map (fun i => wordC (pieceN (s.data.toList.take s.size) i)) = (pieces s.data.toList).map wordC := by
        rw [← HS.out, List.take_length]
        unfold pieces
        rw [List.map_map]
        rfl
      rw [hfin] at HOW
      have HE := Lib.hid (show Ext w wr from Below.trans HX2.out (Below.mono HB.out (by omega)))
      clear hfin
      go_wp2_with fail
      go_ret
      exact ⟨_, rfl, HOW.out.mono (by omega), HE.out⟩
end Go.Proofs.YtinakendlpomnaaGreat
/- Plain: an arena's regions, as a rising list of places and sizes. No program in sight. -/
namespace Go.Proofs.YtinakendlpomnaaGreat
open Go.RowKit Go.Maps
namespace Arena
/-- regions: each with its size, rising, apart, within n words -/
def Good (n : Nat) (R : List (Nat × Nat)) : Prop := R.Pairwise (fun a b => a.1 + a.2 ≤ b.1) ∧ ∀ r ∈ R, 1 ≤ r.2 ∧ r.1 + r.2 ≤ n
/-- the map that holds them -/
def regD (R : List (Nat × Nat)) : DataW Unit := .map (R.map fun r => (Lit.int .i64 r.1, DataW.lit (.int .i64 r.2)))
def lenAt (R : List (Nat × Nat)) (k : Int) : Nat := match R.find? (fun r => decide ((r.1 : Int) = k)) with | some r => r.2 | none => 0
/-- the least place ahead of which no region with room lies -/
def scan (k : Nat) : Nat → List (Nat × Nat) → Nat
  | at_, [] => at_
  | at_, r :: R => if at_ + k ≤ r.1 then at_ else scan k (r.1 + r.2) R
def cutAt (n : Nat) (R : List (Nat × Nat)) (k : Nat) : Option Nat := if scan k 0 R + k ≤ n then some (scan k 0 R) else none
def ins (x : Nat × Nat) : List (Nat × Nat) → List (Nat × Nat)
  | [] => [x]
  | y :: R => if x.1 < y.1 then x :: y :: R else y :: ins x R
def drop (k : Int) (R : List (Nat × Nat)) : List (Nat × Nat) := R.filter fun r => !decide ((r.1 : Int) = k)

theorem sameKey_int (a : Nat) (k : Int) : (Lit.int .i64 a).sameKey (.int .i64 k) = decide ((a : Int) = k) := by simp [Lit.sameKey]
theorem regD_atKey (R : List (Nat × Nat)) (k : Int) : (regD R).atKey (.int .i64 k) (.lit (.int .i64 0)) = .lit (.int .i64 (lenAt R k)) := by
  unfold regD lenAt DataW.atKey
  simp only [List.find?_map]
  have : ((fun p : Lit × DataW Unit => p.1.sameKey (.int .i64 k)) ∘ fun r : Nat × Nat => (Lit.int .i64 r.1, DataW.lit (.int .i64 r.2))) = fun r => decide ((r.1 : Int) = k) := by
    funext r; exact sameKey_int r.1 k
  rw [this]
  cases R.find? (fun r => decide ((r.1 : Int) = k)) <;> rfl
theorem regD_del (R : List (Nat × Nat)) (k : Int) : (regD R).del (.int .i64 k) = regD (drop k R) := by
  unfold regD drop DataW.del
  simp only [List.filter_map]
  have : ((fun p : Lit × DataW Unit => !p.1.sameKey (.int .i64 k)) ∘ fun r : Nat × Nat => (Lit.int .i64 r.1, DataW.lit (.int .i64 r.2))) = fun r => !decide ((r.1 : Int) = k) := by
    funext r; simp [sameKey_int]
  rw [this]
theorem regD_insert (x : Nat × Nat) : ∀ R : List (Nat × Nat), DataW.insert (Lit.int .i64 x.1, DataW.lit (.int .i64 x.2)) (R.map fun r => (Lit.int .i64 r.1, (DataW.lit (.int .i64 r.2) : DataW Unit))) = (ins x R).map fun r => (Lit.int .i64 r.1, DataW.lit (.int .i64 r.2)) := by
  intro R
  induction R with
  | nil => rfl
  | cons y R ih =>
    simp only [List.map_cons, DataW.insert, ins, Lit.before]
    by_cases h : x.1 < y.1
    · have h2 : ((x.1 : Int) < (y.1 : Int)) := by omega
      simp [h, h2]
    · have h2 : ¬ ((x.1 : Int) < (y.1 : Int)) := by omega
      simp only [h, h2, decide_false, Bool.false_eq_true, if_false, List.map_cons]
      rw [ih]
theorem regD_put {R : List (Nat × Nat)} {x : Nat × Nat} (h : ∀ r ∈ R, r.1 ≠ x.1) : (regD R).put (.int .i64 x.1) (.lit (.int .i64 x.2)) = regD (ins x R) := by
  have hd : drop x.1 R = R := by
    unfold drop
    refine List.filter_eq_self.2 fun r hr => ?_
    have := h r hr
    simp; omega
  have he := regD_del R x.1
  rw [hd] at he
  unfold regD DataW.del at he
  injection he with he
  unfold regD DataW.put
  simp only
  rw [he, regD_insert]
theorem regD_keys (R : List (Nat × Nat)) : intKeys (regD R) = R.map fun r => (r.1 : Int) := by
  show (R.map _).map _ = _
  rw [List.map_map]
  rfl
theorem regD_size (R : List (Nat × Nat)) : Maps.size (regD R) = R.length := by
  unfold regD; rw [Maps.size_eq, List.length_map]

/-! ### laws of the places -/
theorem good_nil (n : Nat) : Good n [] := ⟨List.Pairwise.nil, fun r h => by cases h⟩
theorem good_ne {n : Nat} {R : List (Nat × Nat)} (hg : Good n R) {i j : Nat} (hij : i < j) (hj : j < R.length) : (R[i]'(by omega)).1 + (R[i]'(by omega)).2 ≤ R[j].1 :=
  List.pairwise_iff_getElem.1 hg.1 i j (by omega) hj hij
theorem good_tail {n : Nat} {r : Nat × Nat} {R : List (Nat × Nat)} (h : Good n (r :: R)) : Good n R := ⟨(List.pairwise_cons.1 h.1).2, fun x hx => h.2 x (.tail _ hx)⟩
theorem scan_apart {n k : Nat} : ∀ (R : List (Nat × Nat)) (at_ : Nat), Good n R → (∀ r ∈ R, at_ ≤ r.1) → at_ ≤ scan k at_ R ∧ ∀ r ∈ R, scan k at_ R + k ≤ r.1 ∨ r.1 + r.2 ≤ scan k at_ R := by
  intro R
  induction R with
  | nil => intro a _ _; exact ⟨Nat.le_refl _, fun r h => by cases h⟩
  | cons x R ih =>
    intro a hg ha
    have hx := List.pairwise_cons.1 hg.1
    unfold scan
    split
    · rename_i hk
      refine ⟨Nat.le_refl _, fun r hr => ?_⟩
      rcases List.mem_cons.1 hr with rfl | hr
      · exact .inl hk
      · have := hx.1 r hr; exact .inl (by omega)
    · obtain ⟨h1, h2⟩ := ih (x.1 + x.2) (good_tail hg) (fun r hr => hx.1 r hr)
      have hax := ha x (.head _)
      refine ⟨by omega, fun r hr => ?_⟩
      rcases List.mem_cons.1 hr with rfl | hr
      · exact .inr h1
      · exact h2 r hr
theorem scan_free {n k : Nat} {R : List (Nat × Nat)} (hg : Good n R) : ∀ r ∈ R, scan k 0 R + k ≤ r.1 ∨ r.1 + r.2 ≤ scan k 0 R := (scan_apart R 0 hg fun _ _ => Nat.zero_le _).2
theorem scan_ne {n k : Nat} {R : List (Nat × Nat)} (hg : Good n R) (hk : 1 ≤ k) : ∀ r ∈ R, r.1 ≠ scan k 0 R := by
  intro r hr
  have h1 := (hg.2 r hr).1
  rcases scan_free (k := k) hg r hr with h | h <;> omega
theorem scan_le {n k : Nat} : ∀ (R : List (Nat × Nat)) (a : Nat), Good n R → a ≤ n → scan k a R ≤ n := by
  intro R
  induction R with
  | nil => intro a _ h; exact h
  | cons x R ih =>
    intro a hg ha
    unfold scan
    split
    · exact ha
    · exact ih _ (good_tail hg) (hg.2 x (.head _)).2
theorem mem_ins {x r : Nat × Nat} : ∀ {R : List (Nat × Nat)}, r ∈ ins x R ↔ r = x ∨ r ∈ R := by
  intro R
  induction R with
  | nil => simp [ins]
  | cons y R ih =>
    unfold ins
    split
    · simp
    · simp only [List.mem_cons, ih]
      constructor
      · rintro (h | h | h)
        · exact .inr (.inl h)
        · exact .inl h
        · exact .inr (.inr h)
      · rintro (h | h | h)
        · exact .inr (.inl h)
        · exact .inl h
        · exact .inr (.inr h)
theorem length_ins (x : Nat × Nat) : ∀ R : List (Nat × Nat), (ins x R).length = R.length + 1 := by
  intro R
  induction R with
  | nil => rfl
  | cons y R ih =>
    unfold ins
    split
    · rfl
    · simp [ih]
theorem good_ins {n : Nat} {x : Nat × Nat} (h1 : 1 ≤ x.2) (h2 : x.1 + x.2 ≤ n) : ∀ {R : List (Nat × Nat)}, Good n R → (∀ r ∈ R, x.1 + x.2 ≤ r.1 ∨ r.1 + r.2 ≤ x.1) → Good n (ins x R) := by
  intro R
  induction R with
  | nil =>
    intro _ _
    refine ⟨List.pairwise_singleton _ _, fun r hr => ?_⟩
    obtain rfl := List.mem_singleton.1 hr
    exact ⟨h1, h2⟩
  | cons y R ih =>
    intro hg hx
    have hy := List.pairwise_cons.1 hg.1
    have hy1 := (hg.2 y (.head _)).1
    refine ⟨?_, fun r hr => ?_⟩
    · unfold ins
      split
      · rename_i hlt
        have hxy : x.1 + x.2 ≤ y.1 := by rcases hx y (.head _) with h | h <;> omega
        refine List.pairwise_cons.2 ⟨fun r hr => ?_, hg.1⟩
        rcases List.mem_cons.1 hr with rfl | hr
        · exact hxy
        · have := hy.1 r hr; omega
      · rename_i hlt
        have hxy : y.1 + y.2 ≤ x.1 := by rcases hx y (.head _) with h | h <;> omega
        refine List.pairwise_cons.2 ⟨fun r hr => ?_, (ih (good_tail hg) fun r hr => hx r (.tail _ hr)).1⟩
        rcases mem_ins.1 hr with rfl | hr
        · exact hxy
        · exact hy.1 r hr
    · rcases mem_ins.1 hr with rfl | hr
      · exact ⟨h1, h2⟩
      · exact hg.2 r hr
theorem good_cut {n k : Nat} {R : List (Nat × Nat)} (hg : Good n R) (hk : 1 ≤ k) (hn : scan k 0 R + k ≤ n) : Good n (ins (scan k 0 R, k) R) := good_ins hk hn hg (scan_free hg)
theorem good_drop {n : Nat} {R : List (Nat × Nat)} (k : Int) (hg : Good n R) : Good n (drop k R) := ⟨hg.1.sublist List.filter_sublist, fun r hr => hg.2 r (List.mem_filter.1 hr).1⟩
theorem lenAt_some {R : List (Nat × Nat)} {k : Int} (h : lenAt R k ≠ 0) : ∃ r ∈ R, (r.1 : Int) = k ∧ lenAt R k = r.2 := by
  unfold lenAt at *
  cases hf : R.find? (fun r => decide ((r.1 : Int) = k)) with
  | none => rw [hf] at h; exact absurd rfl h
  | some r =>
    have h1 := List.mem_of_find?_eq_some hf
    have h2 := List.find?_some hf
    exact ⟨r, h1, by simpa using h2, rfl⟩
theorem lenAt_mem {n : Nat} {r : Nat × Nat} : ∀ {R : List (Nat × Nat)}, Good n R → r ∈ R → lenAt R r.1 = r.2 := by
  intro R
  induction R with
  | nil => intro _ h; cases h
  | cons y R ih =>
    intro hg hr
    have hy := List.pairwise_cons.1 hg.1
    have hy1 := (hg.2 y (.head _)).1
    unfold lenAt
    rw [List.find?_cons]
    rcases List.mem_cons.1 hr with rfl | hr
    · simp
    · have := hy.1 r hr
      have hne : decide ((y.1 : Int) = (r.1 : Int)) = false := by simp; omega
      rw [hne]
      exact ih (good_tail hg) hr
theorem good_length {n : Nat} : ∀ (R : List (Nat × Nat)) (a : Nat), Good n R → (∀ r ∈ R, a ≤ r.1) → R ≠ [] → a + R.length ≤ n := by
  intro R
  induction R with
  | nil => intro a _ _ h; exact absurd rfl h
  | cons y R ih =>
    intro a hg ha _
    have hy := List.pairwise_cons.1 hg.1
    have hy1 := hg.2 y (.head _)
    have hay := ha y (.head _)
    by_cases hR : R = []
    · subst hR; simp; omega
    · have := ih (y.1 + y.2) (good_tail hg) (fun r hr => hy.1 r hr) hR
      simp only [List.length_cons]; omega
theorem good_len {n : Nat} {R : List (Nat × Nat)} (hg : Good n R) : R.length ≤ n := by
  by_cases h : R = []
  · subst h; exact Nat.zero_le _
  · have := good_length R 0 hg (fun _ _ => Nat.zero_le _) h; omega
/-- what is sorted out of the keys is the places, rising -/
theorem keys_sorted {n : Nat} {R : List (Nat × Nat)} {ss : List Int} (hg : Good n R) (h : ss.Perm (intKeys (regD R))) : ss.mergeSort (fun x y => decide (x ≤ y)) = R.map fun r => (r.1 : Int) := by
  rw [regD_keys] at h
  have hs : (R.map fun r => (r.1 : Int)).Pairwise (fun a b => a ≤ b) := by
    rw [List.pairwise_map]
    exact hg.1.imp fun {a b} hab => by omega
  have h1 : (ss.mergeSort (fun x y => decide (x ≤ y))).Pairwise (fun a b => a ≤ b) := by
    have := List.pairwise_mergeSort (le := fun x y : Int => decide (x ≤ y)) (fun a b c h1 h2 => by simp at *; omega) (fun a b => by simp; omega) ss
    exact this.imp fun {a b} h => by simpa using h
  exact List.Perm.eq_of_pairwise (fun a b _ _ h1 h2 => by omega) h1 hs ((List.mergeSort_perm ss _).trans h)
end Arena
end Go.Proofs.YtinakendlpomnaaGreat
/- The reference's arena in memory; what only reads it. -/
namespace Go.Proofs.YtinakendlpomnaaGreat
open Go.RowKit Go.Maps Arena
set_option maxHeartbeats 4000000
set_option maxRecDepth 100000
/-- the reference's arena: its row, its words, its regions -/
structure RefAt (w : World) (q gq B n : Nat) (ws : List Int) (vR : Value) (R : List (Nat × Nat)) : Prop where
  row : w.heap[q]? = some (.cells #[.slice (some ⟨gq, 0, none⟩) n n, vR] 105 (0, 0))
  words : w.heap[gq]? = some (.cells (ws.map fun x => Value.int .u64 x).toArray 51 (0, 0))
  len : ws.length = n
  regs : PairRow w B vR R
  good : Arena.Good n R
  ne : q ≠ gq
  qB : q < B
  gB : gq < B
  least : n ≤ 20000
theorem RefAt.lt {w : World} {q gq B n : Nat} {ws : List Int} {vR : Value} {R : List (Nat × Nat)} (h : RefAt w q gq B n ws vR R) : q < w.heap.size ∧ gq < w.heap.size :=
  ⟨(Array.getElem?_eq_some_iff.1 h.row).1, (Array.getElem?_eq_some_iff.1 h.words).1⟩
theorem RefAt.turn {w w' : World} {q gq B n : Nat} {ws : List Int} {vR : Value} {R : List (Nat × Nat)} {bs : List Nat} (h : RefAt w q gq B n ws vR R) (t : Turn bs w w') (hq : q ∉ bs) (hg : gq ∉ bs) (hb : ∀ b ∈ bs, b < B) : RefAt w' q gq B n ws vR R := by
  obtain ⟨lq, lg⟩ := h.lt
  exact ⟨by rw [t.block q lq hq]; exact h.row, by rw [t.block gq lg hg]; exact h.words, h.len, h.regs.turn t hb, h.good, h.ne, h.qB, h.gB, h.least⟩
theorem RefAt.ext {w w' : World} {q gq B n : Nat} {ws : List Int} {vR : Value} {R : List (Nat × Nat)} (h : RefAt w q gq B n ws vR R) (e : Ext w w') : RefAt w' q gq B n ws vR R :=
  h.turn (Turn.of_ext (bs := []) e) (by simp) (by simp) (by simp)
theorem RefAt.cells {w : World} {q gq B n : Nat} {ws : List Int} {vR : Value} {R : List (Nat × Nat)} (h : RefAt w q gq B n ws vR R) :
    w.cell? ⟨q, 0, none⟩ = some (.slice (some ⟨gq, 0, none⟩) n n) ∧ w.cell? ⟨q, 1, none⟩ = some vR ∧ w.frozen? ⟨q, 1, none⟩ = false := by
  refine ⟨?_, ?_, ?_⟩
  · simp [World.cell?, h.row]
  · simp [World.cell?, h.row]
  · simp [World.frozen?, h.row]
theorem RefAt.word {w : World} {q gq B n : Nat} {ws : List Int} {vR : Value} {R : List (Nat × Nat)} (h : RefAt w q gq B n ws vR R) {i : Nat} (hi : i < n) : w.cell? ⟨gq, i, none⟩ = some (.int .u64 (ws.getD i 0)) ∧ w.frozen? ⟨gq, i, none⟩ = false := by
  have hl : i < ws.length := by rw [h.len]; exact hi
  constructor
  · simp [World.cell?, h.words, hl]
  · simp [World.frozen?, h.words]
theorem lenAt_zero {n : Nat} {R : List (Nat × Nat)} {k : Int} (hg : Arena.Good n R) (h0 : lenAt R k = 0) : ∀ r ∈ R, (r.1 : Int) ≠ k := by
  intro r hr e
  subst e
  have h1 := lenAt_mem hg hr
  have h2 := (hg.2 r hr).1
  omega
theorem find_yes {w : World} {q gq B n : Nat} {ws : List Int} {vR : Value} {R : List (Nat × Nat)} (h : RefAt w q gq B n ws vR R) {i : Nat} (hi : i < R.length) :
    Calls Tryz.prog 71 #[.pointer (some ⟨q, 0, none⟩), .int .i64 R[i].1] w fun e w' => e = .returned (.int .i64 i) ∧ w = w' := by
  obtain ⟨qa, ca, rfl, la1, la2, hca⟩ := h.regs.sl
  obtain ⟨c0, c1, _⟩ := h.cells
  have hg := h.good
  have HG := Lib.hid hg
  have HA := Lib.hid hca
  have hrl := good_len hg
  have hn := h.least
  unfold maxLen at la2
  have HI := Lib.hid (show R[i] = R[i] from rfl)
  generalize hx : R[i] = x at HI ⊢
  have HX := Lib.hid hx
  clear hca h hg hx HI
  go_enter Tryz.func71, Tryz.ntmps71
  go_wp2
  go_loop [5] (fun j => ∃ k : Nat, k ≤ i ∧ j = .int .i64 k) (fun j => R.length - (Go.RowKit.intOf j).toNat)
  case atStart => exact ⟨0, by omega, rfl⟩
  case round =>
    obtain ⟨k, hk, rfl⟩ := hrel
    have i1 : (k : Int) < (R.length : Int) := by omega
    obtain ⟨b, off, rfl, p0, p1⟩ := HA.out k _ (List.getElem?_eq_getElem (by omega))
    by_cases hlt : k < i
    · have hne := good_ne HG.out hlt hi
      have hp := (HG.out.2 R[k] (List.getElem_mem (by omega))).1
      rw [HX.out] at hne
      have bne : ((R[k].1 : Int) == (x.1 : Int)) = false := beq_false_of_ne (by omega)
      clear hne hp p1
      generalize R[k] = y at *
      go_wp2
      go_round
      case rel => exact ⟨k + 1, by omega, by go_num⟩
      case measure => simp [Go.RowKit.intOf]; omega
    · obtain rfl : k = i := by omega
      rw [HX.out] at p0
      clear p1
      go_wp2
      go_ret
      exact ⟨rfl, rfl⟩
theorem find_no {w : World} {q gq B n : Nat} {ws : List Int} {vR : Value} {R : List (Nat × Nat)} {x : Int} (h : RefAt w q gq B n ws vR R) (h0 : lenAt R x = 0) :
    Calls Tryz.prog 71 #[.pointer (some ⟨q, 0, none⟩), .int .i64 x] w fun e w' => e = .returned (.int .i64 (-1)) ∧ w = w' := by
  obtain ⟨qa, ca, rfl, la1, la2, hca⟩ := h.regs.sl
  obtain ⟨c0, c1, _⟩ := h.cells
  have hg := h.good
  have HZ := Lib.hid (lenAt_zero hg h0)
  have HA := Lib.hid hca
  have hrl := good_len hg
  have hn := h.least
  unfold maxLen at la2
  clear hca h hg h0
  go_enter Tryz.func71, Tryz.ntmps71
  go_wp2
  go_loop [5] (fun j => ∃ k : Nat, k ≤ R.length ∧ j = .int .i64 k) (fun j => R.length - (Go.RowKit.intOf j).toNat)
  case atStart => exact ⟨0, by omega, rfl⟩
  case round =>
    obtain ⟨k, hk, rfl⟩ := hrel
    by_cases hlt : k < R.length
    · have i1 : (k : Int) < (R.length : Int) := by omega
      obtain ⟨b, off, rfl, p0, p1⟩ := HA.out k _ (List.getElem?_eq_getElem hlt)
      have bne : ((R[k].1 : Int) == x) = false := beq_false_of_ne (HZ.out _ (List.getElem_mem hlt))
      clear p1
      generalize R[k] = y at *
      go_wp2
      go_round
      case rel => exact ⟨k + 1, by omega, by go_num⟩
      case measure => simp [Go.RowKit.intOf]; omega
    · obtain rfl : k = R.length := by omega
      go_wp2
      go_ret
      exact ⟨rfl, rfl⟩
theorem size_yes {w : World} {q gq B n : Nat} {ws : List Int} {vR : Value} {R : List (Nat × Nat)} (h : RefAt w q gq B n ws vR R) {r : Nat × Nat} (hr : r ∈ R) :
    Calls Tryz.prog 48 #[.pointer (some ⟨q, 0, none⟩), .int .i64 r.1] w fun e w' => e = .returned (.int .i64 r.2) ∧ w = w' := by
  obtain ⟨i, hi, rfl⟩ := List.getElem_of_mem hr
  have HF := Lib.hid (find_yes h hi)
  obtain ⟨qa, ca, rfl, la1, la2, hca⟩ := h.regs.sl
  obtain ⟨c0, c1, _⟩ := h.cells
  have hrl := good_len h.good
  have hn := h.least
  obtain ⟨b, off, rfl, p0, p1⟩ := hca i _ (List.getElem?_eq_getElem hi)
  unfold maxLen at la2
  have i1 : (i : Int) < (R.length : Int) := by omega
  clear hca h p0 hr
  generalize R[i] = y at *
  go_enter Tryz.func48, Tryz.ntmps48
  go_wp2_with fail
  refine HF.out.mono ?_; rintro e w' ⟨rfl, rfl⟩
  go_wp2
  go_ret
  exact ⟨rfl, rfl⟩
theorem size_no {w : World} {q gq B n : Nat} {ws : List Int} {vR : Value} {R : List (Nat × Nat)} {x : Int} (h : RefAt w q gq B n ws vR R) (h0 : lenAt R x = 0) :
    Calls Tryz.prog 48 #[.pointer (some ⟨q, 0, none⟩), .int .i64 x] w fun e w' => e = .returned (.int .i64 (-1)) ∧ w = w' := by
  have HF := Lib.hid (find_no h h0)
  clear h h0
  go_enter Tryz.func48, Tryz.ntmps48
  go_wp2_with fail
  refine HF.out.mono ?_; rintro e w' ⟨rfl, rfl⟩
  go_wp2
  go_ret
  exact ⟨rfl, rfl⟩
theorem refwords_yes {w : World} {q gq B n : Nat} {ws : List Int} {vR : Value} {R : List (Nat × Nat)} (h : RefAt w q gq B n ws vR R) {r : Nat × Nat} (hr : r ∈ R) :
    Calls Tryz.prog 32 #[.pointer (some ⟨q, 0, none⟩), .int .i64 r.1] w fun e w' => e = .returned (.slice (some ⟨gq, r.1, none⟩) r.2 (n - r.1)) ∧ w = w' := by
  have HF := Lib.hid (size_yes h hr)
  obtain ⟨c0, c1, _⟩ := h.cells
  have hn := h.least
  obtain ⟨h1, h2⟩ := h.good.2 r hr
  clear h hr
  have g1 : ((r.1 : Int) + (r.2 : Int)) ≤ (n : Int) := by omega
  go_enter Tryz.func32, Tryz.ntmps32
  go_wp2_with fail
  refine HF.out.mono ?_; rintro e w' ⟨rfl, rfl⟩
  go_wp2
  go_ret
  refine ⟨?_, rfl⟩
  have e1 : r.1 + r.2 - r.1 = r.2 := by omega
  simp [e1]
theorem refwords_no {w : World} {q gq B n : Nat} {ws : List Int} {vR : Value} {R : List (Nat × Nat)} {x : Int} (h : RefAt w q gq B n ws vR R) (h0 : lenAt R x = 0) :
    Calls Tryz.prog 32 #[.pointer (some ⟨q, 0, none⟩), .int .i64 x] w fun e w' => e = .returned (.slice none 0 0) ∧ w = w' := by
  have HF := Lib.hid (size_no h h0)
  clear h h0
  go_enter Tryz.func32, Tryz.ntmps32
  go_wp2_with fail
  refine HF.out.mono ?_; rintro e w' ⟨rfl, rfl⟩
  go_wp2
  go_ret
  exact ⟨rfl, rfl⟩
end Go.Proofs.YtinakendlpomnaaGreat
/- The reference's arena: what writes its words; a new one. -/
namespace Go.Proofs.YtinakendlpomnaaGreat
open Go.RowKit Go.Maps Arena
set_option maxHeartbeats 4000000
set_option maxRecDepth 100000
theorem RefAt.store {w : World} {q gq B n : Nat} {ws : List Int} {vR : Value} {R : List (Nat × Nat)} (h : RefAt w q gq B n ws vR R) (i : Nat) (v : Int) : RefAt (w.setCell ⟨gq, i, none⟩ (.int .u64 v)) q gq B n (ws.set i v) vR R := by
  have t : Turn [gq] w (w.setCell ⟨gq, i, none⟩ (.int .u64 v)) := (Turn.refl _ _).setCell (.inl (by simp)) _
  obtain ⟨lq, lg⟩ := h.lt
  refine ⟨by rw [t.block q lq (by simp; exact h.ne)]; exact h.row, ?_, by rw [List.length_set]; exact h.len, h.regs.turn t (by intro b hb; simp at hb; subst hb; exact h.gB), h.good, h.ne, h.qB, h.gB, h.least⟩
  rw [heap_setCell_same w gq i _ _ _ h.words]
  rw [List.map_set]
  simp
theorem refset_yes {w : World} {q gq B n : Nat} {ws : List Int} {vR : Value} {R : List (Nat × Nat)} (h : RefAt w q gq B n ws vR R) {r : Nat × Nat} (hr : r ∈ R) {a : Nat} (ha : a < r.2) {v : Int} :
    Calls Tryz.prog 26 #[.pointer (some ⟨q, 0, none⟩), .int .i64 r.1, .int .i64 a, .int .u64 v] w fun e w' => e = .returned (.bool true) ∧ RefAt w' q gq B n (ws.set (r.1 + a) v) vR R ∧ Turn [gq] w w' := by
  have HF := Lib.hid (size_yes h hr)
  obtain ⟨c0, c1, _⟩ := h.cells
  obtain ⟨h1, h2⟩ := h.good.2 r hr
  obtain ⟨k0, k1⟩ := h.word (i := r.1 + a) (by omega)
  have hn := h.least
  have b1 : decide ((a : Int) < 0) = false := decide_eq_false (by omega)
  have b2 : decide ((r.2 : Int) ≤ (a : Int)) = false := decide_eq_false (by omega)
  have HST := Lib.hid (h.store (r.1 + a) v)
  generalize ws.getD (r.1 + a) 0 = u at *
  clear h hr
  go_enter Tryz.func26, Tryz.ntmps26
  go_wp2_with fail
  refine HF.out.mono ?_; rintro e w' ⟨rfl, rfl⟩
  go_wp2
  go_ret
  exact ⟨rfl, HST.out, (Turn.refl _ _).setCell (.inl (by simp)) _⟩
theorem refset_no {w : World} {q gq B n : Nat} {ws : List Int} {vR : Value} {R : List (Nat × Nat)} (h : RefAt w q gq B n ws vR R) {x a v : Int} (h0 : lenAt R x = 0) :
    Calls Tryz.prog 26 #[.pointer (some ⟨q, 0, none⟩), .int .i64 x, .int .i64 a, .int .u64 v] w fun e w' => e = .returned (.bool false) ∧ w = w' := by
  have HF := Lib.hid (size_no h h0)
  clear h h0
  by_cases hneg : a < 0
  · have b1 : decide (a < 0) = true := decide_eq_true hneg
    go_enter Tryz.func26, Tryz.ntmps26
    go_wp2
    go_ret
    exact ⟨rfl, rfl⟩
  · have b1 : decide (a < 0) = false := decide_eq_false hneg
    have b2 : decide ((-1 : Int) ≤ a) = true := decide_eq_true (by omega)
    go_enter Tryz.func26, Tryz.ntmps26
    go_wp2_with fail
    refine HF.out.mono ?_; rintro e w' ⟨rfl, rfl⟩
    go_wp2
    go_ret
    exact ⟨rfl, rfl⟩
theorem refset_out {w : World} {q gq B n : Nat} {ws : List Int} {vR : Value} {R : List (Nat × Nat)} (h : RefAt w q gq B n ws vR R) {r : Nat × Nat} (hr : r ∈ R) {a v : Int} (ha : a < 0 ∨ (r.2 : Int) ≤ a) :
    Calls Tryz.prog 26 #[.pointer (some ⟨q, 0, none⟩), .int .i64 r.1, .int .i64 a, .int .u64 v] w fun e w' => e = .returned (.bool false) ∧ w = w' := by
  have HF := Lib.hid (size_yes h hr)
  clear h hr
  by_cases hneg : a < 0
  · have b1 : decide (a < 0) = true := decide_eq_true hneg
    clear ha
    go_enter Tryz.func26, Tryz.ntmps26
    go_wp2
    go_ret
    exact ⟨rfl, rfl⟩
  · have b1 : decide (a < 0) = false := decide_eq_false hneg
    have b2 : decide ((r.2 : Int) ≤ a) = true := decide_eq_true (by omega)
    clear ha
    go_enter Tryz.func26, Tryz.ntmps26
    go_wp2_with fail
    refine HF.out.mono ?_; rintro e w' ⟨rfl, rfl⟩
    go_wp2
    go_ret
    exact ⟨rfl, rfl⟩
theorem refnew_no {w : World} {n : Int} (hn : n < 1 ∨ 20000 < n) : Calls Tryz.prog 22 #[.int .i64 n] w fun e w' => e = .returned (.pointer none) ∧ w = w' := by
  by_cases h1 : n < 1
  · have b1 : decide (n < 1) = true := decide_eq_true h1
    clear hn
    go_enter Tryz.func22, Tryz.ntmps22
    go_wp2
    go_ret
    exact ⟨rfl, rfl⟩
  · have b1 : decide (n < 1) = false := decide_eq_false h1
    have b2 : decide (20000 < n) = true := decide_eq_true (by omega)
    clear hn
    go_enter Tryz.func22, Tryz.ntmps22
    go_wp2
    go_ret
    exact ⟨rfl, rfl⟩
theorem made_zeros' (n : Nat) : madeCells #[Value.int .u64 0] n = ((List.replicate n (0 : Int)).map fun x => Value.int .u64 x).toArray := by
  apply Array.ext'
  rw [toList_madeCells_one]
  simp
theorem refnew_is {w : World} {n : Nat} (h1 : 1 ≤ n) (h2 : n ≤ 20000) : Calls Tryz.prog 22 #[.int .i64 n] w fun e w' =>
    ∃ q gq, e = .returned (.pointer (some ⟨q, 0, none⟩)) ∧ RefAt w' q gq w'.heap.size n (List.replicate n 0) (.slice none 0 0) [] ∧ Ext w w' ∧ w.heap.size ≤ q ∧ w.heap.size ≤ gq := by
  have b1 : decide ((n : Int) < 1) = false := decide_eq_false (by omega)
  have b2 : decide (20000 < (n : Int)) = false := decide_eq_false (by omega)
  have hmk := run_make_row' (P := Tryz.prog) 22 51 (.int .u64 0) 8 Tryz.underlying22 info_u64 rfl .i64 .i64 n (by omega) (by omega)
  go_enter Tryz.func22, Tryz.ntmps22
  go_wp2
  go_ret
  refine ⟨w.heap.size + 1, w.heap.size, rfl, ⟨?_, ?_, by simp, PairRow.nil _ _, good_nil _, by omega, by simp, by simp; omega, h2⟩, (Ext.alloc _ _).trans (Ext.alloc _ _), by omega, by omega⟩
  · have := heap_alloc_new (w.alloc (.cells (madeCells #[Value.int .u64 0] n) 51)) (.cells #[.slice (some ⟨w.heap.size, 0, none⟩) n n, .slice none 0 0] 105)
    simpa using this
  · rw [Below.block (Below.alloc (B := w.heap.size + 1) (Below.refl _ _) (by simp) _) w.heap.size (by omega), heap_alloc_new, made_zeros']
end Go.Proofs.YtinakendlpomnaaGreat
