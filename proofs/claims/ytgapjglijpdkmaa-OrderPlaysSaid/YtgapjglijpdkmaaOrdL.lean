/- The walk of wakes. -/
import Derived.Test.YtgapjglijpdkmaaOrdK
namespace Go.Proofs.Ytgapjglijpdkmaa
open Go.RowKit Go.Maps Heap Go.Sort Go.Shelf
set_option maxHeartbeats 8000000
set_option maxRecDepth 100000
/-- one queue of a call's own, and a row beside it -/
def Q1R (w0 w : World) (qb : Nat) (S : List Ent) (v : Value) (R : List (Int × Int)) : Prop := ∃ F, QF w w0.heap.size qb S F ∧ (∀ b ∈ F, w0.heap.size ≤ b) ∧ Ext w0 w ∧ PairRow w 0 v R ∧ ∀ b, v.ownBlock = some b → b ∉ F
theorem PairRow.step {w w' : World} {base : Nat} {v : Value} {R : List (Int × Int)} {F F' : List Nat} (h : PairRow w base v R) (ho : ∀ b, v.ownBlock = some b → b ∉ F) (s : QStep w w' F F') : PairRow w' base v R ∧ ∀ b, v.ownBlock = some b → b ∉ F' := by
  rcases h.2 with ⟨h1, h2⟩ | ⟨g, cap, cur, h1, hb1, hg, h2⟩
  · exact ⟨⟨h.1, .inl ⟨h1, h2⟩⟩, fun b hb => by rw [h1] at hb; simp [Value.ownBlock] at hb⟩
  · have hgo : g ∉ F := ho g (by rw [h1]; rfl)
    have hgl := (Array.getElem?_eq_some_iff.1 hg).1
    refine ⟨⟨h.1, .inr ⟨g, cap, cur, h1, hb1, by rw [s.1.block g hgl hgo]; exact hg, h2⟩⟩, fun b hb hm => ?_⟩
    rw [h1] at hb
    simp only [Value.ownBlock, Option.some.injEq] at hb
    subst hb
    rcases s.2 g hm with h | h
    · exact hgo h
    · omega
theorem q1r_list {w0 w : World} {qb : Nat} {S : List Ent} (h : Q1 w0 w qb S) (hl : S.length ≤ 900) :
    Calls Try.prog 14 #[.pointer (some ⟨qb, 0, none⟩)] w fun e w' => ∃ vo, e = .returned vo ∧ Q1R w0 w' qb S vo S := by
  obtain ⟨F, hf, hb, hx⟩ := h
  refine (qlist_f hf hl).mono fun _ w' ⟨vo, he, hp, hx'⟩ => ⟨vo, he, F, hf.ext hx', hb, hx.trans hx', hp.mono (Nat.zero_le _), fun b ho hm => ?_⟩
  have h1 := hp.own b ho
  have h2 := hf.lt b hm
  omega
theorem q1r_pop {w0 w : World} {qb : Nat} {x : Ent} {S : List Ent} {v : Value} {R : List (Int × Int)} (h : Q1R w0 w qb (x :: S) v R) (hl : S.length ≤ 800) :
    Calls Try.prog 10 #[.pointer (some ⟨qb, 0, none⟩)] w fun e w' => e = .returned (.tuple #[.int .i64 x.1, .int .i64 x.2, .bool true]) ∧ Q1R w0 w' qb S v R := by
  obtain ⟨F, hf, hb, hx, hp, ho⟩ := h
  refine (qpop_f hf hl).mono fun _ _ ⟨he, F', hq, hs⟩ => ⟨he, F', hq, fun b hm => ?_, Below.trans hx (hs.1.below hx.size hb), hp.step ho hs⟩
  rcases hs.2 b hm with h | h
  · exact hb b h
  · have := hx.size; omega
theorem q1r_drop {w0 w : World} {qb : Nat} {S : List Ent} {v : Value} {R : List (Int × Int)} (h : Q1R w0 w qb S v R) (hl : S.length ≤ 900) (k : Int) :
    Calls Try.prog 11 #[.pointer (some ⟨qb, 0, none⟩), .int .i64 k] w fun e w' => e = .returned (.bool (!fresh S k)) ∧ Q1R w0 w' qb (dropK S k) v R := by
  obtain ⟨F, hf, hb, hx, hp, ho⟩ := h
  refine (qdrop_f hf hl k).mono fun _ _ ⟨he, F', hq, hs⟩ => ⟨he, F', hq, fun b hm => ?_, Below.trans hx (hs.1.below hx.size hb), hp.step ho hs⟩
  rcases hs.2 b hm with h | h
  · exact hb b h
  · have := hx.size; omega
theorem Q1R.one {w0 w : World} {qb : Nat} {S : List Ent} {v : Value} {R : List (Int × Int)} (h : Q1R w0 w qb S v R) : Q1 w0 w qb S := by
  obtain ⟨F, hf, hb, hx, _⟩ := h
  exact ⟨F, hf, hb, hx⟩
theorem Q1R.sl {w0 w : World} {qb : Nat} {S : List Ent} {v : Value} {R : List (Int × Int)} (h : Q1R w0 w qb S v R) : PairSl w v R := by
  obtain ⟨F, hf, hb, hx, hp, _⟩ := h
  exact hp.sl
theorem three_row (w : World) : PairRow (w.alloc (.cells #[.int .i64 1, .int .i64 5, .int .i64 3, .int .i64 5, .int .i64 2, .int .i64 9] 35)) w.heap.size (.slice (some ⟨w.heap.size, 0, none⟩) 3 3) [(1, 5), (3, 5), (2, 9)] :=
  World.ownsRow_lit w #[.int .i64 1, .int .i64 5, .int .i64 3, .int .i64 5, .int .i64 2, .int .i64 9] 3 (Nat.le_refl _) (by unfold maxLen; omega) rfl
theorem wakes_is (w : World) : Calls Try.prog 7 #[] w fun e w' => e = .returned (.bool true) ∧ Ext w w' := by
  have s1 : (if fresh [] 3 = true then sortE ([] ++ [((3 : Int), (5 : Int))]) else []) = [(3, 5)] := by
    rw [show fresh [] 3 = true by rw [fresh_any]; rfl]
    exact sortE_eq (List.Perm.refl _) (by decide)
  have s2 : (if fresh [(3, 5)] 1 = true then sortE ([((3 : Int), (5 : Int))] ++ [(1, 5)]) else [(3, 5)]) = [(1, 5), (3, 5)] := by
    rw [show fresh [(3, 5)] 1 = true by rw [fresh_any]; rfl]
    exact sortE_eq (by decide) (by decide)
  have s3 : (if fresh [(1, 5), (3, 5)] 3 = true then sortE ([((1 : Int), (5 : Int)), (3, 5)] ++ [(3, 1)]) else [(1, 5), (3, 5)]) = [(1, 5), (3, 5)] := by
    rw [show fresh [(1, 5), (3, 5)] 3 = false by rw [fresh_any]; rfl]
    rfl
  have s4 : (if fresh [(1, 5), (3, 5)] 2 = true then sortE ([((1 : Int), (5 : Int)), (3, 5)] ++ [(2, 9)]) else [(1, 5), (3, 5)]) = [(1, 5), (3, 5), (2, 9)] := by
    rw [show fresh [(1, 5), (3, 5)] 2 = true by rw [fresh_any]; rfl]
    exact sortE_eq (by decide) (by decide)
  have s5 : dropK [(3, 5), (2, 9)] 2 = [((3 : Int), (5 : Int))] := by decide
  have s6 : dropK [(3, 5)] 2 = [((3 : Int), (5 : Int))] := by decide
  have f1 : fresh [] 3 = true := by rw [fresh_any]; rfl
  have f2 : fresh [(3, 5)] 1 = true := by rw [fresh_any]; rfl
  have f3 : fresh [(1, 5), (3, 5)] 3 = false := by rw [fresh_any]; rfl
  have f5 : fresh [(3, 5), (2, 9)] 2 = false := by rw [fresh_any]; rfl
  have f6 : fresh [(3, 5)] 2 = true := by rw [fresh_any]; rfl
  go_enter Try.func7, Try.ntmps7
  go_wp2_with fail
  refine (q1_new w).mono ?_; rintro e w1 ⟨qb, rfl, H1⟩
  have K1 := Lib.hid H1
  clear H1
  go_wp2_with fail
  refine (q1_push K1.out (by simp) 3 5).mono ?_; rintro e w2 ⟨rfl, H2⟩
  rw [s1] at H2; rw [f1]
  have K2 := Lib.hid H2
  clear H2 s1 f1
  go_wp2_with fail
  refine (q1_push K2.out (by simp) 1 5).mono ?_; rintro e w3 ⟨rfl, H3⟩
  rw [s2] at H3; rw [f2]
  have K3 := Lib.hid H3
  clear H3 s2 f2
  go_wp2_with fail
  refine (q1_push K3.out (by simp) 3 1).mono ?_; rintro e w4 ⟨rfl, H4⟩
  rw [s3] at H4; rw [f3]
  have K4 := Lib.hid H4
  clear H4 s3 f3
  go_wp2_with fail
  refine (q1_push K4.out (by simp) 2 9).mono ?_; rintro e w5 ⟨rfl, H5⟩
  rw [s4] at H5
  have K5 := Lib.hid H5
  clear H5 s4
  go_wp2_with fail
  refine (q1r_list K5.out (by simp)).mono ?_; rintro e w6 ⟨vo, rfl, H6⟩
  have K6 := Lib.hid H6
  clear H6
  go_wp2_with fail
  refine (q1r_pop K6.out (by simp)).mono ?_; rintro e w7 ⟨rfl, H7⟩
  have K7 := Lib.hid H7
  clear H7
  go_wp2_with fail
  refine (q1r_drop K7.out (by simp) 2).mono ?_; rintro e w8 ⟨rfl, H8⟩
  rw [s5] at H8; rw [f5]
  have K8 := Lib.hid H8
  clear H8 s5 f5
  go_wp2_with fail
  refine (q1r_drop K8.out (by simp) 2).mono ?_; rintro e w9 ⟨rfl, H9⟩
  rw [s6] at H9; rw [f6]
  have K9 := Lib.hid H9
  clear H9 s6 f6
  go_wp2_with fail
  refine (qpop_none _).mono ?_; rintro e w10 ⟨rfl, rfl⟩
  go_wp2_with fail
  refine (keep_pairs (K9.out.sl.ext (Ext.alloc _ _)) (three_row w9).sl (by simp)).mono ?_; rintro e w11 ⟨rfl, x11⟩
  have K11 := Lib.hid (K9.out.one.ext ((Ext.alloc _ _).trans x11))
  clear x11
  go_wp2_with fail
  refine (q1_len K11.out).mono ?_; rintro e w12 ⟨rfl, rfl⟩
  go_wp2_with fail
  refine (qlen_none _).mono ?_; rintro e w13 ⟨rfl, rfl⟩
  go_wp2_with fail
  refine (qpush_none _ 1 1).mono ?_; rintro e w14 ⟨rfl, rfl⟩
  go_wp2_with fail
  go_ret
  exact ⟨rfl, K11.out.world⟩
end Go.Proofs.Ytgapjglijpdkmaa
