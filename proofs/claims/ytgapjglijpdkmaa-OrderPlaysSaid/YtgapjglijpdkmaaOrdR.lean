/- The reference's queue: a sorted list, plainly, and as its calls leave it. -/
import Derived.Test.YtgapjglijpdkmaaOrdO
import Derived.Test.YtgapjglijpdkmaaSrcI
import Derived.Test.YtgapjglijpdkmaaLast
import Derived.Deep.CutBlock
namespace Go.Proofs.Ytgapjglijpdkmaa
open Go.RowKit Go.Maps Heap Go.Sort Go.Shelf
set_option maxHeartbeats 8000000
set_option maxRecDepth 100000
/-- one more at its place: the order -/
theorem put_at {R : List Ent} {x : Ent} {j : Nat} (hs : R.Pairwise fun a b => ¬ lt b a) (hf : fresh R x.1 = true) (h1 : ∀ e ∈ R.take j, lt e x) (h2 : ∀ hj : j < R.length, ¬ lt R[j] x) : R.take j ++ x :: R.drop j = put1 R x := by
  unfold put1
  rw [if_pos hf]
  symm
  refine sortE_eq ?_ ?_
  · refine (List.perm_middle).trans ?_
    rw [List.take_append_drop]
    exact (List.perm_append_singleton x R).symm
  · have hd : ∀ e ∈ R.drop j, ¬ lt e x := fun e he => by
      by_cases hj : j < R.length
      · have h3 := hs.sublist (List.drop_sublist j R)
        rw [List.drop_eq_getElem_cons hj] at he h3
        rcases List.mem_cons.1 he with rfl | he
        · exact h2 hj
        · exact le_trans (h2 hj) ((List.pairwise_cons.1 h3).1 e he)
      · rw [List.drop_eq_nil_of_le (by omega)] at he; cases he
    rw [List.pairwise_append]
    refine ⟨hs.sublist (List.take_sublist _ _), List.pairwise_cons.2 ⟨fun e he => hd e he, hs.sublist (List.drop_sublist _ _)⟩, fun a ha b hb => ?_⟩
    rcases List.mem_cons.1 hb with rfl | hb
    · exact lt_asymm (h1 a ha)
    · exact le_trans (lt_asymm (h1 a ha)) (hd b hb)
theorem drop_at {R : List Ent} {k : Int} {i : Nat} (hk : (R.map (·.1)).Nodup) (hi : i < R.length) (he : R[i].1 = k) : R.take i ++ R.drop (i + 1) = dropK R k := by
  have h0 : R = R.take i ++ R[i] :: R.drop (i + 1) := by rw [List.getElem_cons_drop, List.take_append_drop]
  have hn : (R.take i ++ R[i] :: R.drop (i + 1)).Pairwise fun a b => a.1 ≠ b.1 := by rw [← h0]; rw [List.nodup_iff_pairwise_ne, List.pairwise_map] at hk; exact hk
  rw [List.pairwise_append, List.pairwise_cons] at hn
  have h1 : dropK (R.take i ++ R[i] :: R.drop (i + 1)) k = R.take i ++ R.drop (i + 1) := by
    unfold dropK
    rw [List.filter_append, List.filter_cons_of_neg (by simp [he])]
    congr 1
    · refine List.filter_eq_self.2 fun e hm => ?_
      have := hn.2.2 e hm R[i] (.head _)
      rw [he] at this
      simpa using this
    · refine List.filter_eq_self.2 fun e hm => ?_
      have := hn.2.1.1 e hm
      rw [he] at this
      simpa using this.symm
  rw [← h1, ← h0]
theorem PairRow.src {w : World} {B : Nat} {v : Value} {R : List (Int × Int)} (h : PairRow w B v R) : PairSrc w v R := by
  refine ⟨h.sl, ?_⟩
  obtain ⟨q, c, rfl, _, ⟨ad, rfl⟩ | ⟨rfl, rfl, h0⟩⟩ := h.nilOr
  · exact .inl ⟨_, _, _, rfl⟩
  · rw [h0]; exact .inr rfl
theorem PairSrc.turn {w w' : World} {v : Value} {R : List (Int × Int)} {bs : List Nat} (h : PairSrc w v R) (t : Turn bs w w') (hb : ∀ b, v.ownBlock = some b → b ∉ bs) : PairSrc w' v R := by
  obtain ⟨⟨q, c, hv, h1, h2, hc⟩, hs⟩ := h
  refine ⟨⟨q, c, hv, h1, h2, fun i x hx => ?_⟩, hs⟩
  obtain ⟨b, off, rfl, p0, p1⟩ := hc i x hx
  have hn := hb b (by rw [hv]; rfl)
  exact ⟨b, off, rfl, t.cell hn p0, t.cell hn p1⟩
theorem PairSrc.ext {w w' : World} {v : Value} {R : List (Int × Int)} (h : PairSrc w v R) (e : Ext w w') : PairSrc w' v R := h.turn (bs := []) (Turn.of_ext e) (by simp)
theorem PairSrc.nilOr {w : World} {v : Value} {R : List (Int × Int)} (h : PairSrc w v R) : ∃ q c, v = .slice q R.length c ∧ R.length ≤ c ∧ c ≤ maxLen ∧ ((∃ ad, q = some ad) ∨ (q = none ∧ c = 0 ∧ R.length = 0)) := by
  obtain ⟨⟨q, c, hv, h1, h2, hc⟩, hs⟩ := h
  refine ⟨q, c, hv, h1, h2, ?_⟩
  rcases hs with ⟨ad, m, c', e⟩ | e
  · rw [hv] at e; obtain ⟨rfl, _, _⟩ := Value.slice.inj e; exact .inl ⟨ad, rfl⟩
  · rw [hv] at e; obtain ⟨rfl, h3, rfl⟩ := Value.slice.inj e; exact .inr ⟨rfl, rfl, h3⟩
theorem head_srcP {w : World} {k : Nat} {v : Value} {R : List (Int × Int)} (h : PairSrc w v R) (hk : k ≤ R.length) :
    ∃ u, (∀ W, (Instr.slice 26 v none (some (.int .i64 k)) none).run Try.prog W = .ok u W) ∧ ∀ W, PairSrc W v R → PairSrc W u (R.take k) := by
  obtain ⟨q, c, rfl, hc, _, hn⟩ := h.nilOr
  refine ⟨sliced q 0 k c 2, fun W => ?_, fun W hW => src_of hn (by omega) (Nat.le_refl _) (pairSl_take hW.1 hk)⟩
  rw [run_slice_h W 26 q R.length c (by rw [pair_elem]; exact Try.underlying26) .i64 k (by omega) (by omega), pair_size]
  simp
theorem tail_srcP {w : World} {k : Nat} {v : Value} {R : List (Int × Int)} (h : PairSrc w v R) (hk : k ≤ R.length) :
    ∃ u, (∀ W, (Instr.slice 26 v (some (.int .i64 k)) none none).run Try.prog W = .ok u W) ∧ (∀ W, PairSrc W v R → PairSrc W u (R.drop k)) ∧ ∀ b, u.ownBlock = some b → v.ownBlock = some b := by
  obtain ⟨q, c, rfl, hc, _, hn⟩ := h.nilOr
  refine ⟨sliced q k R.length c 2, fun W => ?_, fun W hW => src_of hn (by omega) (Nat.le_refl _) (pairSl_drop hW.1 hk), fun b hb => ?_⟩
  · rw [run_slice_l W 26 q R.length c (by rw [pair_elem]; exact Try.underlying26) .i64 k (by omega) (by omega), pair_size]
    simp
  · unfold sliced at hb
    cases q with
    | none => split at hb <;> simp [Value.ownBlock] at hb
    | some a =>
      split at hb
      · exact hb
      · simp only [Option.map_some, Value.ownBlock, Option.some.injEq] at hb ⊢
        rw [← hb]
        unfold Addr.add
        split <;> rfl
/-- the reference's queue: its cell, its row -/
structure RQ (w : World) (rb : Nat) (v : Value) (R : List Ent) : Prop where
  row : w.heap[rb]? = some (.cells #[v] 28 (0, 0))
  src : PairSrc w v R
  ne : ∀ b, v.ownBlock = some b → b ≠ rb
  low : ∀ b, v.ownBlock = some b → b < w.heap.size
theorem RQ.lt {w : World} {rb : Nat} {v : Value} {R : List Ent} (h : RQ w rb v R) : rb < w.heap.size := (Array.getElem?_eq_some_iff.1 h.row).1
theorem RQ.cell {w : World} {rb : Nat} {v : Value} {R : List Ent} (h : RQ w rb v R) : w.cell? ⟨rb, 0, none⟩ = some v ∧ w.frozen? ⟨rb, 0, none⟩ = false := by
  constructor <;> simp [World.cell?, World.frozen?, h.row]
theorem RQ.turn {w w' : World} {rb : Nat} {v : Value} {R : List Ent} {bs : List Nat} (h : RQ w rb v R) (t : Turn bs w w') (hr : rb ∉ bs) (hb : ∀ b, v.ownBlock = some b → b ∉ bs) : RQ w' rb v R :=
  ⟨by rw [t.block rb h.lt hr]; exact h.row, h.src.turn t hb, h.ne, fun b hb => Nat.lt_of_lt_of_le (h.low b hb) t.size⟩
theorem RQ.ext {w w' : World} {rb : Nat} {v : Value} {R : List Ent} (h : RQ w rb v R) (e : Ext w w') : RQ w' rb v R := h.turn (bs := []) (Turn.of_ext e) (by simp) (by simp)
/-- what a call of the reference's does -/
def RStep (w w' : World) (rb : Nat) (v v' : Value) : Prop := Turn [rb] w w' ∧ ∀ b, v'.ownBlock = some b → v.ownBlock = some b ∨ w.heap.size ≤ b
/-- a row set anew -/
theorem RQ.newRow {w w' : World} {rb : Nat} {v v' : Value} {R R' : List Ent} (h : RQ w rb v R) (e : Ext w w') (hp : PairSrc w' v' R') (ho : ∀ b, v'.ownBlock = some b → v.ownBlock = some b ∨ w.heap.size ≤ b) (hl : ∀ b, v'.ownBlock = some b → b < w'.heap.size) : RQ (w'.setCell ⟨rb, 0, none⟩ v') rb v' R' ∧ RStep w (w'.setCell ⟨rb, 0, none⟩ v') rb v v' := by
  have hlt := h.lt
  have h2 := h.ext e
  have t : Turn [rb] w' (w'.setCell ⟨rb, 0, none⟩ v') := (Turn.refl _ _).setCell (.inl (by simp)) _
  have hn : ∀ b, v'.ownBlock = some b → b ≠ rb := fun b hb => by
    rcases ho b hb with h1 | h1
    · exact h.ne b h1
    · omega
  refine ⟨⟨?_, hp.turn t (fun b hb => by have := hn b hb; simp; omega), hn, fun b hb => by have := hl b hb; simpa [World.setCell] using this⟩, (Turn.of_ext e).setCell (.inl (by simp)) _, ho⟩
  rw [heap_setCell_same w' rb 0 _ _ _ h2.row]
  rfl
theorem PairRow.low {w : World} {B : Nat} {v : Value} {R : List (Int × Int)} (h : PairRow w B v R) : ∀ b, v.ownBlock = some b → b < w.heap.size := by
  intro b hb
  rcases h.2 with ⟨h1, _⟩ | ⟨g, cap, cur, h1, hb1, hg, _⟩
  · subst h1; simp [Value.ownBlock] at hb
  · subst h1
    simp only [Value.ownBlock, Option.some.injEq] at hb
    subst hb
    exact (Array.getElem?_eq_some_iff.1 hg).1
/-- a row that is new, set -/
theorem RQ.fresh {w w' : World} {rb : Nat} {v v' : Value} {R R' : List Ent} (h : RQ w rb v R) (e : Ext w w') (hp : PairRow w' w.heap.size v' R') : RQ (w'.setCell ⟨rb, 0, none⟩ v') rb v' R' ∧ RStep w (w'.setCell ⟨rb, 0, none⟩ v') rb v v' :=
  h.newRow e hp.src (fun b hb => .inr (hp.own b hb)) hp.low
theorem RStep.of_ext {w w' : World} {rb : Nat} {v : Value} (e : Ext w w') : RStep w w' rb v v := ⟨Turn.of_ext e, fun b hb => .inl hb⟩
/-- a queue of a call's own, and the reference's beside it -/
def PL (w0 w : World) (qb : Nat) (S : List Ent) (rb : Nat) (v : Value) (R : List Ent) : Prop := ∃ F, QF w w0.heap.size qb S F ∧ (∀ b ∈ F, w0.heap.size ≤ b) ∧ Ext w0 w ∧ RQ w rb v R ∧ w0.heap.size ≤ rb ∧ rb ∉ F ∧ ∀ b, v.ownBlock = some b → b ∉ F
theorem PL.world {w0 w : World} {qb rb : Nat} {S R : List Ent} {v : Value} (h : PL w0 w qb S rb v R) : Ext w0 w := by obtain ⟨F, hf, h1, hx, h2⟩ := h; exact hx
theorem PL.ref {w0 w : World} {qb rb : Nat} {S R : List Ent} {v : Value} (h : PL w0 w qb S rb v R) : RQ w rb v R := by obtain ⟨F, hf, h1, hx, h2, _⟩ := h; exact h2
theorem PL.sorted {w0 w : World} {qb rb : Nat} {S R : List Ent} {v : Value} (h : PL w0 w qb S rb v R) : (S.Pairwise fun a b => ¬ lt b a) ∧ (S.map (·.1)).Nodup := by obtain ⟨F, hf, h1, hx, h2, _⟩ := h; exact ⟨hf.sorted, hf.keys⟩
theorem PL.ext {w0 w w' : World} {qb rb : Nat} {S R : List Ent} {v : Value} (h : PL w0 w qb S rb v R) (e : Ext w w') : PL w0 w' qb S rb v R := by
  obtain ⟨F, hf, h1, hx, h2, h3, h4, h5⟩ := h
  exact ⟨F, hf.ext e, h1, hx.trans e, h2.ext e, h3, h4, h5⟩
theorem PL.qstep {w0 w w' : World} {qb rb : Nat} {S' R : List Ent} {v : Value} {F F' : List Nat} (hq : QF w' w0.heap.size qb S' F') (h1 : ∀ b ∈ F, w0.heap.size ≤ b) (hx : Ext w0 w) (h2 : RQ w rb v R) (h3 : w0.heap.size ≤ rb) (h4 : rb ∉ F) (h5 : ∀ b, v.ownBlock = some b → b ∉ F) (s : QStep w w' F F') : PL w0 w' qb S' rb v R := by
  have hlt := h2.lt
  refine ⟨F', hq, fun b hm => ?_, Below.trans hx (s.1.below hx.size h1), h2.turn s.1 h4 h5, h3, fun hm => ?_, fun b hb hm => ?_⟩
  · rcases s.2 b hm with h | h
    · exact h1 b h
    · have := hx.size; omega
  · rcases s.2 rb hm with h | h
    · exact h4 h
    · omega
  · rcases s.2 b hm with h | h
    · exact h5 b hb h
    · have := h2.low b hb; omega
theorem PL.rstep {w0 w w' : World} {qb rb : Nat} {S R R' : List Ent} {v v' : Value} (h : PL w0 w qb S rb v R) (hr : RQ w' rb v' R') (s : RStep w w' rb v v') : PL w0 w' qb S rb v' R' := by
  obtain ⟨F, hf, h1, hx, h2, h3, h4, h5⟩ := h
  have hlt := hf.lt
  refine ⟨F, hf.turn s.1 (fun b hb hm => by simp at hm; subst hm; exact h4 hb), h1, Below.trans hx (s.1.below hx.size (by simpa using h3)), hr, h3, h4, fun b hb hm => ?_⟩
  rcases s.2 b hb with h | h
  · exact h5 b h hm
  · have := hlt b hm; omega
theorem pl_push {w0 w : World} {qb rb : Nat} {S R : List Ent} {v : Value} (h : PL w0 w qb S rb v R) (hl : S.length ≤ 900) (k r : Int) :
    Calls Try.prog 8 #[.pointer (some ⟨qb, 0, none⟩), .int .i64 k, .int .i64 r] w fun e w' => e = .returned (.bool (Go.Proofs.Ytgapjglijpdkmaa.fresh S k)) ∧ PL w0 w' qb (put1 S (k, r)) rb v R := by
  obtain ⟨F, hf, h1, hx, h2, h3, h4, h5⟩ := h
  exact (qpush_f hf hl k r).mono fun _ _ ⟨he, F', hq, hs⟩ => ⟨he, PL.qstep hq h1 hx h2 h3 h4 h5 hs⟩
theorem pl_drop {w0 w : World} {qb rb : Nat} {S R : List Ent} {v : Value} (h : PL w0 w qb S rb v R) (hl : S.length ≤ 900) (k : Int) :
    Calls Try.prog 11 #[.pointer (some ⟨qb, 0, none⟩), .int .i64 k] w fun e w' => e = .returned (.bool (!Go.Proofs.Ytgapjglijpdkmaa.fresh S k)) ∧ PL w0 w' qb (dropK S k) rb v R := by
  obtain ⟨F, hf, h1, hx, h2, h3, h4, h5⟩ := h
  exact (qdrop_f hf hl k).mono fun _ _ ⟨he, F', hq, hs⟩ => ⟨he, PL.qstep hq h1 hx h2 h3 h4 h5 hs⟩
theorem pl_pop {w0 w : World} {qb rb : Nat} {x : Ent} {S R : List Ent} {v : Value} (h : PL w0 w qb (x :: S) rb v R) (hl : S.length ≤ 800) :
    Calls Try.prog 10 #[.pointer (some ⟨qb, 0, none⟩)] w fun e w' => e = .returned (.tuple #[.int .i64 x.1, .int .i64 x.2, .bool true]) ∧ PL w0 w' qb S rb v R := by
  obtain ⟨F, hf, h1, hx, h2, h3, h4, h5⟩ := h
  exact (qpop_f hf hl).mono fun _ _ ⟨he, F', hq, hs⟩ => ⟨he, PL.qstep hq h1 hx h2 h3 h4 h5 hs⟩
theorem pl_pop0 {w0 w : World} {qb rb : Nat} {R : List Ent} {v : Value} (h : PL w0 w qb [] rb v R) :
    Calls Try.prog 10 #[.pointer (some ⟨qb, 0, none⟩)] w fun e w' => e = .returned (.tuple #[.int .i64 0, .int .i64 0, .bool false]) ∧ w = w' := by
  obtain ⟨F, hf, h1, hx, h2, h3, h4, h5⟩ := h
  exact qpop_f0 hf
theorem pl_list {w0 w : World} {qb rb : Nat} {S R : List Ent} {v : Value} (h : PL w0 w qb S rb v R) (hl : S.length ≤ 900) :
    Calls Try.prog 14 #[.pointer (some ⟨qb, 0, none⟩)] w fun e w' => ∃ vo, e = .returned vo ∧ PairSl w' vo S ∧ Ext w w' := by
  obtain ⟨F, hf, h1, hx, h2, h3, h4, h5⟩ := h
  exact (qlist_f hf hl).mono fun _ _ ⟨vo, he, hp, hx⟩ => ⟨vo, he, hp.sl, hx⟩
theorem pl_len {w0 w : World} {qb rb : Nat} {S R : List Ent} {v : Value} (h : PL w0 w qb S rb v R) : Calls Try.prog 15 #[.pointer (some ⟨qb, 0, none⟩)] w fun e w' => e = .returned (.int .i64 S.length) ∧ w = w' := by
  obtain ⟨F, hf, h1, hx, h2, h3, h4, h5⟩ := h
  exact qlen_f hf
end Go.Proofs.Ytgapjglijpdkmaa
