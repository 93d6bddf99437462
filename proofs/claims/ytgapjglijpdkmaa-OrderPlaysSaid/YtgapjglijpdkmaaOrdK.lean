/- A queue's rows, plainly: what is fresh, what comes first; the walk of wakes. -/
import Derived.Test.YtgapjglijpdkmaaOrdJ
namespace Go.Proofs.Ytgapjglijpdkmaa
open Go.RowKit Go.Maps Heap Go.Sort Go.Shelf
set_option maxHeartbeats 8000000
set_option maxRecDepth 100000
theorem fresh_any (L : List Ent) (k : Int) : fresh L k = !(L.any fun e => e.1 == k) := by
  rw [Bool.eq_iff_iff, fresh_iff]
  simp
theorem fresh_perm {L M : List Ent} (h : L.Perm M) (k : Int) : fresh L k = fresh M k := by
  rw [Bool.eq_iff_iff, fresh_iff, fresh_iff]
  exact ⟨fun a e he => a e (h.mem_iff.2 he), fun a e he => a e (h.mem_iff.1 he)⟩
theorem sortE_of_perm {L M : List Ent} (h : L.Perm M) : sortE L = sortE M := sortE_eq ((sortE_perm M).trans h.symm) (sortE_sorted M)
theorem nth_mem {L : List Ent} {i : Nat} (hi : i < L.length) : nth L i ∈ L := by rw [nth_ge hi]; exact List.getElem_mem hi
theorem heap_first {L : List Ent} (h : HeapN L L.length) {x : Ent} (hx : x ∈ L) : ¬ lt x (nth L 0) := by
  obtain ⟨i, hi, rfl⟩ := List.getElem_of_mem hx
  have := h.first i i (Nat.le_refl _) hi
  rwa [nth_ge hi] at this
/-- what is left behind the first, in order -/
theorem sortE_pop {L L' : List Ent} (h : HeapN L L.length) (hp : (nth L 0 :: L').Perm L) : sortE L = nth L 0 :: sortE L' := by
  refine sortE_eq (((sortE_perm L').cons _).trans hp) (List.pairwise_cons.2 ⟨fun x hx => ?_, sortE_sorted L'⟩)
  exact heap_first h (hp.mem_iff.1 (List.mem_cons_of_mem _ ((sortE_perm L').mem_iff.1 hx)))
/-- what is left without a key -/
def dropK (S : List Ent) (k : Int) : List Ent := S.filter fun e => !(e.1 == k)
theorem sortE_drop {L L' : List Ent} {k r : Int} (hk : (L.map (·.1)).Nodup) (hp : ((k, r) :: L').Perm L) : sortE L' = dropK (sortE L) k := by
  refine sortE_eq ?_ ((sortE_sorted L).sublist List.filter_sublist)
  have h1 : (dropK (sortE L) k).Perm (((k, r) :: L').filter fun e => !(e.1 == k)) := ((sortE_perm L).trans hp.symm).filter _
  refine h1.trans ?_
  rw [List.filter_cons_of_neg (by simp), List.filter_eq_self.2]
  intro e he
  have hn := (hp.map (·.1)).nodup_iff.2 hk
  rw [List.map_cons, List.nodup_cons] at hn
  simp only [Bool.not_eq_true', beq_eq_false_iff_ne]
  intro h
  exact hn.1 (List.mem_map.2 ⟨e, he, h⟩)
theorem dropK_fresh {S : List Ent} {k : Int} (h : fresh S k = true) : dropK S k = S := by
  unfold dropK
  rw [List.filter_eq_self]
  intro e he
  simpa using fresh_iff.1 h e he
/-- a queue by its entries in their order, and the blocks that are its own -/
def QF (w : World) (B qb : Nat) (S : List Ent) (F : List Nat) : Prop := ∃ pb v L, QAt w qb pb B v L ∧ sortE L = S ∧ F = qb :: pb :: fp v
theorem QF.lt {w : World} {B qb : Nat} {S : List Ent} {F : List Nat} (h : QF w B qb S F) : ∀ b ∈ F, b < w.heap.size := by
  obtain ⟨pb, v, L, hq, _, rfl⟩ := h
  intro b hb
  rcases List.mem_cons.1 hb with rfl | hb
  · exact (Array.getElem?_eq_some_iff.1 hq.q).1
  · rcases List.mem_cons.1 hb with rfl | hb
    · exact hq.pile.lt
    · exact (hq.pile.ent.lt b (mem_fp.1 hb)).2
theorem QF.turn {w w' : World} {B qb : Nat} {S : List Ent} {F G : List Nat} (h : QF w B qb S F) (t : Turn G w w') (hd : ∀ b ∈ F, b ∉ G) : QF w' B qb S F := by
  have hlt := h.lt
  obtain ⟨pb, v, L, hq, hs, rfl⟩ := h
  refine ⟨pb, v, L, ⟨?_, ⟨?_, ?_, hq.pile.ne⟩, hq.heap, hq.keys, hq.ne, hq.off, Nat.le_trans hq.sz t.size⟩, hs, rfl⟩
  · unfold QueueAt; rw [t.block qb (hlt qb (.head _)) (hd qb (.head _))]; exact hq.q
  · rw [t.block pb (hlt pb (.tail _ (.head _))) (hd pb (.tail _ (.head _)))]; exact hq.pile.row
  · exact hq.pile.ent.turn t fun b hb => hd b (.tail _ (.tail _ (mem_fp.2 hb)))
theorem QF.ext {w w' : World} {B qb : Nat} {S : List Ent} {F : List Nat} (h : QF w B qb S F) (e : Ext w w') : QF w' B qb S F := h.turn (G := []) (Turn.of_ext e) (by simp)
theorem QF.sorted {w : World} {B qb : Nat} {S : List Ent} {F : List Nat} (h : QF w B qb S F) : S.Pairwise fun a b => ¬ Heap.lt b a := by
  obtain ⟨pb, v, L, hq, rfl, _⟩ := h
  exact sortE_sorted L
theorem QF.keys {w : World} {B qb : Nat} {S : List Ent} {F : List Nat} (h : QF w B qb S F) : (S.map (·.1)).Nodup := by
  obtain ⟨pb, v, L, hq, rfl, _⟩ := h
  exact ((sortE_perm L).map (·.1)).nodup_iff.2 hq.keys
theorem PStep.turned {w w' : World} {pb qb : Nat} {v v' : Value} (s : PStep w w' pb v v') : Turn (qb :: pb :: fp v) w w' ∧ ∀ b ∈ qb :: pb :: fp v', b ∈ qb :: pb :: fp v ∨ w.heap.size ≤ b := by
  refine ⟨s.1.mono fun b hb => .tail _ hb, fun b hb => ?_⟩
  rcases List.mem_cons.1 hb with rfl | hb
  · exact .inl (.head _)
  · rcases List.mem_cons.1 hb with rfl | hb
    · exact .inl (.tail _ (.head _))
    · rcases s.2 b (mem_fp.1 hb) with h | h
      · exact .inl (.tail _ (.tail _ (mem_fp.2 h)))
      · exact .inr h
/-- what a call does to a queue's blocks -/
def QStep (w w' : World) (F F' : List Nat) : Prop := Turn F w w' ∧ ∀ b ∈ F', b ∈ F ∨ w.heap.size ≤ b
theorem qnew_f (w : World) : Calls Try.prog 6 #[] w fun e w' => ∃ qb F, e = .returned (.pointer (some ⟨qb, 0, none⟩)) ∧ QF w' w.heap.size qb [] F ∧ Ext w w' ∧ ∀ b ∈ F, w.heap.size ≤ b := by
  refine (qnew_is w).mono ?_
  rintro e w' ⟨qb, pb, v, he, hq, hx, h1, h2⟩
  refine ⟨qb, _, he, ⟨pb, v, [], hq, by simp [sortE], rfl⟩, hx, fun b hb => ?_⟩
  rcases List.mem_cons.1 hb with rfl | hb
  · exact h1
  · rcases List.mem_cons.1 hb with rfl | hb
    · exact h2
    · exact (hq.pile.ent.lt b (mem_fp.1 hb)).1
theorem qlen_f {w : World} {B qb : Nat} {S : List Ent} {F : List Nat} (h : QF w B qb S F) : Calls Try.prog 15 #[.pointer (some ⟨qb, 0, none⟩)] w fun e w' => e = .returned (.int .i64 S.length) ∧ w = w' := by
  obtain ⟨pb, v, L, hq, rfl, _⟩ := h
  rw [(sortE_perm L).length_eq]
  exact qlen_is hq
theorem qpush_f {w : World} {B qb : Nat} {S : List Ent} {F : List Nat} (h : QF w B qb S F) (hl : S.length ≤ 900) (k r : Int) :
    Calls Try.prog 8 #[.pointer (some ⟨qb, 0, none⟩), .int .i64 k, .int .i64 r] w fun e w' => e = .returned (.bool (fresh S k)) ∧ ∃ F', QF w' B qb (if fresh S k then sortE (S ++ [(k, r)]) else S) F' ∧ QStep w w' F F' := by
  obtain ⟨pb, v, L, hq, rfl, rfl⟩ := h
  rw [(sortE_perm L).length_eq] at hl
  rw [fresh_perm (sortE_perm L) k]
  refine (qpush_is hq hl k r).mono ?_
  rintro e w' ⟨he, v', L', hq', hs, hp⟩
  refine ⟨he, _, ⟨pb, v', L', hq', ?_, rfl⟩, hs.turned⟩
  cases hf : fresh L k
  · rw [hf] at hp
    exact sortE_of_perm (by simpa using hp)
  · rw [hf] at hp
    simp only [if_true] at hp ⊢
    exact sortE_of_perm (hp.trans ((sortE_perm L).symm.append_right _))
theorem qpop_f0 {w : World} {B qb : Nat} {F : List Nat} (h : QF w B qb [] F) :
    Calls Try.prog 10 #[.pointer (some ⟨qb, 0, none⟩)] w fun e w' => e = .returned (.tuple #[.int .i64 0, .int .i64 0, .bool false]) ∧ w = w' := by
  obtain ⟨pb, v, L, hq, hs, _⟩ := h
  exact hq.empty_pop (by rw [← (sortE_perm L).length_eq, hs]; rfl)
theorem qpop_f {w : World} {B qb : Nat} {x : Ent} {S : List Ent} {F : List Nat} (h : QF w B qb (x :: S) F) (hl : S.length ≤ 800) :
    Calls Try.prog 10 #[.pointer (some ⟨qb, 0, none⟩)] w fun e w' => e = .returned (.tuple #[.int .i64 x.1, .int .i64 x.2, .bool true]) ∧ ∃ F', QF w' B qb S F' ∧ QStep w w' F F' := by
  obtain ⟨pb, v, L, hq, hs, rfl⟩ := h
  have hL : L.length = S.length + 1 := by rw [← (sortE_perm L).length_eq, hs]; rfl
  refine (qpop_is hq hL (by omega)).mono ?_
  rintro e w' ⟨he, v', L', hq', hst, hp⟩
  have h1 := sortE_pop hq.heap hp
  rw [hs] at h1
  obtain ⟨rfl, h2⟩ := List.cons.inj h1
  exact ⟨he, _, ⟨pb, v', L', hq', h2.symm, rfl⟩, hst.turned⟩
theorem qdrop_f {w : World} {B qb : Nat} {S : List Ent} {F : List Nat} (h : QF w B qb S F) (hl : S.length ≤ 900) (k : Int) :
    Calls Try.prog 11 #[.pointer (some ⟨qb, 0, none⟩), .int .i64 k] w fun e w' => e = .returned (.bool (!fresh S k)) ∧ ∃ F', QF w' B qb (dropK S k) F' ∧ QStep w w' F F' := by
  obtain ⟨pb, v, L, hq, rfl, rfl⟩ := h
  rw [(sortE_perm L).length_eq] at hl
  have hfp := fresh_perm (sortE_perm L) k
  rw [hfp]
  refine (qdrop_is hq hl k).mono ?_
  rintro e w' ⟨he, v', L', hq', hs, hp⟩
  refine ⟨he, _, ⟨pb, v', L', hq', ?_, rfl⟩, hs.turned⟩
  cases hf : fresh L k
  · rw [hf] at hp
    simp only [Bool.false_eq_true, if_false] at hp
    obtain ⟨r, hp⟩ := hp
    exact sortE_drop hq.keys hp
  · rw [hf] at hp
    simp only [if_true] at hp
    rw [hp, dropK_fresh (by rw [hfp]; exact hf)]
theorem qlist_f {w : World} {B qb : Nat} {S : List Ent} {F : List Nat} (h : QF w B qb S F) (hl : S.length ≤ 900) :
    Calls Try.prog 14 #[.pointer (some ⟨qb, 0, none⟩)] w fun e w' => ∃ vo, e = .returned vo ∧ PairRow w' w.heap.size vo S ∧ Ext w w' := by
  obtain ⟨pb, v, L, hq, rfl, _⟩ := h
  rw [(sortE_perm L).length_eq] at hl
  exact qlist_is hq hl
/-- one queue of a call's own -/
def Q1 (w0 w : World) (qb : Nat) (S : List Ent) : Prop := ∃ F, QF w w0.heap.size qb S F ∧ (∀ b ∈ F, w0.heap.size ≤ b) ∧ Ext w0 w
theorem Q1.ext {w0 w w' : World} {qb : Nat} {S : List Ent} (h : Q1 w0 w qb S) (e : Ext w w') : Q1 w0 w' qb S := by
  obtain ⟨F, hf, hb, hx⟩ := h
  exact ⟨F, hf.ext e, hb, hx.trans e⟩
theorem Q1.world {w0 w : World} {qb : Nat} {S : List Ent} (h : Q1 w0 w qb S) : Ext w0 w := by obtain ⟨F, hf, hb, hx⟩ := h; exact hx
theorem Q1.sorted {w0 w : World} {qb : Nat} {S : List Ent} (h : Q1 w0 w qb S) : S.Pairwise fun a b => ¬ Heap.lt b a := by obtain ⟨F, hf, hb, hx⟩ := h; exact hf.sorted
theorem Q1.keys {w0 w : World} {qb : Nat} {S : List Ent} (h : Q1 w0 w qb S) : (S.map (·.1)).Nodup := by obtain ⟨F, hf, hb, hx⟩ := h; exact hf.keys
theorem Q1.step {w0 w w' : World} {qb : Nat} {S' : List Ent} {F F' : List Nat} (hq : QF w' w0.heap.size qb S' F') (hb : ∀ b ∈ F, w0.heap.size ≤ b) (hx : Ext w0 w) (s : QStep w w' F F') : Q1 w0 w' qb S' := by
  refine ⟨F', hq, fun b hm => ?_, Below.trans hx (s.1.below hx.size hb)⟩
  rcases s.2 b hm with h | h
  · exact hb b h
  · have := hx.size; omega
theorem q1_new (w : World) : Calls Try.prog 6 #[] w fun e w' => ∃ qb, e = .returned (.pointer (some ⟨qb, 0, none⟩)) ∧ Q1 w w' qb [] :=
  (qnew_f w).mono fun _ _ ⟨qb, F, he, hq, hx, hb⟩ => ⟨qb, he, F, hq, hb, hx⟩
theorem q1_len {w0 w : World} {qb : Nat} {S : List Ent} (h : Q1 w0 w qb S) : Calls Try.prog 15 #[.pointer (some ⟨qb, 0, none⟩)] w fun e w' => e = .returned (.int .i64 S.length) ∧ w = w' := by
  obtain ⟨F, hf, hb, hx⟩ := h
  exact qlen_f hf
theorem q1_push {w0 w : World} {qb : Nat} {S : List Ent} (h : Q1 w0 w qb S) (hl : S.length ≤ 900) (k r : Int) :
    Calls Try.prog 8 #[.pointer (some ⟨qb, 0, none⟩), .int .i64 k, .int .i64 r] w fun e w' => e = .returned (.bool (fresh S k)) ∧ Q1 w0 w' qb (if fresh S k then sortE (S ++ [(k, r)]) else S) := by
  obtain ⟨F, hf, hb, hx⟩ := h
  exact (qpush_f hf hl k r).mono fun _ _ ⟨he, F', hq, hs⟩ => ⟨he, Q1.step hq hb hx hs⟩
theorem q1_pop0 {w0 w : World} {qb : Nat} (h : Q1 w0 w qb []) :
    Calls Try.prog 10 #[.pointer (some ⟨qb, 0, none⟩)] w fun e w' => e = .returned (.tuple #[.int .i64 0, .int .i64 0, .bool false]) ∧ w = w' := by
  obtain ⟨F, hf, hb, hx⟩ := h
  exact qpop_f0 hf
theorem q1_pop {w0 w : World} {qb : Nat} {x : Ent} {S : List Ent} (h : Q1 w0 w qb (x :: S)) (hl : S.length ≤ 800) :
    Calls Try.prog 10 #[.pointer (some ⟨qb, 0, none⟩)] w fun e w' => e = .returned (.tuple #[.int .i64 x.1, .int .i64 x.2, .bool true]) ∧ Q1 w0 w' qb S := by
  obtain ⟨F, hf, hb, hx⟩ := h
  exact (qpop_f hf hl).mono fun _ _ ⟨he, F', hq, hs⟩ => ⟨he, Q1.step hq hb hx hs⟩
theorem q1_drop {w0 w : World} {qb : Nat} {S : List Ent} (h : Q1 w0 w qb S) (hl : S.length ≤ 900) (k : Int) :
    Calls Try.prog 11 #[.pointer (some ⟨qb, 0, none⟩), .int .i64 k] w fun e w' => e = .returned (.bool (!fresh S k)) ∧ Q1 w0 w' qb (dropK S k) := by
  obtain ⟨F, hf, hb, hx⟩ := h
  exact (qdrop_f hf hl k).mono fun _ _ ⟨he, F', hq, hs⟩ => ⟨he, Q1.step hq hb hx hs⟩
theorem q1_list {w0 w : World} {qb : Nat} {S : List Ent} (h : Q1 w0 w qb S) (hl : S.length ≤ 900) :
    Calls Try.prog 14 #[.pointer (some ⟨qb, 0, none⟩)] w fun e w' => ∃ vo, e = .returned vo ∧ PairRow w' w.heap.size vo S ∧ Ext w w' := by
  obtain ⟨F, hf, hb, hx⟩ := h
  exact qlist_f hf hl
end Go.Proofs.Ytgapjglijpdkmaa
