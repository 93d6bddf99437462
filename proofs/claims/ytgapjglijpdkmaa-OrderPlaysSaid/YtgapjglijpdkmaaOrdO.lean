/- Two queues; what is left without a key, plainly. -/
import Derived.Test.YtgapjglijpdkmaaOrdN
namespace Go.Proofs.Ytgapjglijpdkmaa
open Go.RowKit Go.Maps Heap Go.Sort Go.Shelf
set_option maxHeartbeats 8000000
set_option maxRecDepth 100000
/-! plain -/
theorem dropK_sortE (M : List Ent) (k : Int) : dropK (sortE M) k = sortE (dropK M k) :=
  (sortE_eq ((sortE_perm M).filter _) ((sortE_sorted M).sublist List.filter_sublist)).symm
theorem sortE_self {S : List Ent} (h : S.Pairwise fun a b => ¬ lt b a) : sortE S = S := sortE_eq (List.Perm.refl _) h
theorem dropK_append (A B : List Ent) (k : Int) : dropK (A ++ B) k = dropK A k ++ dropK B k := by unfold dropK; exact List.filter_append _ _
theorem fresh_drop {S : List Ent} {k j : Int} (h : j ≠ k) : fresh (dropK S k) j = fresh S j := by
  rw [Bool.eq_iff_iff, fresh_iff, fresh_iff]
  unfold dropK
  constructor
  · intro a e he hej
    exact a e (List.mem_filter.2 ⟨he, by simp [hej, h]⟩) hej
  · intro a e he
    exact a e (List.mem_filter.1 he).1
theorem fresh_dropK (S : List Ent) (k : Int) : fresh (dropK S k) k = true := by
  rw [fresh_iff]
  intro e he
  simpa using (List.mem_filter.1 he).2
theorem pushed_sorted (l : List Ent) : (pushed l).Pairwise fun a b => ¬ lt b a := by
  refine foldl_put (fun _ S => S.Pairwise fun a b => ¬ lt b a) List.Pairwise.nil (fun l e h => ?_) l
  unfold put1
  split
  · exact sortE_sorted _
  · exact h
theorem put1_drop_eq {S : List Ent} {e : Ent} {k : Int} (hs : S.Pairwise fun a b => ¬ lt b a) (h : e.1 = k) : dropK (put1 S e) k = dropK S k := by
  unfold put1
  split
  · rw [dropK_sortE, dropK_append, show dropK [e] k = [] by simp [dropK, h], List.append_nil]
    exact sortE_self (hs.sublist List.filter_sublist)
  · rfl
theorem put1_drop_ne {S : List Ent} {e : Ent} {k : Int} (h : e.1 ≠ k) : dropK (put1 S e) k = put1 (dropK S k) e := by
  unfold put1
  rw [fresh_drop h]
  split
  · rw [dropK_sortE, dropK_append, show dropK [e] k = [e] by simp [dropK, h]]
  · rfl
theorem pushed_drop (l : List Ent) (k : Int) : dropK (pushed l) k = pushed (dropK l k) := by
  refine foldl_put (fun l S => dropK S k = pushed (dropK l k)) rfl (fun l e h => ?_) l
  rw [dropK_append]
  by_cases he : e.1 = k
  · rw [show dropK [e] k = [] by simp [dropK, he], List.append_nil, put1_drop_eq (pushed_sorted l) he, h]
  · rw [show dropK [e] k = [e] by simp [dropK, he], pushed_snoc, put1_drop_ne he, h]
theorem fresh_put {S : List Ent} {e : Ent} {k : Int} : fresh (put1 S e) k = (fresh S k && !(e.1 == k)) := by
  unfold put1
  split
  · rw [fresh_perm (sortE_perm _), fresh_any, fresh_any, List.any_append]; simp
  · rename_i hf
    by_cases h : e.1 = k
    · subst h; simp [hf]
    · simp [h]
theorem fresh_pushed (l : List Ent) (k : Int) : fresh (pushed l) k = !(l.any fun e => e.1 == k) := by
  refine foldl_put (fun l S => fresh S k = !(l.any fun e => e.1 == k)) (by rw [fresh_any]) (fun l e h => ?_) l
  rw [fresh_put, h, List.any_append]
  simp
/-! two queues of a call's own -/
def Q2 (w0 w : World) (qb : Nat) (S : List Ent) (qc : Nat) (T : List Ent) : Prop := ∃ B C F G, QF w B qb S F ∧ QF w C qc T G ∧ (∀ b ∈ F, w0.heap.size ≤ b) ∧ (∀ b ∈ G, w0.heap.size ≤ b) ∧ (∀ b ∈ F, b ∉ G) ∧ Ext w0 w
theorem Q2.comm {w0 w : World} {qb qc : Nat} {S T : List Ent} (h : Q2 w0 w qb S qc T) : Q2 w0 w qc T qb S := by
  obtain ⟨B, C, F, G, hf, hg, h1, h2, h3, hx⟩ := h
  exact ⟨C, B, G, F, hg, hf, h2, h1, fun b hb hm => h3 b hm hb, hx⟩
theorem Q2.ext {w0 w w' : World} {qb qc : Nat} {S T : List Ent} (h : Q2 w0 w qb S qc T) (e : Ext w w') : Q2 w0 w' qb S qc T := by
  obtain ⟨B, C, F, G, hf, hg, h1, h2, h3, hx⟩ := h
  exact ⟨B, C, F, G, hf.ext e, hg.ext e, h1, h2, h3, hx.trans e⟩
theorem Q2.world {w0 w : World} {qb qc : Nat} {S T : List Ent} (h : Q2 w0 w qb S qc T) : Ext w0 w := by
  obtain ⟨B, C, F, G, hf, hg, h1, h2, h3, hx⟩ := h
  exact hx
theorem Q2.sorted {w0 w : World} {qb qc : Nat} {S T : List Ent} (h : Q2 w0 w qb S qc T) : S.Pairwise lt := by
  obtain ⟨B, C, F, G, hf, hg, h1, h2, h3, hx⟩ := h
  exact strict hf.sorted hf.keys
theorem Q2.step {w0 w w' : World} {B C qb qc : Nat} {S' T : List Ent} {F F' G : List Nat} (hq : QF w' B qb S' F') (hg : QF w C qc T G) (h1 : ∀ b ∈ F, w0.heap.size ≤ b) (h2 : ∀ b ∈ G, w0.heap.size ≤ b) (h3 : ∀ b ∈ F, b ∉ G) (hx : Ext w0 w) (s : QStep w w' F F') : Q2 w0 w' qb S' qc T := by
  have hlt := hg.lt
  refine ⟨B, C, F', G, hq, hg.turn s.1 fun b hb hm => h3 b hm hb, fun b hm => ?_, h2, fun b hm hm2 => ?_, Below.trans hx (s.1.below hx.size h1)⟩
  · rcases s.2 b hm with h | h
    · exact h1 b h
    · have := hx.size; omega
  · rcases s.2 b hm with h | h
    · exact h3 b h hm2
    · have := hlt b hm2; omega
theorem q2_new {w0 w : World} {qb : Nat} {S : List Ent} (h : Q1 w0 w qb S) : Calls Try.prog 6 #[] w fun e w' => ∃ qc, e = .returned (.pointer (some ⟨qc, 0, none⟩)) ∧ Q2 w0 w' qb S qc [] := by
  obtain ⟨F, hf, hb, hx⟩ := h
  have hlt := hf.lt
  have := hx.size
  exact (qnew_f w).mono fun _ _ ⟨qc, G, he, hq, hx2, hG⟩ => ⟨qc, he, _, _, F, G, hf.ext hx2, hq, hb, fun b hm => by have := hG b hm; omega, fun b hm hm2 => by have := hG b hm2; have := hlt b hm; omega, hx.trans hx2⟩
theorem q2_push {w0 w : World} {qb qc : Nat} {S T : List Ent} (h : Q2 w0 w qb S qc T) (hl : S.length ≤ 900) (k r : Int) :
    Calls Try.prog 8 #[.pointer (some ⟨qb, 0, none⟩), .int .i64 k, .int .i64 r] w fun e w' => e = .returned (.bool (fresh S k)) ∧ Q2 w0 w' qb (put1 S (k, r)) qc T := by
  obtain ⟨B, C, F, G, hf, hg, h1, h2, h3, hx⟩ := h
  exact (qpush_f hf hl k r).mono fun _ _ ⟨he, F', hq, hs⟩ => ⟨he, Q2.step hq hg h1 h2 h3 hx hs⟩
theorem q2_drop {w0 w : World} {qb qc : Nat} {S T : List Ent} (h : Q2 w0 w qb S qc T) (hl : S.length ≤ 900) (k : Int) :
    Calls Try.prog 11 #[.pointer (some ⟨qb, 0, none⟩), .int .i64 k] w fun e w' => e = .returned (.bool (!fresh S k)) ∧ Q2 w0 w' qb (dropK S k) qc T := by
  obtain ⟨B, C, F, G, hf, hg, h1, h2, h3, hx⟩ := h
  exact (qdrop_f hf hl k).mono fun _ _ ⟨he, F', hq, hs⟩ => ⟨he, Q2.step hq hg h1 h2 h3 hx hs⟩
theorem q2_list {w0 w : World} {qb qc : Nat} {S T : List Ent} (h : Q2 w0 w qb S qc T) (hl : S.length ≤ 900) :
    Calls Try.prog 14 #[.pointer (some ⟨qb, 0, none⟩)] w fun e w' => ∃ vo, e = .returned vo ∧ PairSl w' vo S ∧ Ext w w' := by
  obtain ⟨B, C, F, G, hf, hg, h1, h2, h3, hx⟩ := h
  exact (qlist_f hf hl).mono fun _ _ ⟨vo, he, hp, hx⟩ => ⟨vo, he, hp.sl, hx⟩
theorem q2_len {w0 w : World} {qb qc : Nat} {S T : List Ent} (h : Q2 w0 w qb S qc T) : Calls Try.prog 15 #[.pointer (some ⟨qb, 0, none⟩)] w fun e w' => e = .returned (.int .i64 S.length) ∧ w = w' := by
  obtain ⟨B, C, F, G, hf, hg, h1, h2, h3, hx⟩ := h
  exact qlen_f hf
end Go.Proofs.Ytgapjglijpdkmaa
