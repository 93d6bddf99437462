/- A queue's calls. -/
import Derived.Test.YtgapjglijpdkmaaOrdG
import Derived.Deep.QuietTactic
namespace Go.Proofs.Ytgapjglijpdkmaa
open Go.RowKit Go.Maps Heap Go.Sort Go.Shelf
set_option maxHeartbeats 8000000
set_option maxRecDepth 100000
/-- a queue of entries: each key once, in a heap's order -/
structure QAt (w : World) (qb pb B : Nat) (v : Value) (L : List Ent) : Prop where
  q : QueueAt w qb pb
  pile : PileAt w B pb v L
  heap : HeapN L L.length
  keys : (L.map (·.1)).Nodup
  ne : qb ≠ pb
  off : ∀ b, v.ownBlock = some b → b ≠ qb
  sz : B ≤ w.heap.size
theorem QAt.ext {w w' : World} {qb pb B : Nat} {v : Value} {L : List Ent} (h : QAt w qb pb B v L) (e : Ext w w') : QAt w' qb pb B v L :=
  ⟨by unfold QueueAt; rw [Below.block e qb (Array.getElem?_eq_some_iff.1 h.q).1]; exact h.q, h.pile.ext e, h.heap, h.keys, h.ne, h.off, Nat.le_trans h.sz e.size⟩
theorem QAt.stepped {w w' : World} {qb pb B : Nat} {v v' : Value} {L L' : List Ent} (h : QAt w qb pb B v L) (s : PStep w w' pb v v') (hp : PileAt w' B pb v' L') (hh : HeapN L' L'.length) (hk : (L'.map (·.1)).Nodup) : QAt w' qb pb B v' L' := by
  have hlt := (Array.getElem?_eq_some_iff.1 h.q).1
  refine ⟨?_, hp, hh, hk, h.ne, fun b hb => (s.2 b hb).elim (h.off b) (fun h1 => by omega), Nat.le_trans h.sz s.1.size⟩
  unfold QueueAt
  rw [s.1.block qb (Array.getElem?_eq_some_iff.1 h.q).1 (fun hm => ?_)]
  · exact h.q
  · rcases List.mem_cons.1 hm with e | hm
    · exact h.ne e
    · exact h.off qb (mem_fp.1 hm) rfl
theorem QAt.cell {w : World} {qb pb B : Nat} {v : Value} {L : List Ent} (h : QAt w qb pb B v L) : w.cell? ⟨qb, 0, none⟩ = some (.iface 46 (.pointer (some ⟨pb, 0, none⟩))) := by
  simp [World.cell?, show w.heap[qb]? = _ from h.q]
theorem qlen_is {w : World} {qb pb B : Nat} {v : Value} {L : List Ent} (h : QAt w qb pb B v L) : Calls Try.prog 15 #[.pointer (some ⟨qb, 0, none⟩)] w fun e w' => e = .returned (.int .i64 L.length) ∧ w = w' := queue_len h.q h.pile
theorem qlen_none (w : World) : Calls Try.prog 15 #[.pointer none] w fun e w' => e = .returned (.int .i64 0) ∧ w = w' := by
  go_enter Try.func15, Try.ntmps15
  go_wp2
  go_ret
  exact ⟨rfl, rfl⟩
theorem qnew_is (w : World) : Calls Try.prog 6 #[] w fun e w' => ∃ qb pb v, e = .returned (.pointer (some ⟨qb, 0, none⟩)) ∧ QAt w' qb pb w.heap.size v [] ∧ Ext w w' ∧ w.heap.size ≤ qb ∧ w.heap.size ≤ pb := by
  go_enter Try.func6, Try.ntmps6
  go_wp2
  have b0 := heap_alloc_new w (.cells #[] 56)
  have e0 : Ext w (w.alloc (.cells #[] 56)) := Ext.alloc _ _
  have s0 : (w.alloc (.cells #[] 56)).heap.size = w.heap.size + 1 := by simp
  generalize w.alloc (.cells #[] 56) = W0 at *
  have b1 := heap_alloc_new W0 (.cells #[.slice (some ⟨w.heap.size, 0, none⟩) 0 0] 48)
  have e1 : Ext W0 (W0.alloc (.cells #[.slice (some ⟨w.heap.size, 0, none⟩) 0 0] 48)) := Ext.alloc _ _
  have s1 : (W0.alloc (.cells #[.slice (some ⟨w.heap.size, 0, none⟩) 0 0] 48)).heap.size = W0.heap.size + 1 := by simp
  generalize W0.alloc (.cells #[.slice (some ⟨w.heap.size, 0, none⟩) 0 0] 48) = W1 at *
  rw [s0] at b1 s1
  have b2 := heap_alloc_new W1 (.cells #[.iface 46 (.pointer (some ⟨w.heap.size + 1, 0, none⟩))] 52)
  have e2 : Ext W1 (W1.alloc (.cells #[.iface 46 (.pointer (some ⟨w.heap.size + 1, 0, none⟩))] 52)) := Ext.alloc _ _
  rw [s1] at b2
  generalize W1.alloc (.cells #[.iface 46 (.pointer (some ⟨w.heap.size + 1, 0, none⟩))] 52) = W2 at *
  go_ret
  refine ⟨w.heap.size + 1 + 1, w.heap.size + 1, .slice (some ⟨w.heap.size, 0, none⟩) 0 0, rfl, ⟨b2, ⟨?_, ⟨rfl, .inr ⟨w.heap.size, 0, #[], rfl, Nat.le_refl _, ?_, Nat.le_refl _, Nat.zero_le _, rfl, rfl⟩⟩, ?_⟩, ?_, by simp, by omega, ?_, ?_⟩, e0.trans (e1.trans e2), by omega, by omega⟩
  · rw [Below.block e2 _ (by omega)]; exact b1
  · rw [Below.block e2 _ (by omega), Below.block e1 _ (by omega)]; exact b0
  · intro b hb; simp [Value.ownBlock] at hb; omega
  · intro c h0 hc; simp at hc
  · intro b hb; simp [Value.ownBlock] at hb; omega
  · have := e2.size; omega
theorem qpush_none (w : World) (k r : Int) : Calls Try.prog 8 #[.pointer none, .int .i64 k, .int .i64 r] w fun e w' => e = .returned (.bool false) ∧ w = w' := by
  go_enter Try.func8, Try.ntmps8
  go_wp2
  go_ret
  exact ⟨rfl, rfl⟩
theorem qpop_none (w : World) : Calls Try.prog 10 #[.pointer none] w fun e w' => e = .returned (.tuple #[.int .i64 0, .int .i64 0, .bool false]) ∧ w = w' := by
  go_enter Try.func10, Try.ntmps10
  go_wp2_with fail
  refine (qlen_none _).mono ?_; rintro e w' ⟨rfl, rfl⟩
  go_wp2
  go_ret3
  exact ⟨rfl, rfl⟩
/-- whether a key is nowhere -/
def fresh (L : List Ent) (k : Int) : Bool := decide (findI L k < 0)
theorem fresh_iff {L : List Ent} {k : Int} : fresh L k = true ↔ ∀ e ∈ L, e.1 ≠ k := by
  unfold fresh
  rcases find_spec L k with ⟨h1, h2⟩ | ⟨i, hi, h1, h2⟩
  · simp only [h1]
    exact ⟨fun _ => h2, fun _ => by decide⟩
  · rw [decide_eq_true_iff, h1]
    constructor
    · intro h; omega
    · intro h
      refine absurd h2 (h _ ?_)
      rw [nth_ge hi]
      exact List.getElem_mem hi
theorem qpush_is {w : World} {qb pb B : Nat} {v : Value} {L : List Ent} (h : QAt w qb pb B v L) (hl : L.length ≤ 900) (k r : Int) :
    Calls Try.prog 8 #[.pointer (some ⟨qb, 0, none⟩), .int .i64 k, .int .i64 r] w fun e w' => e = .returned (.bool (fresh L k)) ∧ ∃ v' L', QAt w' qb pb B v' L' ∧ PStep w w' pb v v' ∧ L'.Perm (if fresh L k then L ++ [(k, r)] else L) := by
  have q0 := h.cell
  have p0 := h.pile.cell.1
  obtain ⟨q, c, hv, hc1, hc2⟩ := h.pile.ent.nilOr
  have hmf : (method 215 46 (.pointer (some ⟨pb, 0, none⟩)) "stockpot/order.find").run Try.prog w = .ok (43, v) w := by rw [hv] at p0 ⊢; exact m_find p0 214
  have H := Lib.hid h
  have HFI := Lib.hid (find_is h.pile k (by omega))
  by_cases hf : fresh L k = true
  · have hfd : findI L k < 0 := of_decide_eq_true hf
    have t1 : decide (0 ≤ findI L k) = false := decide_eq_false (by omega)
    have HF := Lib.hid hf
    clear h hv hf hfd
    rw [HF.out]
    generalize findI L k = r0 at *
    go_enter Try.func8, Try.ntmps8
    go_wp2_with fail
    refine HFI.out.mono ?_; rintro e w1 ⟨rfl, x1⟩
    have H1 := Lib.hid (H.out.ext x1)
    have q1 := x1.cell q0
    have HX1 := Lib.hid x1
    clear x1
    go_wp2_with fail
    refine (hpush_is H1.out.pile H1.out.sz H1.out.heap hl k r).mono ?_; rintro e w2 ⟨rfl, v', L', hp, hh, hP, hS⟩
    have hk : (L'.map (·.1)).Nodup := by
      refine (hp.map (·.1)).nodup_iff.2 ?_
      rw [List.map_append, List.nodup_append]
      refine ⟨H.out.keys, by simp, fun a ha b hb => ?_⟩
      simp at hb
      subst hb
      obtain ⟨e, he, rfl⟩ := List.mem_map.1 ha
      exact fresh_iff.1 HF.out e he
    have HR := Lib.hid (show QAt w2 qb pb B v' L' ∧ PStep w w2 pb v v' ∧ L'.Perm (L ++ [(k, r)]) from ⟨H1.out.stepped hS hP hh hk, (PStep.of_ext HX1.out pb v).trans hS, hp⟩)
    clear hp hh hP hS hk
    go_wp2
    go_ret
    exact ⟨rfl, v', L', HR.out.1, HR.out.2.1, by simpa using HR.out.2.2⟩
  · have hf' : fresh L k = false := by simpa using hf
    have hfd : ¬ findI L k < 0 := of_decide_eq_false hf'
    have t1 : decide (0 ≤ findI L k) = true := decide_eq_true (by omega)
    have HF := Lib.hid hf'
    clear h hv hf hfd hf'
    rw [HF.out]
    generalize findI L k = r0 at *
    go_enter Try.func8, Try.ntmps8
    go_wp2_with fail
    refine HFI.out.mono ?_; rintro e w1 ⟨rfl, x1⟩
    have H1 := Lib.hid (H.out.ext x1)
    have HX1 := Lib.hid x1
    clear x1
    go_wp2
    go_ret
    exact ⟨rfl, v, L, H1.out, PStep.of_ext HX1.out pb v, by simp⟩
end Go.Proofs.Ytgapjglijpdkmaa
