/- A queue's Pop and Drop. -/
import Derived.Test.YtgapjglijpdkmaaOrdH
namespace Go.Proofs.Ytgapjglijpdkmaa
open Go.RowKit Go.Maps Heap Go.Sort Go.Shelf
set_option maxHeartbeats 8000000
set_option maxRecDepth 100000
theorem QAt.empty_pop {w : World} {qb pb B : Nat} {v : Value} {L : List Ent} (h : QAt w qb pb B v L) (hl : L.length = 0) :
    Calls Try.prog 10 #[.pointer (some ⟨qb, 0, none⟩)] w fun e w' => e = .returned (.tuple #[.int .i64 0, .int .i64 0, .bool false]) ∧ w = w' := by
  have HL := Lib.hid (qlen_is h)
  rw [hl] at HL
  clear h
  go_enter Try.func10, Try.ntmps10
  go_wp2_with fail
  refine HL.out.mono ?_; rintro e w' ⟨rfl, rfl⟩
  go_wp2
  go_ret3
  exact ⟨rfl, rfl⟩
theorem qpop_is {w : World} {qb pb B : Nat} {v : Value} {L : List Ent} {m : Nat} (h : QAt w qb pb B v L) (hm : L.length = m + 1) (hl : L.length ≤ 900) :
    Calls Try.prog 10 #[.pointer (some ⟨qb, 0, none⟩)] w fun e w' => e = .returned (.tuple #[.int .i64 (nth L 0).1, .int .i64 (nth L 0).2, .bool true]) ∧ ∃ v' L', QAt w' qb pb B v' L' ∧ PStep w w' pb v v' ∧ (nth L 0 :: L').Perm L := by
  have q0 := h.cell
  have HL := Lib.hid (qlen_is h)
  have HP := Lib.hid (hpop_is h.pile hm h.heap hl)
  have H := Lib.hid h
  have i1 : ((L.length : Int) == 0) = false := beq_eq_false_iff_ne.2 (by omega)
  have i2 : ¬ (L.length : Int) = 0 := by omega
  have i3 : ¬ L.length = 0 := by omega
  have hta := fun W => t_assert (nth L 0).1 (nth L 0).2 W
  clear h
  generalize nth L 0 = x at *
  go_enter Try.func10, Try.ntmps10
  go_wp2_with fail
  refine HL.out.mono ?_; rintro e w' ⟨rfl, rfl⟩
  go_wp2_with fail
  refine HP.out.mono ?_; rintro e w2 ⟨rfl, v', L', hp, hh, hP, hS⟩
  have hk : (L'.map (·.1)).Nodup := by
    have := (hp.map (·.1)).nodup_iff.2 H.out.keys
    rw [List.map_cons, List.nodup_cons] at this
    exact this.2
  have HR := Lib.hid (show QAt w2 qb pb B v' L' ∧ PStep w w2 pb v v' ∧ (x :: L').Perm L from ⟨H.out.stepped hS hP hh hk, hS, hp⟩)
  clear hp hh hP hS hk
  go_wp2_with fail
  have bx := heap_alloc_new w2 (.cells #[.int .i64 x.1, .int .i64 x.2] 56)
  have ex : Ext w2 (w2.alloc (.cells #[.int .i64 x.1, .int .i64 x.2] 56)) := Ext.alloc _ _
  generalize w2.alloc (.cells #[.int .i64 x.1, .int .i64 x.2] 56) = W at *
  have X0 : W.cell? ⟨w2.heap.size, 0, none⟩ = some (.int .i64 x.1) := by simp [World.cell?, bx]
  have X1 : W.cell? ⟨w2.heap.size, 1, none⟩ = some (.int .i64 x.2) := by simp [World.cell?, bx]
  have HX := Lib.hid ex
  clear bx ex
  go_big_quiet (fail)
  go_wp2
  go_ret3
  exact ⟨rfl, v', L', HR.out.1.ext (HX.out.trans (Ext.drewN _ _)), HR.out.2.1.trans (PStep.of_ext (HX.out.trans (Ext.drewN _ _)) pb v'), HR.out.2.2⟩
theorem qdrop_none (w : World) (k : Int) : Calls Try.prog 11 #[.pointer none, .int .i64 k] w fun e w' => e = .returned (.bool false) ∧ w = w' := by
  go_enter Try.func11, Try.ntmps11
  go_wp2
  go_ret
  exact ⟨rfl, rfl⟩
theorem qdrop_is {w : World} {qb pb B : Nat} {v : Value} {L : List Ent} (h : QAt w qb pb B v L) (hl : L.length ≤ 900) (k : Int) :
    Calls Try.prog 11 #[.pointer (some ⟨qb, 0, none⟩), .int .i64 k] w fun e w' => e = .returned (.bool (!fresh L k)) ∧ ∃ v' L', QAt w' qb pb B v' L' ∧ PStep w w' pb v v' ∧ (if fresh L k then L' = L else ∃ r, ((k, r) :: L').Perm L) := by
  have q0 := h.cell
  have p0 := h.pile.cell.1
  obtain ⟨q, c, hv, hc1, hc2⟩ := h.pile.ent.nilOr
  have hmf : (method 215 46 (.pointer (some ⟨pb, 0, none⟩)) "stockpot/order.find").run Try.prog w = .ok (43, v) w := by rw [hv] at p0 ⊢; exact m_find p0 214
  have H := Lib.hid h
  have HFI := Lib.hid (find_is h.pile k (by omega))
  rcases find_spec L k with ⟨hf, hno⟩ | ⟨i, hi, hf, hki⟩
  · have hfr : fresh L k = true := by unfold fresh; rw [hf]; decide
    have HF := Lib.hid hfr
    rw [hf] at HFI
    clear h hv hf hno hfr
    rw [HF.out]
    go_enter Try.func11, Try.ntmps11
    go_wp2_with fail
    refine HFI.out.mono ?_; rintro e w1 ⟨rfl, x1⟩
    have H1 := Lib.hid (H.out.ext x1)
    have HX1 := Lib.hid x1
    clear x1
    go_wp2
    go_ret
    exact ⟨rfl, v, H1.out, PStep.of_ext HX1.out pb v⟩
  · have hfr : fresh L k = false := by unfold fresh; rw [hf]; simp
    have HF := Lib.hid hfr
    have HKI := Lib.hid hki
    rw [hf] at HFI
    obtain ⟨m, hm⟩ : ∃ m, L.length = m + 1 := ⟨L.length - 1, by omega⟩
    clear h hv hf hki hfr
    rw [HF.out]
    go_enter Try.func11, Try.ntmps11
    go_wp2_with fail
    refine HFI.out.mono ?_; rintro e w1 ⟨rfl, x1⟩
    have H1 := Lib.hid (H.out.ext x1)
    have q1 := x1.cell q0
    have HX1 := Lib.hid x1
    clear x1
    have i1 : ¬ (i : Int) < 0 := by omega
    go_wp2_with fail
    refine (hremove_is H1.out.pile hm (i := i) (by omega) H1.out.heap hl).mono ?_; rintro e w2 ⟨⟨xx, rfl⟩, v', L', hp, hh, hP, hS⟩
    have hk : (L'.map (·.1)).Nodup := by
      have := (hp.map (·.1)).nodup_iff.2 H.out.keys
      rw [List.map_cons, List.nodup_cons] at this
      exact this.2
    have HR := Lib.hid (show QAt w2 qb pb B v' L' ∧ PStep w w2 pb v v' ∧ (nth L i :: L').Perm L from ⟨H1.out.stepped hS hP hh hk, (PStep.of_ext HX1.out pb v).trans hS, hp⟩)
    clear hp hh hP hS hk
    go_wp2
    go_ret
    exact ⟨rfl, v', L', HR.out.1, HR.out.2.1, ⟨(nth L i).2, by have h := HR.out.2.2; rw [show nth L i = (k, (nth L i).2) from Prod.ext HKI.out rfl] at h; exact h⟩⟩
end Go.Proofs.Ytgapjglijpdkmaa
