/- The reference's queue: Drop. -/
import Derived.Test.YtgapjglijpdkmaaOrdR
namespace Go.Proofs.Ytgapjglijpdkmaa
open Go.RowKit Go.Maps Heap Go.Sort Go.Shelf
set_option maxHeartbeats 8000000
set_option maxRecDepth 100000
theorem take_ne {R : List Ent} {k : Int} {i : Nat} (h : ∀ e ∈ R.take i, e.1 ≠ k) (hi : i < R.length) (hn : R[i].1 ≠ k) : ∀ e ∈ R.take (i + 1), e.1 ≠ k := by
  intro e he
  rw [List.take_succ_eq_append_getElem hi, List.mem_append, List.mem_singleton] at he
  rcases he with he | rfl
  · exact h e he
  · exact hn
theorem refdrop_is {w : World} {rb : Nat} {v : Value} {R : List Ent} (h : RQ w rb v R) (hl : R.length ≤ 900) (hk : (R.map (·.1)).Nodup) (k : Int) :
    Calls Try.prog 12 #[.pointer (some ⟨rb, 0, none⟩), .int .i64 k] w fun e w' => e = .returned (.bool (!fresh R k)) ∧ ∃ v', RQ w' rb v' (dropK R k) ∧ RStep w w' rb v v' := by
  obtain ⟨c0, f0⟩ := h.cell
  obtain ⟨q, c, hv, hc1, hc2, hcell⟩ := h.src.1
  have HC := Lib.hid hcell
  have H := Lib.hid h
  have HK := Lib.hid hk
  have hlt := h.lt
  unfold maxLen at hc2
  clear h hcell hk
  subst hv
  go_enter Try.func12, Try.ntmps12
  go_wp2_with fail
  go_loopw [5] (fun i wr => ∃ ii : Nat, ii ≤ R.length ∧ i = .int .i64 ii ∧ (∀ e ∈ R.take ii, e.1 ≠ k) ∧ Ext w wr) (fun i _ => R.length - (intOf i).toNat)
  case atStart => exact ⟨0, by omega, rfl, by simp, Ext.refl _⟩
  case round =>
    obtain ⟨ii, hii, rfl, hno, hx⟩ := hrel
    have C0 := hx.cell c0
    have F0 := (hx.frozen c0).trans f0
    have HX := Lib.hid hx
    have HNO := Lib.hid hno
    clear hx hno
    by_cases hil : ii < R.length
    · obtain ⟨b, off, rfl, p0, p1⟩ := HC.out ii _ (List.getElem?_eq_getElem hil)
      have P0 := HX.out.cell p0
      have i1 : (ii : Int) < (R.length : Int) := by omega
      clear p0 p1
      by_cases he : R[ii].1 = k
      · have HD := Lib.hid (drop_at HK.out hil he)
        have hfr : fresh R k = false := by
          rw [← Bool.not_eq_true, fresh_iff]
          intro h2
          exact h2 _ (List.getElem_mem hil) he
        have HR0 := Lib.hid (H.out.ext HX.out)
        rw [he] at P0
        obtain ⟨u1, hs1, hp1⟩ := head_srcP (k := ii) HR0.out.src (by omega)
        obtain ⟨u2, hs2, hp2, _⟩ := tail_srcP (k := ii + 1) HR0.out.src (by omega)
        rw [show ((ii + 1 : Nat) : Int) = (ii : Int) + 1 by omega] at hs2
        have HP1 := Lib.hid hp1; have HP2 := Lib.hid hp2
        have hwr : IntKind.i64.wrap ((ii : Int) + 1) = (ii : Int) + 1 := IntWalk.i64_in _ (by omega)
        have HFR := Lib.hid hfr
        clear he hp1 hp2 hfr
        go_upto_region 5 with fail
        refine wp_region_noPanic ?_
        refine wp_region_last 19 (S := (fun w' => w'.cell? ⟨rb, 0, none⟩ = some (.slice (some ⟨b, off, none⟩) R.length c) ∧ w'.frozen? ⟨rb, 0, none⟩ = false ∧ Ext wr w')) (by kernel_rfl) (by kernel_rfl) _ rfl ?_ (fun hHeld => ?_)
        · (refine keep3 C0 F0 ?_; first | exact Ext.drew _ | exact Ext.trans (Ext.alloc _ _) (Ext.drew _) | exact hg1 | exact hg2)
        simp only [List.take_succ_cons, List.take_zero]
        refine wpAnyH_take (i := 0) (v := ?v1) rfl (by kernel_rfl) (by kernel_rfl) (by kernel_rfl) (fun _ _ _ h => h) (Or.inl ⟨by rfl, ?y1⟩) (by assumption) ?r1
        case y1 => intro w hSw; (try dsimp only at hSw); go_simp; (try with_reducible rfl)
        (try simp only [Act.put, List.setIfInBounds_toArray, List.set_cons_zero, List.set_cons_succ, List.getElem_toArray, List.getElem_cons_zero, List.getElem_cons_succ])
        refine wpAnyH_take (i := 2) (v := ?v2) rfl (by kernel_rfl) (by kernel_rfl) (by kernel_rfl) (fun _ _ _ h => h) (Or.inl ⟨by rfl, ?y2⟩) (by assumption) ?r2
        case y2 => intro w hSw; (try dsimp only at hSw); go_simp; (try with_reducible rfl)
        (try simp only [Act.put, List.setIfInBounds_toArray, List.set_cons_zero, List.set_cons_succ, List.getElem_toArray, List.getElem_cons_zero, List.getElem_cons_succ])
        refine wpAnyH_take (i := 3) (v := ?v3) rfl (by kernel_rfl) (by kernel_rfl) (by kernel_rfl) (fun _ _ _ h => h) (Or.inl ⟨by rfl, ?y3⟩) (by assumption) ?r3
        case y3 => intro w hSw; (try dsimp only at hSw); go_simp; (try with_reducible rfl)
        (try simp only [Act.put, List.setIfInBounds_toArray, List.set_cons_zero, List.set_cons_succ, List.getElem_toArray, List.getElem_cons_zero, List.getElem_cons_succ])
        refine wpAnyH_take (i := 4) (v := ?v4) rfl (by kernel_rfl) (by kernel_rfl) (by kernel_rfl) (fun _ _ _ h => h) (Or.inl ⟨by rfl, ?y4⟩) (by assumption) ?r4
        case y4 => intro w hSw; (try dsimp only at hSw); go_simp; (try with_reducible rfl)
        (try simp only [Act.put, List.setIfInBounds_toArray, List.set_cons_zero, List.set_cons_succ, List.getElem_toArray, List.getElem_cons_zero, List.getElem_cons_succ])
        refine wpAnyH_take (i := 5) (v := ?v5) rfl (by kernel_rfl) (by kernel_rfl) (by kernel_rfl) (fun _ _ _ h => h) (Or.inl ⟨by rfl, ?y5⟩) (by assumption) ?r5
        case y5 => intro w hSw; (try dsimp only at hSw); go_simp; (try with_reducible rfl)
        (try simp only [Act.put, List.setIfInBounds_toArray, List.set_cons_zero, List.set_cons_succ, List.getElem_toArray, List.getElem_cons_zero, List.getElem_cons_succ])
        refine wpAnyH_take (i := 6) (v := ?v6) rfl (by kernel_rfl) (by kernel_rfl) (by kernel_rfl) (fun _ _ _ h => h) (Or.inl ⟨by rfl, ?y6⟩) (by assumption) ?r6
        case y6 => intro w hSw; (try dsimp only at hSw); go_simp; (try with_reducible rfl)
        (try simp only [Act.put, List.setIfInBounds_toArray, List.set_cons_zero, List.set_cons_succ, List.getElem_toArray, List.getElem_cons_zero, List.getElem_cons_succ])
        refine wpAnyH_take (i := 7) (v := ?v7) rfl (by kernel_rfl) (by kernel_rfl) (by kernel_rfl) (fun _ _ _ h => h) (Or.inl ⟨by rfl, ?y7⟩) (by assumption) ?r7
        case y7 => intro w hSw; (try dsimp only at hSw); go_simp; (try with_reducible rfl)
        (try simp only [Act.put, List.setIfInBounds_toArray, List.set_cons_zero, List.set_cons_succ, List.getElem_toArray, List.getElem_cons_zero, List.getElem_cons_succ])
        refine wpAnyH_take (i := 9) (v := ?v8) rfl (by kernel_rfl) (by kernel_rfl) (by kernel_rfl) (fun _ _ _ h => h) (Or.inl ⟨by rfl, ?y8⟩) (by assumption) ?r8
        case y8 => intro w hSw; (try dsimp only at hSw); go_simp; (try with_reducible rfl)
        (try simp only [Act.put, List.setIfInBounds_toArray, List.set_cons_zero, List.set_cons_succ, List.getElem_toArray, List.getElem_cons_zero, List.getElem_cons_succ])
        refine wpAnyH_take (i := 10) (v := ?v9) rfl (by kernel_rfl) (by kernel_rfl) (by kernel_rfl) (fun _ _ _ h => h) (Or.inl ⟨by rfl, ?y9⟩) (by assumption) ?r9
        case y9 => intro w hSw; (try dsimp only at hSw); go_simp; (try with_reducible rfl)
        (try simp only [Act.put, List.setIfInBounds_toArray, List.set_cons_zero, List.set_cons_succ, List.getElem_toArray, List.getElem_cons_zero, List.getElem_cons_succ])
        refine wpAnyH_take (i := 11) (v := ?v10) rfl (by kernel_rfl) (by kernel_rfl) (by kernel_rfl) (fun _ _ _ h => h) (Or.inl ⟨by rfl, ?y10⟩) (by assumption) ?r10
        case y10 => intro w hSw; (try dsimp only at hSw); go_simp; (try with_reducible rfl)
        (try simp only [Act.put, List.setIfInBounds_toArray, List.set_cons_zero, List.set_cons_succ, List.getElem_toArray, List.getElem_cons_zero, List.getElem_cons_succ])
        refine wpAnyH_take (i := 12) (v := ?v11) rfl (by kernel_rfl) (by kernel_rfl) (by kernel_rfl) (fun _ _ _ h => h) (Or.inl ⟨by rfl, ?y11⟩) (by assumption) ?r11
        case y11 => intro w hSw; (try dsimp only at hSw); go_simp; (try with_reducible rfl)
        (try simp only [Act.put, List.setIfInBounds_toArray, List.set_cons_zero, List.set_cons_succ, List.getElem_toArray, List.getElem_cons_zero, List.getElem_cons_succ])
        refine wpAnyH_take (i := 13) (v := ?v12) rfl (by kernel_rfl) (by kernel_rfl) (by kernel_rfl) (fun _ _ _ h => h) (Or.inl ⟨by rfl, ?y12⟩) (by assumption) ?r12
        case y12 => intro w hSw; (try dsimp only at hSw); go_simp; (try with_reducible rfl)
        (try simp only [Act.put, List.setIfInBounds_toArray, List.set_cons_zero, List.set_cons_succ, List.getElem_toArray, List.getElem_cons_zero, List.getElem_cons_succ])
        refine wpAnyH_take (i := 14) (v := ?v13) rfl (by kernel_rfl) (by kernel_rfl) (by kernel_rfl) (fun _ _ _ h => h) (Or.inl ⟨by rfl, ?y13⟩) (by assumption) ?r13
        case y13 => intro w hSw; (try dsimp only at hSw); go_simp; (try with_reducible rfl)
        (try simp only [Act.put, List.setIfInBounds_toArray, List.set_cons_zero, List.set_cons_succ, List.getElem_toArray, List.getElem_cons_zero, List.getElem_cons_succ])
        refine wpAnyH_take (i := 15) (v := ?v14) rfl (by kernel_rfl) (by kernel_rfl) (by kernel_rfl) (fun _ _ _ h => h) (Or.inl ⟨by rfl, ?y14⟩) (by assumption) ?r14
        case y14 => intro w hSw; (try dsimp only at hSw); go_simp; (try with_reducible rfl)
        (try simp only [Act.put, List.setIfInBounds_toArray, List.set_cons_zero, List.set_cons_succ, List.getElem_toArray, List.getElem_cons_zero, List.getElem_cons_succ])
        refine wpAnyH_ready (rs := [1]) (by kernel_rfl) (by simp) ?_
        refine AllReadyH.cons rfl (fun K hK => ?_) AllReadyH.nil
        go_simp
        refine hK.out _ _ ?s15 (fun hHeld => ?k15)
        case s15 => ((try dsimp only); (refine keep3 C0 F0 ?_; first | exact Ext.drew _ | exact Ext.trans (Ext.alloc _ _) (Ext.drew _) | exact hg1 | exact hg2))
        clear hK K
        (try simp only [Act.put, List.setIfInBounds_toArray, List.set_cons_zero, List.set_cons_succ, List.getElem_toArray, List.getElem_cons_zero, List.getElem_cons_succ])
        refine wpAnyH_ready (rs := [8]) (by kernel_rfl) (by simp) ?_
        refine AllReadyH.cons rfl (fun K hK => ?_) AllReadyH.nil
        refine step_append_pairs (by rfl) _ _ (by rfl) wr.heap.size _ u1 [] (R.take ii) (by rfl) (empty_row wr) (by rfl) (HP1.out _ (HR0.out.ext ((Ext.alloc _ _).trans (Ext.drew _))).src) (by rw [List.length_take, List.length_nil]; omega) (by simp) ?_
        intro v1 w1 hown1 hgrow1
        have hg1 : Ext wr w1 := ext_grown ((Ext.alloc _ _).trans (Ext.drew _)) hgrow1 (empty_row wr).own
        refine hK.out _ _ ?s16 (fun hHeld => ?k16)
        case s16 => ((try dsimp only); (refine keep3 C0 F0 ?_; first | exact Ext.drew _ | exact Ext.trans (Ext.alloc _ _) (Ext.drew _) | exact hg1 | exact hg2))
        clear hK K
        (try simp only [Act.put, List.setIfInBounds_toArray, List.set_cons_zero, List.set_cons_succ, List.getElem_toArray, List.getElem_cons_zero, List.getElem_cons_succ])
        refine wpAnyH_ready (rs := [16]) (by kernel_rfl) (by simp) ?_
        refine AllReadyH.cons rfl (fun K hK => ?_) AllReadyH.nil
        refine step_append_pairs (by rfl) _ _ (by rfl) wr.heap.size _ u2 _ (R.drop (ii + 1)) (by rfl) hown1 (by rfl) (HP2.out _ (HR0.out.ext hg1).src) (by simp; omega) hg1.size ?_
        intro v2 w2 hown2 hgrow2
        have hg2 : Ext wr w2 := ext_grown hg1 hgrow2 hown1.own
        refine hK.out _ _ ?s17 (fun hHeld => ?k17)
        case s17 => ((try dsimp only); (refine keep3 C0 F0 ?_; first | exact Ext.drew _ | exact Ext.trans (Ext.alloc _ _) (Ext.drew _) | exact hg1 | exact hg2))
        clear hK K
        (try simp only [Act.put, List.setIfInBounds_toArray, List.set_cons_zero, List.set_cons_succ, List.getElem_toArray, List.getElem_cons_zero, List.getElem_cons_succ])
        refine wpAnyH_take (i := 17) (v := ?v18) rfl (by kernel_rfl) (by kernel_rfl) (by kernel_rfl) (fun _ _ _ h => h) (Or.inl ⟨by rfl, ?y18⟩) (by assumption) ?r18
        case y18 => intro w hSw; (try dsimp only at hSw); go_simp; (try with_reducible rfl)
        (try simp only [Act.put, List.setIfInBounds_toArray, List.set_cons_zero, List.set_cons_succ, List.getElem_toArray, List.getElem_cons_zero, List.getElem_cons_succ])
        refine wpAnyH_take (i := 18) (v := ?v19) rfl (by kernel_rfl) (by kernel_rfl) (by kernel_rfl) (fun _ _ _ h => h) (Or.inl ⟨by rfl, ?y19⟩) (by assumption) ?r19
        case y19 => intro w hSw; (try dsimp only at hSw); go_simp; (try with_reducible rfl)
        (try simp only [Act.put, List.setIfInBounds_toArray, List.set_cons_zero, List.set_cons_succ, List.getElem_toArray, List.getElem_cons_zero, List.getElem_cons_succ])
        refine wpAnyH_done (by kernel_rfl) ?_ _
        show wpList _ _ _ _ _ _
        have hc2 := hg2.cell C0
        have hf2 := (hg2.frozen C0).trans F0
        have HR2 := Lib.hid (show PairRow w2 wr.heap.size v2 (dropK R k) by rw [← HD.out]; exact hown2)
        have HG2 := Lib.hid hg2
        obtain ⟨q2, n2, c2, hv2⟩ : ∃ q n c, v2 = .slice q n c := by obtain ⟨q2, c2, h, _⟩ := hown2.nilOr; exact ⟨q2, _, c2, h⟩
        subst hv2
        clear hown2 hown1 hg1 hg2 hgrow1 hgrow2
        have HF := Lib.hid (HR0.out.fresh HG2.out HR2.out)
        go_wp2
        refine NoPanic.normal ?_
        go_wp2
        go_ret
        exact ⟨by rw [HFR.out]; rfl, _, HF.out.1, (Turn.of_ext HX.out).trans HF.out.2.1, fun b hb => (HF.out.2.2 b hb).imp id fun h => Nat.le_trans HX.out.size h⟩
      · have HN := Lib.hid (take_ne HNO.out hil he)
        generalize R[ii].1 = y at *
        go_wp2_with fail
        exact ⟨⟨ii + 1, by omega, by go_num, HN.out, HX.out⟩, by simp [intOf]; omega⟩
    · obtain rfl : ii = R.length := by omega
      have hfr : fresh R k = true := by rw [fresh_iff]; have := HNO.out; rwa [List.take_length] at this
      have HFR := Lib.hid hfr
      have HRx := Lib.hid (H.out.ext HX.out)
      clear hfr
      go_wp2_with fail
      go_ret
      exact ⟨by rw [HFR.out]; rfl, _, by rw [dropK_fresh HFR.out]; exact HRx.out, RStep.of_ext HX.out⟩
end Go.Proofs.Ytgapjglijpdkmaa
