/- The reference's queue: Push. -/
import Derived.Test.YtgapjglijpdkmaaOrdS
namespace Go.Proofs.Ytgapjglijpdkmaa
open Go.RowKit Go.Maps Heap Go.Sort Go.Shelf
set_option maxHeartbeats 8000000
set_option maxRecDepth 100000
theorem refpush_no {w : World} {rb : Nat} {v : Value} {R : List Ent} (h : RQ w rb v R) (hl : R.length ≤ 900) (k r : Int) (hf : fresh R k = false) :
    Calls Try.prog 9 #[.pointer (some ⟨rb, 0, none⟩), .int .i64 k, .int .i64 r] w fun e w' => e = .returned (.bool false) ∧ Ext w w' := by
  obtain ⟨c0, f0⟩ := h.cell
  obtain ⟨q, c, hv, hc1, hc2, hcell⟩ := h.src.1
  have HC := Lib.hid hcell
  have HF := Lib.hid hf
  have hlt := h.lt
  unfold maxLen at hc2
  clear h hcell hf
  subst hv
  go_enter Try.func9, Try.ntmps9
  go_wp2_with fail
  go_loopw [7] (fun i wr => ∃ ii : Nat, ii ≤ R.length ∧ i = .int .i64 ii ∧ (∀ e ∈ R.take ii, e.1 ≠ k) ∧ Ext w wr) (fun i _ => R.length - (intOf i).toNat)
  case atStart => exact ⟨0, by omega, rfl, by simp, Ext.refl _⟩
  case round =>
    obtain ⟨ii, hii, rfl, hno, hx⟩ := hrel
    have C0 := hx.cell c0
    have HX := Lib.hid hx
    have HNO := Lib.hid hno
    clear hx hno
    by_cases hil : ii < R.length
    · obtain ⟨b, off, rfl, p0, p1⟩ := HC.out ii _ (List.getElem?_eq_getElem hil)
      have P0 := HX.out.cell p0
      have i1 : (ii : Int) < (R.length : Int) := by omega
      clear p0 p1
      by_cases he : R[ii].1 = k
      · rw [he] at P0
        clear he
        go_wp2_with fail
        go_ret
        exact ⟨rfl, HX.out⟩
      · have HN := Lib.hid (take_ne HNO.out hil he)
        generalize R[ii].1 = y at *
        go_wp2_with fail
        exact ⟨⟨ii + 1, by omega, by go_num, HN.out, HX.out⟩, by simp [intOf]; omega⟩
    · obtain rfl : ii = R.length := by omega
      have h2 := HNO.out
      rw [List.take_length] at h2
      have h3 := fresh_iff.2 h2
      rw [HF.out] at h3
      cases h3
theorem refpush_yes {w : World} {rb : Nat} {v : Value} {R : List Ent} (h : RQ w rb v R) (hl : R.length ≤ 900) (hs : R.Pairwise fun a b => ¬ lt b a) (k r : Int) (hf : fresh R k = true) :
    Calls Try.prog 9 #[.pointer (some ⟨rb, 0, none⟩), .int .i64 k, .int .i64 r] w fun e w' => e = .returned (.bool true) ∧ ∃ v', RQ w' rb v' (put1 R (k, r)) ∧ RStep w w' rb v v' := by
  obtain ⟨c0, f0⟩ := h.cell
  obtain ⟨q, c, hv, hc1, hc2, hcell⟩ := h.src.1
  have HC := Lib.hid hcell
  have HF := Lib.hid hf
  have H := Lib.hid h
  have HS := Lib.hid hs
  have hlt := h.lt
  unfold maxLen at hc2
  clear h hcell hf hs
  subst hv
  go_enter Try.func9, Try.ntmps9
  go_wp2_with fail
  go_loopw [7] (fun i wr => ∃ ii : Nat, ii ≤ R.length ∧ i = .int .i64 ii ∧ Ext w wr) (fun i _ => R.length - (intOf i).toNat)
  case atStart => exact ⟨0, by omega, rfl, Ext.refl _⟩
  case round =>
    obtain ⟨ii, hii, rfl, hx⟩ := hrel
    have C0 := hx.cell c0
    have HX := Lib.hid hx
    clear hx
    by_cases hil : ii < R.length
    · obtain ⟨b, off, rfl, p0, p1⟩ := HC.out ii _ (List.getElem?_eq_getElem hil)
      have P0 := HX.out.cell p0
      have i1 : (ii : Int) < (R.length : Int) := by omega
      have he : ¬ R[ii].1 = k := fresh_iff.1 HF.out _ (List.getElem_mem hil)
      clear p0 p1
      generalize R[ii].1 = y at *
      go_wp2_with fail
      exact ⟨⟨ii + 1, by omega, by go_num, HX.out⟩, by simp [intOf]; omega⟩
    · obtain rfl : ii = R.length := by omega
      go_upto_block 2 with fail
      have HX1 := Lib.hid HX.out
      clear HX
      go_cut [8] from 28 to 73 (fun i wx => ∃ jj : Nat, jj ≤ R.length ∧ i = .int .i64 jj ∧ (∀ e ∈ R.take jj, lt e (k, r)) ∧ (∀ hj : jj < R.length, ¬ lt R[jj] (k, r)) ∧ Ext w wx)
      case first =>
        go_wp2_with fail
        go_loopw [8] (fun i wx => ∃ jj : Nat, jj ≤ R.length ∧ i = .int .i64 jj ∧ (∀ e ∈ R.take jj, lt e (k, r)) ∧ Ext w wx) (fun i _ => R.length - (intOf i).toNat)
        case atStart => exact ⟨0, by omega, rfl, by simp, HX1.out⟩
        case round =>
          obtain ⟨jj, hjj, rfl, hbe, hx2⟩ := hrel
          have C1 := hx2.cell c0
          have HX2 := Lib.hid hx2
          have HBE := Lib.hid hbe
          clear hx2 hbe C0
          by_cases hjl : jj < R.length
          · obtain ⟨b, off, rfl, p0, p1⟩ := HC.out jj _ (List.getElem?_eq_getElem hjl)
            have P0 := HX2.out.cell p0
            have P1 := HX2.out.cell p1
            have i1 : (jj : Int) < (R.length : Int) := by omega
            have HNX := Lib.hid (show lt R[jj] (k, r) → ∀ e ∈ R.take (jj + 1), lt e (k, r) from fun h e he => by
              rw [List.take_succ_eq_append_getElem hjl, List.mem_append, List.mem_singleton] at he
              rcases he with he | rfl
              · exact HBE.out e he
              · exact h)
            have HEND := Lib.hid (show ¬ lt R[jj] (k, r) → ∀ hj : jj < R.length, ¬ lt R[jj] (k, r) from fun h _ => h)
            clear p0 p1
            generalize R[jj] = y at HNX HEND P0 P1
            obtain ⟨ya, yb⟩ := y
            dsimp only at P0 P1
            by_cases h1 : yb < r
            · go_wp2_with fail
              exact ⟨⟨jj + 1, by omega, by go_num, HNX.out (.inl h1), HX2.out⟩, by simp [intOf]; omega⟩
            · by_cases h2 : yb = r
              · subst h2
                by_cases h3 : ya < k
                · go_wp2_with fail
                  exact ⟨⟨jj + 1, by omega, by go_num, HNX.out (.inr ⟨rfl, h3⟩), HX2.out⟩, by simp [intOf]; omega⟩
                · go_wp2_with fail
                  go_meet
                  exact ⟨jj, hjj, rfl, HBE.out, HEND.out (by unfold lt; dsimp only; omega), HX2.out⟩
              · go_wp2_with fail
                go_meet
                exact ⟨jj, hjj, rfl, HBE.out, HEND.out (by unfold lt; dsimp only; omega), HX2.out⟩
          · obtain rfl : jj = R.length := by omega
            go_wp2_with fail
            go_meet
            exact ⟨R.length, by omega, rfl, HBE.out, fun hj => by omega, HX2.out⟩
      case rest =>
        obtain ⟨jj, hjj, rfl, hbe, hge, hx⟩ := hcut
        have HIN := Lib.hid (put_at HS.out (x := (k, r)) HF.out hbe hge)
        have C1 := hx.cell c0
        have F1 := (hx.frozen c0).trans f0
        have HRC := Lib.hid (H.out.ext hx)
        have HX := Lib.hid hx
        clear hbe hge hx C0
        obtain ⟨u1, hs1, hp1⟩ := head_srcP (k := jj) HRC.out.src hjj
        obtain ⟨u2, hs2, hp2, _⟩ := tail_srcP (k := jj) HRC.out.src hjj
        have HP1 := Lib.hid hp1; have HP2 := Lib.hid hp2
        clear hp1 hp2
        go_upto_region 9 with fail
        refine wp_region_noPanic ?_
        refine wp_region_last 23 (S := (fun w' => w'.cell? ⟨rb, 0, none⟩ = some (.slice q R.length c) ∧ w'.frozen? ⟨rb, 0, none⟩ = false ∧ Ext wc w')) (by kernel_rfl) (by kernel_rfl) _ rfl ?_ (fun hHeld => ?_)
        · (refine keep3 C1 F1 ?_; first | exact Ext.drew _ | exact e1 | exact e1b | exact e2 | exact e3 | exact e4 | exact e5)
        simp only [List.take_succ_cons, List.take_zero]
        refine wpAnyH_take (i := 0) (v := ?v1) rfl (by kernel_rfl) (by kernel_rfl) (by kernel_rfl) (fun _ _ _ h => h) (Or.inl ⟨by rfl, ?y1⟩) (by assumption) ?r1
        case y1 => intro w hSw; (try dsimp only at hSw); go_simp; (try with_reducible rfl)
        (try simp only [Act.put, List.setIfInBounds_toArray, List.set_cons_zero, List.set_cons_succ, List.getElem_toArray, List.getElem_cons_zero, List.getElem_cons_succ])
        refine wpAnyH_take (i := 2) (v := ?v2) rfl (by kernel_rfl) (by kernel_rfl) (by kernel_rfl) (fun _ _ _ h => h) (Or.inl ⟨by rfl, ?y2⟩) (by assumption) ?r2
        case y2 => intro w hSw; (try dsimp only at hSw); go_simp; (try with_reducible rfl)
        (try simp only [Act.put, List.setIfInBounds_toArray, List.set_cons_zero, List.set_cons_succ, List.getElem_toArray, List.getElem_cons_zero, List.getElem_cons_succ])
        refine wpAnyH_take (i := 3) (v := ?v3) rfl (by kernel_rfl) (by kernel_rfl) (by kernel_rfl) (fun _ _ _ h => h) (Or.inl ⟨by rfl, ?y3⟩) (by assumption) ?r3
        case y3 => intro w hSw; (try dsimp only at hSw); go_simp; (try with_reducible rfl)
        (try simp only [Act.put, List.setIfInBounds_toArray, List.set_cons_zero, List.set_cons_succ, List.getElem_toArray, List.getElem_cons_zero, List.getElem_cons_succ])
        refine wpAnyH_take (i := 4) (v := ?v4) rfl (by kernel_rfl) (by kernel_rfl) (by kernel_rfl) (fun _ _ _ h => h) (Or.inl ⟨by rfl, ?y4⟩) (by assumption) ?r4
        case y4 => intro w hSw; (try dsimp only at hSw); go_simp; (try with_reducible rfl)
        (try simp only [Act.put, List.setIfInBounds_toArray, List.set_cons_zero, List.set_cons_succ, List.getElem_toArray, List.getElem_cons_zero, List.getElem_cons_succ])
        refine wpAnyH_take (i := 5) (v := ?v5) rfl (by kernel_rfl) (by kernel_rfl) (by kernel_rfl) (fun _ _ _ h => h) (Or.inl ⟨by rfl, ?y5⟩) (by assumption) ?r5
        case y5 => intro w hSw; (try dsimp only at hSw); go_simp; (try with_reducible rfl)
        (try simp only [Act.put, List.setIfInBounds_toArray, List.set_cons_zero, List.set_cons_succ, List.getElem_toArray, List.getElem_cons_zero, List.getElem_cons_succ])
        refine wpAnyH_take (i := 6) (v := ?v6) rfl (by kernel_rfl) (by kernel_rfl) (by kernel_rfl) (fun _ _ _ h => h) (Or.inl ⟨by rfl, ?y6⟩) (by assumption) ?r6
        case y6 => intro w hSw; (try dsimp only at hSw); go_simp; (try with_reducible rfl)
        (try simp only [Act.put, List.setIfInBounds_toArray, List.set_cons_zero, List.set_cons_succ, List.getElem_toArray, List.getElem_cons_zero, List.getElem_cons_succ])
        refine wpAnyH_take (i := 7) (v := ?v7) rfl (by kernel_rfl) (by kernel_rfl) (by kernel_rfl) (fun _ _ _ h => h) (Or.inl ⟨by rfl, ?y7⟩) (by assumption) ?r7
        case y7 => intro w hSw; (try dsimp only at hSw); go_simp; (try with_reducible rfl)
        (try simp only [Act.put, List.setIfInBounds_toArray, List.set_cons_zero, List.set_cons_succ, List.getElem_toArray, List.getElem_cons_zero, List.getElem_cons_succ])
        refine wpAnyH_take (i := 9) (v := ?v8) rfl (by kernel_rfl) (by kernel_rfl) (by kernel_rfl) (fun _ _ _ h => h) (Or.inl ⟨by rfl, ?y8⟩) (by assumption) ?r8
        case y8 => intro w hSw; (try dsimp only at hSw); go_simp; (try with_reducible rfl)
        (try simp only [Act.put, List.setIfInBounds_toArray, List.set_cons_zero, List.set_cons_succ, List.getElem_toArray, List.getElem_cons_zero, List.getElem_cons_succ])
        refine wpAnyH_take (i := 10) (v := ?v9) rfl (by kernel_rfl) (by kernel_rfl) (by kernel_rfl) (fun _ _ _ h => h) (Or.inl ⟨by rfl, ?y9⟩) (by assumption) ?r9
        case y9 => intro w hSw; (try dsimp only at hSw); go_simp; (try with_reducible rfl)
        (try simp only [Act.put, List.setIfInBounds_toArray, List.set_cons_zero, List.set_cons_succ, List.getElem_toArray, List.getElem_cons_zero, List.getElem_cons_succ])
        refine wpAnyH_take (i := 11) (v := ?v10) rfl (by kernel_rfl) (by kernel_rfl) (by kernel_rfl) (fun _ _ _ h => h) (Or.inl ⟨by rfl, ?y10⟩) (by assumption) ?r10
        case y10 => intro w hSw; (try dsimp only at hSw); go_simp; (try with_reducible rfl)
        (try simp only [Act.put, List.setIfInBounds_toArray, List.set_cons_zero, List.set_cons_succ, List.getElem_toArray, List.getElem_cons_zero, List.getElem_cons_succ])
        refine wpAnyH_take (i := 14) (v := ?v11) rfl (by kernel_rfl) (by kernel_rfl) (by kernel_rfl) (fun _ _ _ h => h) (Or.inl ⟨by rfl, ?y11⟩) (by assumption) ?r11
        case y11 => intro w hSw; (try dsimp only at hSw); go_simp; (try with_reducible rfl)
        (try simp only [Act.put, List.setIfInBounds_toArray, List.set_cons_zero, List.set_cons_succ, List.getElem_toArray, List.getElem_cons_zero, List.getElem_cons_succ])
        refine wpAnyH_take (i := 15) (v := ?v12) rfl (by kernel_rfl) (by kernel_rfl) (by kernel_rfl) (fun _ _ _ h => h) (Or.inl ⟨by rfl, ?y12⟩) (by assumption) ?r12
        case y12 => intro w hSw; (try dsimp only at hSw); go_simp; (try with_reducible rfl)
        (try simp only [Act.put, List.setIfInBounds_toArray, List.set_cons_zero, List.set_cons_succ, List.getElem_toArray, List.getElem_cons_zero, List.getElem_cons_succ])
        refine wpAnyH_take (i := 16) (v := ?v13) rfl (by kernel_rfl) (by kernel_rfl) (by kernel_rfl) (fun _ _ _ h => h) (Or.inl ⟨by rfl, ?y13⟩) (by assumption) ?r13
        case y13 => intro w hSw; (try dsimp only at hSw); go_simp; (try with_reducible rfl)
        (try simp only [Act.put, List.setIfInBounds_toArray, List.set_cons_zero, List.set_cons_succ, List.getElem_toArray, List.getElem_cons_zero, List.getElem_cons_succ])
        refine wpAnyH_take (i := 17) (v := ?v14) rfl (by kernel_rfl) (by kernel_rfl) (by kernel_rfl) (fun _ _ _ h => h) (Or.inl ⟨by rfl, ?y14⟩) (by assumption) ?r14
        case y14 => intro w hSw; (try dsimp only at hSw); go_simp; (try with_reducible rfl)
        (try simp only [Act.put, List.setIfInBounds_toArray, List.set_cons_zero, List.set_cons_succ, List.getElem_toArray, List.getElem_cons_zero, List.getElem_cons_succ])
        refine wpAnyH_take (i := 18) (v := ?v15) rfl (by kernel_rfl) (by kernel_rfl) (by kernel_rfl) (fun _ _ _ h => h) (Or.inl ⟨by rfl, ?y15⟩) (by assumption) ?r15
        case y15 => intro w hSw; (try dsimp only at hSw); go_simp; (try with_reducible rfl)
        (try simp only [Act.put, List.setIfInBounds_toArray, List.set_cons_zero, List.set_cons_succ, List.getElem_toArray, List.getElem_cons_zero, List.getElem_cons_succ])
        refine wpAnyH_take (i := 19) (v := ?v16) rfl (by kernel_rfl) (by kernel_rfl) (by kernel_rfl) (fun _ _ _ h => h) (Or.inl ⟨by rfl, ?y16⟩) (by assumption) ?r16
        case y16 => intro w hSw; (try dsimp only at hSw); go_simp; (try with_reducible rfl)
        (try simp only [Act.put, List.setIfInBounds_toArray, List.set_cons_zero, List.set_cons_succ, List.getElem_toArray, List.getElem_cons_zero, List.getElem_cons_succ])
        refine wpAnyH_ready (rs := [1, 12]) (by kernel_rfl) (by simp) ?_
        refine AllReadyH.cons rfl (fun K hK => ?_) (AllReadyH.cons rfl (fun K hK => ?_) (AllReadyH.nil))
        · skip
          have e1 : Ext wc (wc.alloc (.cells #[] 35)).drew := Ext.trans (Ext.alloc _ _) (Ext.drew _)
          go_simp
          refine hK.out _ _ ?s17 (fun hHeld => ?k17)
          case s17 => ((try dsimp only); (refine keep3 C1 F1 ?_; first | exact Ext.drew _ | exact e1 | exact e1b | exact e2 | exact e3 | exact e4 | exact e5))
          clear hK K
          (try simp only [Act.put, List.setIfInBounds_toArray, List.set_cons_zero, List.set_cons_succ, List.getElem_toArray, List.getElem_cons_zero, List.getElem_cons_succ])
          refine wpAnyH_ready (rs := [8, 12]) (by kernel_rfl) (by simp) ?_
          refine AllReadyH.cons rfl (fun K hK => ?_) (AllReadyH.cons rfl (fun K hK => ?_) (AllReadyH.nil))
          · skip
            refine step_append_pairs (by rfl) _ _ (by rfl) wc.heap.size _ u1 [] (R.take jj) (by rfl) (empty_at (heap_alloc_new wc _) (Nat.le_refl _)) (by rfl) (HP1.out _ (HRC.out.ext e1).src) (by rw [List.length_take, List.length_nil]; omega) e1.size ?_
            intro v1 w1 hown1 hgrow1
            have e2 : Ext wc w1 := ext_grown e1 hgrow1 (by intro b hb; simp [Value.ownBlock] at hb; omega)
            refine hK.out _ _ ?s18 (fun hHeld => ?k18)
            case s18 => ((try dsimp only); (refine keep3 C1 F1 ?_; first | exact Ext.drew _ | exact e1 | exact e1b | exact e2 | exact e3 | exact e4 | exact e5))
            clear hK K
            (try simp only [Act.put, List.setIfInBounds_toArray, List.set_cons_zero, List.set_cons_succ, List.getElem_toArray, List.getElem_cons_zero, List.getElem_cons_succ])
            refine wpAnyH_ready (rs := [12]) (by kernel_rfl) (by simp) ?_
            refine AllReadyH.cons rfl (fun K hK => ?_) AllReadyH.nil
            have e3 : Ext wc (w1.alloc (.cells #[.int .i64 k, .int .i64 r] 35)) := Ext.trans e2 (Ext.alloc _ _)
            go_simp
            refine hK.out _ _ ?s19 (fun hHeld => ?k19)
            case s19 => ((try dsimp only); (refine keep3 C1 F1 ?_; first | exact Ext.drew _ | exact e1 | exact e1b | exact e2 | exact e3 | exact e4 | exact e5))
            clear hK K
            (try simp only [Act.put, List.setIfInBounds_toArray, List.set_cons_zero, List.set_cons_succ, List.getElem_toArray, List.getElem_cons_zero, List.getElem_cons_succ])
            refine wpAnyH_ready (rs := [13]) (by kernel_rfl) (by simp) ?_
            refine AllReadyH.cons rfl (fun K hK => ?_) AllReadyH.nil
            refine step_append_pairs (by rfl) _ _ (by rfl) wc.heap.size _ _ _ [(k, r)] (by rfl) (PairRow.alloc hown1 _) (by rfl) (pair_at (heap_alloc_new w1 _)) (by simp; omega) e3.size ?_
            intro v2 w2 hown2 hgrow2
            have e4 : Ext wc w2 := ext_grown e3 hgrow2 hown1.own
            refine hK.out _ _ ?s20 (fun hHeld => ?k20)
            case s20 => ((try dsimp only); (refine keep3 C1 F1 ?_; first | exact Ext.drew _ | exact e1 | exact e1b | exact e2 | exact e3 | exact e4 | exact e5))
            clear hK K
            (try simp only [Act.put, List.setIfInBounds_toArray, List.set_cons_zero, List.set_cons_succ, List.getElem_toArray, List.getElem_cons_zero, List.getElem_cons_succ])
            refine wpAnyH_ready (rs := [20]) (by kernel_rfl) (by simp) ?_
            refine AllReadyH.cons rfl (fun K hK => ?_) AllReadyH.nil
            refine step_append_pairs (by rfl) _ _ (by rfl) wc.heap.size _ u2 _ (R.drop jj) (by rfl) hown2 (by rfl) (HP2.out _ (HRC.out.ext e4).src) (by simp; omega) e4.size ?_
            intro v3 w3 hown3 hgrow3
            have e5 : Ext wc w3 := ext_grown e4 hgrow3 hown2.own
            refine hK.out _ _ ?s21 (fun hHeld => ?k21)
            case s21 => ((try dsimp only); (refine keep3 C1 F1 ?_; first | exact Ext.drew _ | exact e1 | exact e1b | exact e2 | exact e3 | exact e4 | exact e5))
            clear hK K
            (try simp only [Act.put, List.setIfInBounds_toArray, List.set_cons_zero, List.set_cons_succ, List.getElem_toArray, List.getElem_cons_zero, List.getElem_cons_succ])
            refine wpAnyH_take (i := 21) (v := ?v22) rfl (by kernel_rfl) (by kernel_rfl) (by kernel_rfl) (fun _ _ _ h => h) (Or.inl ⟨by rfl, ?y22⟩) (by assumption) ?r22
            case y22 => intro w hSw; (try dsimp only at hSw); go_simp; (try with_reducible rfl)
            (try simp only [Act.put, List.setIfInBounds_toArray, List.set_cons_zero, List.set_cons_succ, List.getElem_toArray, List.getElem_cons_zero, List.getElem_cons_succ])
            refine wpAnyH_take (i := 22) (v := ?v23) rfl (by kernel_rfl) (by kernel_rfl) (by kernel_rfl) (fun _ _ _ h => h) (Or.inl ⟨by rfl, ?y23⟩) (by assumption) ?r23
            case y23 => intro w hSw; (try dsimp only at hSw); go_simp; (try with_reducible rfl)
            (try simp only [Act.put, List.setIfInBounds_toArray, List.set_cons_zero, List.set_cons_succ, List.getElem_toArray, List.getElem_cons_zero, List.getElem_cons_succ])
            refine wpAnyH_done (by kernel_rfl) ?_ _
            show wpList _ _ _ _ _ _
            have hc3 := e5.cell C1
            have hf3 := (e5.frozen C1).trans F1
            have HR3 := Lib.hid (show PairRow w3 wc.heap.size v3 (put1 R (k, r)) by rw [← HIN.out]; simpa using hown3)
            have HE5 := Lib.hid e5
            obtain ⟨q3, n3, c3, hv3⟩ : ∃ q n c, v3 = .slice q n c := by obtain ⟨q3, c3, h, _⟩ := hown3.nilOr; exact ⟨q3, _, c3, h⟩
            subst hv3
            clear hown3
            have HFN := Lib.hid (HRC.out.fresh HE5.out HR3.out)
            go_wp2
            refine NoPanic.normal ?_
            go_wp2
            go_ret
            exact ⟨rfl, _, HFN.out.1, (Turn.of_ext HX.out).trans HFN.out.2.1, fun b hb => (HFN.out.2.2 b hb).imp id fun h => Nat.le_trans HX.out.size h⟩
          · skip
            have e1b : Ext wc ((wc.alloc (.cells #[] 35)).alloc (.cells #[.int .i64 k, .int .i64 r] 35)).drew := Ext.trans (Ext.trans (Ext.alloc _ _) (Ext.alloc _ _)) (Ext.drew _)
            go_simp
            refine hK.out _ _ ?s24 (fun hHeld => ?k24)
            case s24 => ((try dsimp only); (refine keep3 C1 F1 ?_; first | exact Ext.drew _ | exact e1 | exact e1b | exact e2 | exact e3 | exact e4 | exact e5))
            clear hK K
            (try simp only [Act.put, List.setIfInBounds_toArray, List.set_cons_zero, List.set_cons_succ, List.getElem_toArray, List.getElem_cons_zero, List.getElem_cons_succ])
            refine wpAnyH_ready (rs := [8]) (by kernel_rfl) (by simp) ?_
            refine AllReadyH.cons rfl (fun K hK => ?_) AllReadyH.nil
            refine step_append_pairs (by rfl) _ _ (by rfl) wc.heap.size _ u1 [] (R.take jj) (by rfl) (PairRow.alloc (w := wc.alloc (.cells #[] 35)) (empty_at (heap_alloc_new wc _) (Nat.le_refl _)) _) (by rfl) (HP1.out _ (HRC.out.ext e1b).src) (by rw [List.length_take, List.length_nil]; omega) e1b.size ?_
            intro v1 w1 hown1 hgrow1
            have e2 : Ext wc w1 := ext_grown e1b hgrow1 (by intro b hb; simp [Value.ownBlock] at hb; omega)
            have hpb : w1.heap[wc.heap.size + 1]? = some (.cells #[.int .i64 k, .int .i64 r] 35) := by
              rw [hgrow1.block (wc.heap.size + 1) (by simp) (by simp [Value.ownBlock])]
              have h3 := heap_alloc_new (wc.alloc (.cells #[] 35)) (.cells #[.int .i64 k, .int .i64 r] 35)
              rw [show (wc.alloc (.cells #[] 35)).heap.size = wc.heap.size + 1 by simp] at h3
              exact h3
            refine hK.out _ _ ?s25 (fun hHeld => ?k25)
            case s25 => ((try dsimp only); (refine keep3 C1 F1 ?_; first | exact Ext.drew _ | exact e1 | exact e1b | exact e2 | exact e3 | exact e4 | exact e5))
            clear hK K
            (try simp only [Act.put, List.setIfInBounds_toArray, List.set_cons_zero, List.set_cons_succ, List.getElem_toArray, List.getElem_cons_zero, List.getElem_cons_succ])
            refine wpAnyH_ready (rs := [13]) (by kernel_rfl) (by simp) ?_
            refine AllReadyH.cons rfl (fun K hK => ?_) AllReadyH.nil
            refine step_append_pairs (by rfl) _ _ (by rfl) wc.heap.size _ _ _ [(k, r)] (by rfl) hown1 (by rfl) (pair_at hpb) (by simp; omega) e2.size ?_
            intro v2 w2 hown2 hgrow2
            have e4 : Ext wc w2 := ext_grown e2 hgrow2 hown1.own
            refine hK.out _ _ ?s26 (fun hHeld => ?k26)
            case s26 => ((try dsimp only); (refine keep3 C1 F1 ?_; first | exact Ext.drew _ | exact e1 | exact e1b | exact e2 | exact e3 | exact e4 | exact e5))
            clear hK K
            (try simp only [Act.put, List.setIfInBounds_toArray, List.set_cons_zero, List.set_cons_succ, List.getElem_toArray, List.getElem_cons_zero, List.getElem_cons_succ])
            refine wpAnyH_ready (rs := [20]) (by kernel_rfl) (by simp) ?_
            refine AllReadyH.cons rfl (fun K hK => ?_) AllReadyH.nil
            refine step_append_pairs (by rfl) _ _ (by rfl) wc.heap.size _ u2 _ (R.drop jj) (by rfl) hown2 (by rfl) (HP2.out _ (HRC.out.ext e4).src) (by simp; omega) e4.size ?_
            intro v3 w3 hown3 hgrow3
            have e5 : Ext wc w3 := ext_grown e4 hgrow3 hown2.own
            refine hK.out _ _ ?s27 (fun hHeld => ?k27)
            case s27 => ((try dsimp only); (refine keep3 C1 F1 ?_; first | exact Ext.drew _ | exact e1 | exact e1b | exact e2 | exact e3 | exact e4 | exact e5))
            clear hK K
            (try simp only [Act.put, List.setIfInBounds_toArray, List.set_cons_zero, List.set_cons_succ, List.getElem_toArray, List.getElem_cons_zero, List.getElem_cons_succ])
            refine wpAnyH_take (i := 21) (v := ?v28) rfl (by kernel_rfl) (by kernel_rfl) (by kernel_rfl) (fun _ _ _ h => h) (Or.inl ⟨by rfl, ?y28⟩) (by assumption) ?r28
            case y28 => intro w hSw; (try dsimp only at hSw); go_simp; (try with_reducible rfl)
            (try simp only [Act.put, List.setIfInBounds_toArray, List.set_cons_zero, List.set_cons_succ, List.getElem_toArray, List.getElem_cons_zero, List.getElem_cons_succ])
            refine wpAnyH_take (i := 22) (v := ?v29) rfl (by kernel_rfl) (by kernel_rfl) (by kernel_rfl) (fun _ _ _ h => h) (Or.inl ⟨by rfl, ?y29⟩) (by assumption) ?r29
            case y29 => intro w hSw; (try dsimp only at hSw); go_simp; (try with_reducible rfl)
            (try simp only [Act.put, List.setIfInBounds_toArray, List.set_cons_zero, List.set_cons_succ, List.getElem_toArray, List.getElem_cons_zero, List.getElem_cons_succ])
            refine wpAnyH_done (by kernel_rfl) ?_ _
            show wpList _ _ _ _ _ _
            have hc3 := e5.cell C1
            have hf3 := (e5.frozen C1).trans F1
            have HR3 := Lib.hid (show PairRow w3 wc.heap.size v3 (put1 R (k, r)) by rw [← HIN.out]; simpa using hown3)
            have HE5 := Lib.hid e5
            obtain ⟨q3, n3, c3, hv3⟩ : ∃ q n c, v3 = .slice q n c := by obtain ⟨q3, c3, h, _⟩ := hown3.nilOr; exact ⟨q3, _, c3, h⟩
            subst hv3
            clear hown3
            have HFN := Lib.hid (HRC.out.fresh HE5.out HR3.out)
            go_wp2
            refine NoPanic.normal ?_
            go_wp2
            go_ret
            exact ⟨rfl, _, HFN.out.1, (Turn.of_ext HX.out).trans HFN.out.2.1, fun b hb => (HFN.out.2.2 b hb).imp id fun h => Nat.le_trans HX.out.size h⟩
        · skip
          have e1 : Ext wc (wc.alloc (.cells #[.int .i64 k, .int .i64 r] 35)).drew := Ext.trans (Ext.alloc _ _) (Ext.drew _)
          go_simp
          refine hK.out _ _ ?s30 (fun hHeld => ?k30)
          case s30 => ((try dsimp only); (refine keep3 C1 F1 ?_; first | exact Ext.drew _ | exact e1 | exact e1b | exact e2 | exact e3 | exact e4 | exact e5))
          clear hK K
          (try simp only [Act.put, List.setIfInBounds_toArray, List.set_cons_zero, List.set_cons_succ, List.getElem_toArray, List.getElem_cons_zero, List.getElem_cons_succ])
          refine wpAnyH_ready (rs := [1]) (by kernel_rfl) (by simp) ?_
          refine AllReadyH.cons rfl (fun K hK => ?_) AllReadyH.nil
          have e1b : Ext wc ((wc.alloc (.cells #[.int .i64 k, .int .i64 r] 35)).alloc (.cells #[] 35)).drew := Ext.trans (Ext.trans (Ext.alloc _ _) (Ext.alloc _ _)) (Ext.drew _)
          go_simp
          refine hK.out _ _ ?s31 (fun hHeld => ?k31)
          case s31 => ((try dsimp only); (refine keep3 C1 F1 ?_; first | exact Ext.drew _ | exact e1 | exact e1b | exact e2 | exact e3 | exact e4 | exact e5))
          clear hK K
          (try simp only [Act.put, List.setIfInBounds_toArray, List.set_cons_zero, List.set_cons_succ, List.getElem_toArray, List.getElem_cons_zero, List.getElem_cons_succ])
          refine wpAnyH_ready (rs := [8]) (by kernel_rfl) (by simp) ?_
          refine AllReadyH.cons rfl (fun K hK => ?_) AllReadyH.nil
          have hnew : (wc.alloc (.cells #[.int .i64 k, .int .i64 r] 35)).heap.size = wc.heap.size + 1 := by simp
          refine step_append_pairs (by rfl) _ _ (by rfl) wc.heap.size _ u1 [] (R.take jj) (by rfl) (empty_at (b := wc.heap.size + 1) (by have := heap_alloc_new (wc.alloc (.cells #[.int .i64 k, .int .i64 r] 35)) (.cells #[] 35); rw [hnew] at this; exact this) (by omega)) (by rfl) (HP1.out _ (HRC.out.ext e1b).src) (by rw [List.length_take, List.length_nil]; omega) e1b.size ?_
          intro v1 w1 hown1 hgrow1
          have e2 : Ext wc w1 := ext_grown e1b hgrow1 (by intro b hb; simp [Value.ownBlock] at hb; omega)
          have hpb : w1.heap[wc.heap.size]? = some (.cells #[.int .i64 k, .int .i64 r] 35) := by
            rw [hgrow1.block wc.heap.size (by simp; omega) (by simp [Value.ownBlock])]
            have h2 := Below.block (Below.alloc (B := wc.heap.size + 1) (Below.refl _ (wc.alloc (.cells #[.int .i64 k, .int .i64 r] 35))) (by simp) (.cells #[] 35)) wc.heap.size (by omega)
            exact h2.trans (heap_alloc_new wc _)
          refine hK.out _ _ ?s32 (fun hHeld => ?k32)
          case s32 => ((try dsimp only); (refine keep3 C1 F1 ?_; first | exact Ext.drew _ | exact e1 | exact e1b | exact e2 | exact e3 | exact e4 | exact e5))
          clear hK K
          (try simp only [Act.put, List.setIfInBounds_toArray, List.set_cons_zero, List.set_cons_succ, List.getElem_toArray, List.getElem_cons_zero, List.getElem_cons_succ])
          refine wpAnyH_ready (rs := [13]) (by kernel_rfl) (by simp) ?_
          refine AllReadyH.cons rfl (fun K hK => ?_) AllReadyH.nil
          refine step_append_pairs (by rfl) _ _ (by rfl) wc.heap.size _ _ _ [(k, r)] (by rfl) hown1 (by rfl) (pair_at hpb) (by simp; omega) e2.size ?_
          intro v2 w2 hown2 hgrow2
          have e4 : Ext wc w2 := ext_grown e2 hgrow2 hown1.own
          refine hK.out _ _ ?s33 (fun hHeld => ?k33)
          case s33 => ((try dsimp only); (refine keep3 C1 F1 ?_; first | exact Ext.drew _ | exact e1 | exact e1b | exact e2 | exact e3 | exact e4 | exact e5))
          clear hK K
          (try simp only [Act.put, List.setIfInBounds_toArray, List.set_cons_zero, List.set_cons_succ, List.getElem_toArray, List.getElem_cons_zero, List.getElem_cons_succ])
          refine wpAnyH_ready (rs := [20]) (by kernel_rfl) (by simp) ?_
          refine AllReadyH.cons rfl (fun K hK => ?_) AllReadyH.nil
          refine step_append_pairs (by rfl) _ _ (by rfl) wc.heap.size _ u2 _ (R.drop jj) (by rfl) hown2 (by rfl) (HP2.out _ (HRC.out.ext e4).src) (by simp; omega) e4.size ?_
          intro v3 w3 hown3 hgrow3
          have e5 : Ext wc w3 := ext_grown e4 hgrow3 hown2.own
          refine hK.out _ _ ?s34 (fun hHeld => ?k34)
          case s34 => ((try dsimp only); (refine keep3 C1 F1 ?_; first | exact Ext.drew _ | exact e1 | exact e1b | exact e2 | exact e3 | exact e4 | exact e5))
          clear hK K
          (try simp only [Act.put, List.setIfInBounds_toArray, List.set_cons_zero, List.set_cons_succ, List.getElem_toArray, List.getElem_cons_zero, List.getElem_cons_succ])
          refine wpAnyH_take (i := 21) (v := ?v35) rfl (by kernel_rfl) (by kernel_rfl) (by kernel_rfl) (fun _ _ _ h => h) (Or.inl ⟨by rfl, ?y35⟩) (by assumption) ?r35
          case y35 => intro w hSw; (try dsimp only at hSw); go_simp; (try with_reducible rfl)
          (try simp only [Act.put, List.setIfInBounds_toArray, List.set_cons_zero, List.set_cons_succ, List.getElem_toArray, List.getElem_cons_zero, List.getElem_cons_succ])
          refine wpAnyH_take (i := 22) (v := ?v36) rfl (by kernel_rfl) (by kernel_rfl) (by kernel_rfl) (fun _ _ _ h => h) (Or.inl ⟨by rfl, ?y36⟩) (by assumption) ?r36
          case y36 => intro w hSw; (try dsimp only at hSw); go_simp; (try with_reducible rfl)
          (try simp only [Act.put, List.setIfInBounds_toArray, List.set_cons_zero, List.set_cons_succ, List.getElem_toArray, List.getElem_cons_zero, List.getElem_cons_succ])
          refine wpAnyH_done (by kernel_rfl) ?_ _
          show wpList _ _ _ _ _ _
          have hc3 := e5.cell C1
          have hf3 := (e5.frozen C1).trans F1
          have HR3 := Lib.hid (show PairRow w3 wc.heap.size v3 (put1 R (k, r)) by rw [← HIN.out]; simpa using hown3)
          have HE5 := Lib.hid e5
          obtain ⟨q3, n3, c3, hv3⟩ : ∃ q n c, v3 = .slice q n c := by obtain ⟨q3, c3, h, _⟩ := hown3.nilOr; exact ⟨q3, _, c3, h⟩
          subst hv3
          clear hown3
          have HFN := Lib.hid (HRC.out.fresh HE5.out HR3.out)
          go_wp2
          refine NoPanic.normal ?_
          go_wp2
          go_ret
          exact ⟨rfl, _, HFN.out.1, (Turn.of_ext HX.out).trans HFN.out.2.1, fun b hb => (HFN.out.2.2 b hb).imp id fun h => Nat.le_trans HX.out.size h⟩
theorem refpush_is {w : World} {rb : Nat} {v : Value} {R : List Ent} (h : RQ w rb v R) (hl : R.length ≤ 900) (hs : R.Pairwise fun a b => ¬ lt b a) (k r : Int) :
    Calls Try.prog 9 #[.pointer (some ⟨rb, 0, none⟩), .int .i64 k, .int .i64 r] w fun e w' => e = .returned (.bool (fresh R k)) ∧ ∃ v', RQ w' rb v' (put1 R (k, r)) ∧ RStep w w' rb v v' := by
  cases hf : fresh R k
  · refine (refpush_no h hl k r hf).mono fun _ _ ⟨he, hx⟩ => ⟨he, v, ?_, RStep.of_ext hx⟩
    unfold put1
    rw [hf]
    exact h.ext hx
  · exact refpush_yes h hl hs k r hf
end Go.Proofs.Ytgapjglijpdkmaa
