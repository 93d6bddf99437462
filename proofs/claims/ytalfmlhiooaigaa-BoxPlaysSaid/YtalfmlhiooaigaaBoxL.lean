/- Put at a full box; Take. -/
import Derived.Test.YtalfmlhiooaigaaBoxK
namespace Go.Proofs.Ytalfmlhiooaigaa
open Go.RowKit Go
set_option maxHeartbeats 4000000
set_option maxRecDepth 100000
theorem put_full {w : World} {g c cap most : Nat} {L : List (Value × List Cl)} {v : Value} {M : List Cl} (h : BoxAt w g c cap most L) (hm : MsgP w v M) (hg : goodM M = true) (hs : bsum L + wsum M ≤ most) (hl : L.length = cap) : Calls Try.prog 11 #[.pointer (some ⟨g, 0, none⟩), v] w fun e w' => e = .returned (.bool false) ∧ Ext w w' := by
  obtain ⟨y0, y1, y2, _⟩ := h.cells
  have r0 := fun d os => cell_regrown y0 d os
  have r1 := fun d os => cell_regrown y1 d os
  have r2 := fun d os => cell_regrown y2 d os
  have cG := fun d os => quiet_ext (good_msg (hm.ext (Ext.regrown w d os)))
  have cW := fun d os => quiet_ext (words_msg (hm.ext (Ext.regrown w d os)) hg)
  rw [hg] at cG
  have CG := Lib.hid cG
  have CW := Lib.hid cW
  clear cG cW y0 y1 y2
  have HM := Lib.hid hm
  have H := Lib.hid h
  have hlen := goodM_len hg
  have hL := h.sum
  have hm2 := h.most2
  have hgs := goodM_sum hg
  have hcap := h.cap8
  have HG := Lib.hid hg
  clear h hm hg
  generalize hB : bsum L = B at *
  generalize hW2 : wsum M = W2 at *
  have HB := Lib.hid hB; have HW2 := Lib.hid hW2
  clear hB hW2
  have b1 : decide ((most : Int) - (B : Int) < (W2 : Int)) = false := decide_eq_false (by omega)
  refine calls_of_rest Try.func11 rfl ?_
  simp only [Try.ntmps11, List.size_toArray, List.length_cons, List.length_nil, Nat.reduceAdd, Nat.reduceSub, Array.replicate_succ,
     Array.replicate_zero, List.push_toArray, List.append_toArray, List.nil_append, List.cons_append]
  refine Rest.seq (Rest.code Try.func11 ?_)
  go_wp2
  show Rest _ _ _ _ _ _
  refine Rest.seq (Rest.code Try.func11 ?_)
  go_upto_region 1 with fail
  refine wp_region_quiet_below (by kernel_rfl) (by kernel_rfl) ?_
  repeat (first | go_big_quiet_step (first | exact CG.out _ _ | exact CW.out _ _) | quiet_step (first | exact CG.out _ _ | exact CW.out _ _))
  refine wpQuiet_nil ?_
  intro _ hw'
  obtain ⟨⟨dq, osq⟩, hw''⟩ := hw'
  subst hw''
  have HXQ := Lib.hid (Ext.regrown w dq osq)
  clear r0 r1 r2
  generalize hWq : Go.Sort.grow (redrawn w dq) osq = wq at *
  clear hWq
  go_wp2
  show Rest _ _ _ _ _ _
  have hy0 := HXQ.out.cell H.out.cells.1
  obtain ⟨q, cc, rfl, h1, h2, _⟩ := RowsP.at HM.out
  have HVq := Lib.hid (RowsP.ext HM.out HXQ.out)
  have HH := Lib.hid (H.out.ext HXQ.out)
  have hgw : g < wq.heap.size := by have := (Array.getElem?_eq_some_iff.1 HH.out.blk).1; exact this
  have hcw : c < g := HH.out.ne
  rw [List.length_map] at h1 HVq ⊢
  refine Rest.seq (Rest.code Try.func11 ?_)
  go_wp2_with (refine wpList_append_rows ECel (by rfl) _ _ (by rfl) wq.heap.size (.slice (some ⟨wq.heap.size, 0, none⟩) 0 0) (.slice q M.length cc) [] (M.map celC) (by rfl) (own_empty wq _) (by rfl) (RowsP.ext HVq.out (Ext.alloc _ _)) (by simp; unfold maxLen; omega) (by simp; omega) (by simp) ?_)
  intro v2 w2 ho2 hg2 hb2 _
  have hx2 : Ext wq w2 := Below.grown (Below.alloc (Ext.refl wq) (by omega) _) hg2 (by simp) (fun b hb => by simp [Value.ownBlock] at hb; omega)
  have HO2 := Lib.hid ho2
  have HX2 := Lib.hid hx2
  have HH2 := Lib.hid (HH.out.ext hx2)
  have hz0 := HH2.out.cells.1
  have hz1 := HH2.out.cells.2.1
  obtain ⟨sn, rn, hch⟩ := HH2.out.chn
  clear ho2 hg2 hb2 hx2 hy0
  go_wp2
  show Rest _ _ _ _ _ _
  refine Rest.seq (Rest.code Try.func11 ?_)
  go_wp2
  show Rest _ _ _ _ _ _
  refine Rest.seq (Rest.region ?_)
  show Rest _ _ _ (.inRegion _ [0, 1, 2] :: _) _ _
  refine Rest.full (o := { dst := some 35, op := Op.select #[{ chan := Operand.tmp 33, send := some (Operand.tmp 34), elem := 29 }] false, type := 0, pos := "box.go:29", after := #[], guard := none }) (v := v2) (z := .slice none 0 0) (w1 := w2) (by rfl) (by rfl) (by simp [go_sem, execOp, Go.Conc.scase, Act.eval]) hch (by simp; omega) ?_
  refine Rest.opsL 1 Try.func11 rfl ?_
  go_wp2
  show Rest _ _ _ _ _ _
  refine Rest.block (Rest.cond (t := false) (by rfl) (Rest.code Try.func11 ?_))
  rw [if_neg (by decide)]
  go_wp2
  refine restPost_ret ?_
  go_ret
  exact ⟨rfl, HXQ.out.trans HX2.out⟩
theorem take_none {w : World} {g c cap most : Nat} (h : BoxAt w g c cap most []) : Calls Try.prog 13 #[.pointer (some ⟨g, 0, none⟩)] w fun e w' => e = .returned (.tuple #[.slice none 0 0, .bool false]) ∧ w' = w := by
  obtain ⟨y0, y1, _, _⟩ := h.cells
  obtain ⟨sn, rn, hch⟩ := h.chn
  refine calls_of_rest Try.func13 rfl ?_
  simp only [Try.ntmps13, List.size_toArray, List.length_cons, List.length_nil, Nat.reduceAdd, Nat.reduceSub, Array.replicate_succ,
     Array.replicate_zero, List.push_toArray, List.append_toArray, List.nil_append, List.cons_append]
  refine Rest.seq (Rest.code Try.func13 ?_)
  go_wp2
  show Rest _ _ _ _ _ _
  refine Rest.seq (Rest.code Try.func13 ?_)
  go_wp2
  show Rest _ _ _ _ _ _
  refine Rest.seq (Rest.code Try.func13 ?_)
  go_wp2
  show Rest _ _ _ _ _ _
  refine Rest.seq (Rest.region ?_)
  show Rest _ _ _ (.inRegion _ [0, 1, 2] :: _) _ _
  refine Rest.none (o := { dst := some 11, op := Op.select #[{ chan := Operand.tmp 10, send := none, elem := 29 }] false, type := 0, pos := "box.go:43", after := #[], guard := none }) (z := .slice none 0 0) (w1 := w) (by rfl) (by rfl) (by simp [go_sem, execOp, Go.Conc.rcase, Act.eval]) hch ?_
  refine Rest.opsL 1 Try.func13 rfl ?_
  go_wp2
  show Rest _ _ _ _ _ _
  refine Rest.block (Rest.cond (t := false) (by rfl) (Rest.code Try.func13 ?_))
  rw [if_neg (by decide)]
  go_wp2
  refine restPost_ret ?_
  go_ret2
  exact ⟨rfl, rfl⟩
theorem take_some {w : World} {g c cap most : Nat} {v : Value} {M : List Cl} {L : List (Value × List Cl)} (h : BoxAt w g c cap most ((v, M) :: L)) : Calls Try.prog 13 #[.pointer (some ⟨g, 0, none⟩)] w fun e w' => e = .returned (.tuple #[v, .bool true]) ∧ Turn [g, c] w w' ∧ BoxAt w' g c cap most L ∧ OwnP w' (g + 1) 41 v 4 (M.map celC) := by
  obtain ⟨y0, y1, _, yf⟩ := h.cells
  obtain ⟨sn, rn, hch⟩ := h.chn
  have hne := h.ne
  have hsum := h.sum
  have hm2 := h.most2
  obtain ⟨hg, ho⟩ := h.its (v, M) (.head _)
  have HG := Lib.hid hg
  have HO := Lib.hid ho
  have H := Lib.hid h
  have hbs : bsum ((v, M) :: L) = wsum M + bsum L := by simp [bsum]
  rw [hbs] at y1 hsum
  clear h hg ho
  generalize hB : bsum L = B at *
  generalize hW2 : wsum M = W2 at *
  have HB := Lib.hid hB; have HW2 := Lib.hid hW2
  clear hB hW2 hbs
  refine calls_of_rest Try.func13 rfl ?_
  simp only [Try.ntmps13, List.size_toArray, List.length_cons, List.length_nil, Nat.reduceAdd, Nat.reduceSub, Array.replicate_succ,
     Array.replicate_zero, List.push_toArray, List.append_toArray, List.nil_append, List.cons_append]
  refine Rest.seq (Rest.code Try.func13 ?_)
  go_wp2
  show Rest _ _ _ _ _ _
  refine Rest.seq (Rest.code Try.func13 ?_)
  go_wp2
  show Rest _ _ _ _ _ _
  refine Rest.seq (Rest.code Try.func13 ?_)
  go_wp2
  show Rest _ _ _ _ _ _
  refine Rest.seq (Rest.region ?_)
  show Rest _ _ _ (.inRegion _ [0, 1, 2] :: _) _ _
  refine Rest.recv (o := { dst := some 11, op := Op.select #[{ chan := Operand.tmp 10, send := none, elem := 29 }] false, type := 0, pos := "box.go:43", after := #[], guard := none }) (z := .slice none 0 0) (w1 := w) (by rfl) (by rfl) (by simp [go_sem, execOp, Go.Conc.rcase, Act.eval]) hch (by simp) ?_
  rw [show (List.map Prod.fst ((v, M) :: L)).toArray.getD 0 undef = v by simp, show (List.map Prod.fst ((v, M) :: L)).toArray.extract 1 (List.map Prod.fst ((v, M) :: L)).toArray.size = (List.map Prod.fst L).toArray by simp [List.take_of_length_le]]
  refine Rest.opsL 1 Try.func13 rfl ?_
  go_wp2
  show Rest _ _ _ _ _ _
  refine Rest.block (Rest.cond (t := true) (by rfl) (Rest.code Try.func13 ?_))
  rw [if_pos rfl]
  have HV3 := Lib.hid (show MsgP (w.setChan c cap (List.map Prod.fst L).toArray false sn (rn + 1) false) v M from RowsP.setChan hch (by intro _ _ _ e; cases e) HO.out.p)
  have hyf : (w.setChan c cap (List.map Prod.fst L).toArray false sn (rn + 1) false).frozen? ⟨g, 1, none⟩ = false := by
    rw [World.frozen?_of_block (w := w) (show _ = _ by simp [World.setChan, Array.getElem?_setIfInBounds_ne (show c ≠ g by omega)])]
    exact yf
  have hy1 := setChan_cell (cap := cap) (buf := (List.map Prod.fst L).toArray) (cl := false) (s := sn) (r := rn + 1) (tm := false) hch (by intro _ _ _ e; cases e) y1
  have HRE := Lib.hid (fun W (hW : Ext (w.setChan c cap (List.map Prod.fst L).toArray false sn (rn + 1) false) W) => BoxAt.redo (L' := L) (W := W) H.out hW (fun x hx => H.out.its x (.tail _ hx)) (by have := H.out.len; simp at this; omega) (by have := HB.out; omega))
  rw [HB.out] at HRE
  generalize w.setChan c cap (List.map Prod.fst L).toArray false sn (rn + 1) false = W3 at *
  clear hch y0 y1 yf
  go_upto_region 7 with fail
  refine wp_region_noPanic ?_
  refine wp_region_last 9 (S := (fun w' => w'.cell? ⟨g, 1, none⟩ = some (.int .i64 ((W2 + B : Nat) : Int)) ∧ w'.frozen? ⟨g, 1, none⟩ = false ∧ Ext W3 w')) (by kernel_rfl) (by kernel_rfl) _ rfl ?_ (fun hHeld => ?_)
  · (refine keepB hy1 hyf ?_; first | exact Ext.drew _ | exact HX4.out)
  simp only [List.take_succ_cons, List.take_zero]
  refine wpAnyH_take (i := 0) (v := ?v1) rfl (by kernel_rfl) (by kernel_rfl) (by kernel_rfl) (fun _ _ _ h => h) (Or.inl ⟨by rfl, ?y1⟩) (by assumption) ?r1
  case y1 => intro w hSw; (try dsimp only at hSw); go_simp; (try with_reducible rfl)
  (try simp only [Act.put, List.setIfInBounds_toArray, List.set_cons_zero, List.set_cons_succ, List.getElem_toArray, List.getElem_cons_zero, List.getElem_cons_succ])
  refine wpAnyH_take (i := 1) (v := ?v2) rfl (by kernel_rfl) (by kernel_rfl) (by kernel_rfl) (fun _ _ _ h => h) (Or.inl ⟨by rfl, ?y2⟩) (by assumption) ?r2
  case y2 => intro w hSw; (try dsimp only at hSw); go_simp; (try with_reducible rfl)
  (try simp only [Act.put, List.setIfInBounds_toArray, List.set_cons_zero, List.set_cons_succ, List.getElem_toArray, List.getElem_cons_zero, List.getElem_cons_succ])
  refine wpAnyH_take (i := 2) (v := ?v3) rfl (by kernel_rfl) (by kernel_rfl) (by kernel_rfl) (fun _ _ _ h => h) (Or.inl ⟨by rfl, ?y3⟩) (by assumption) ?r3
  case y3 => intro w hSw; (try dsimp only at hSw); go_simp; (try with_reducible rfl)
  (try simp only [Act.put, List.setIfInBounds_toArray, List.set_cons_zero, List.set_cons_succ, List.getElem_toArray, List.getElem_cons_zero, List.getElem_cons_succ])
  refine wpAnyH_take (i := 3) (v := ?v4) rfl (by kernel_rfl) (by kernel_rfl) (by kernel_rfl) (fun _ _ _ h => h) (Or.inl ⟨by rfl, ?y4⟩) (by assumption) ?r4
  case y4 => intro w hSw; (try dsimp only at hSw); go_simp; (try with_reducible rfl)
  (try simp only [Act.put, List.setIfInBounds_toArray, List.set_cons_zero, List.set_cons_succ, List.getElem_toArray, List.getElem_cons_zero, List.getElem_cons_succ])
  refine wpAnyH_take (i := 4) (v := ?v5) rfl (by kernel_rfl) (by kernel_rfl) (by kernel_rfl) (fun _ _ _ h => h) (Or.inl ⟨by rfl, ?y5⟩) (by assumption) ?r5
  case y5 => intro w hSw; (try dsimp only at hSw); go_simp; (try with_reducible rfl)
  (try simp only [Act.put, List.setIfInBounds_toArray, List.set_cons_zero, List.set_cons_succ, List.getElem_toArray, List.getElem_cons_zero, List.getElem_cons_succ])
  refine wpAnyH_ready (rs := [5]) (by kernel_rfl) (by simp) ?_
  refine AllReadyH.cons rfl (fun K hK => ?_) AllReadyH.nil
  go_simp
  have hwm := words_msg (HV3.out.ext (Ext.drew _)) HG.out
  rw [HW2.out] at hwm
  refine hwm.mono ?_
  rintro e w4 ⟨rfl, hx4⟩
  have HX4 := Lib.hid ((Ext.drew W3).trans hx4)
  refine hK.out _ _ ?s6 (fun hHeld => ?k6)
  case s6 => ((try dsimp only); (refine keepB hy1 hyf ?_; first | exact Ext.drew _ | exact HX4.out))
  clear hK K
  (try simp only [Act.put, List.setIfInBounds_toArray, List.set_cons_zero, List.set_cons_succ, List.getElem_toArray, List.getElem_cons_zero, List.getElem_cons_succ])
  refine wpAnyH_take (i := 6) (v := ?v7) rfl (by kernel_rfl) (by kernel_rfl) (by kernel_rfl) (fun _ _ _ h => h) (Or.inl ⟨by rfl, ?y7⟩) (by assumption) ?r7
  case y7 => intro w hSw; (try dsimp only at hSw); go_simp; (try with_reducible rfl)
  (try simp only [Act.put, List.setIfInBounds_toArray, List.set_cons_zero, List.set_cons_succ, List.getElem_toArray, List.getElem_cons_zero, List.getElem_cons_succ])
  refine wpAnyH_take (i := 7) (v := ?v8) rfl (by kernel_rfl) (by kernel_rfl) (by kernel_rfl) (fun _ _ _ h => h) (Or.inl ⟨by rfl, ?y8⟩) (by assumption) ?r8
  case y8 => intro w hSw; (try dsimp only at hSw); go_simp; (try with_reducible rfl)
  (try simp only [Act.put, List.setIfInBounds_toArray, List.set_cons_zero, List.set_cons_succ, List.getElem_toArray, List.getElem_cons_zero, List.getElem_cons_succ])
  refine wpAnyH_take (i := 8) (v := ?v9) rfl (by kernel_rfl) (by kernel_rfl) (by kernel_rfl) (fun _ _ _ h => h) (Or.inl ⟨by rfl, ?y9⟩) (by assumption) ?r9
  case y9 => intro w hSw; (try dsimp only at hSw); go_simp; (try with_reducible rfl)
  (try simp only [Act.put, List.setIfInBounds_toArray, List.set_cons_zero, List.set_cons_succ, List.getElem_toArray, List.getElem_cons_zero, List.getElem_cons_succ])
  refine wpAnyH_done (by kernel_rfl) ?_ _
  show wpList _ _ _ _ _ _
  obtain ⟨hz1, hzf, _⟩ := keepB hy1 hyf HX4.out
  have HEND := Lib.hid (HRE.out w4 HX4.out)
  clear hy1 hyf
  go_wp2
  refine NoPanic.normal ?_
  go_wp2
  refine restPost_ret ?_
  go_ret2
  have HE2 := HEND.out
  rw [show ((B : Nat) : Int) = ((W2 + B : Nat) : Int) - (W2 : Int) by omega] at HE2
  refine ⟨rfl, HE2.2, HE2.1, HO.out.turn HE2.2 (fun b hb hm => ?_)⟩
  have := (HO.out.own b hb).1
  simp at hm
  omega
end Go.Proofs.Ytalfmlhiooaigaa
