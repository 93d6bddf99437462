/- The walk of BoxOrder. -/
import Derived.Test.YtalfmlhiooaigaaBoxR
import Derived.RegionTactic
namespace Go.Proofs.Ytalfmlhiooaigaa
open Go.RowKit Go
set_option maxHeartbeats 8000000
set_option maxRecDepth 100000
theorem order_walk {w : World} {v : Value} {L : List (Value × List Cl)} (hv : MsgsP w v L) : Calls Try.prog 4 #[v] w (TrueExt w) := by
  obtain ⟨q, c0, rfl, hc1, hc2, hat⟩ := hv.at
  have HAT := Lib.hid hat
  unfold maxLen at hc2
  clear hat hv
  by_cases hl : L.length ≤ 20
  · have b1 : decide (20 < (L.length : Int)) = false := decide_eq_false (by omega)
    go_enter Try.func4, Try.ntmps4
    go_wp2_with fail
    refine (new_yes 8 2000 (by omega) (by omega) (by omega) w).mono ?_
    rintro e w1 ⟨rfl, h1, hx1⟩
    generalize hg : w.heap.size + 1 = g at h1 ⊢
    generalize hc : w.heap.size = c at h1
    have HC := Lib.hid (show w.heap.size ≤ c by omega)
    have hgt : ∀ b ∈ [g, c], w.heap.size ≤ b := by intro b hb; have := h1.ne; simp at hb; omega
    have HGT := Lib.hid hgt
    have H1 := Lib.hid h1; have X1 := Lib.hid hx1
    clear h1 hx1 hc hg hgt
    go_wp2_with fail
    go_loopw [5, 6] (fun a i wr => ∃ (k : Nat) (In B : List (Value × List Cl)), k ≤ L.length ∧ i = .int .i64 k ∧ OrdInv w wr g c a In B) (fun _ i _ => L.length - (intOf i).toNat)
    case atStart => exact ⟨0, [], [], by omega, rfl, H1.out, rfl, OwnP.nil _ _ _ _, by simp, X1.out, by simp⟩
    case round =>
      obtain ⟨k, In, B, hk, rfl, hinv⟩ := hrel
      have HI := Lib.hid hinv
      have hlen := hinv.len
      clear hinv
      by_cases hlt : k < L.length
      · have hxk := List.getElem?_eq_getElem hlt
        generalize L[k] = x at hxk
        obtain ⟨hm0, b, off, rfl, hcell⟩ := HAT.out k x hxk
        have y0 := HI.out.ext.cell hcell
        have i1 : (k : Int) < (L.length : Int) := by omega
        clear hxk
        obtain ⟨xv, M⟩ := x
        dsimp only at y0 hm0 hcell
        have HM0 := Lib.hid hm0
        have HCELL := Lib.hid hcell
        have HM := Lib.hid (hm0.ext HI.out.ext)
        clear hm0 hcell
        go_wp2_with fail
        refine (large_msg HM.out).mono ?_
        rintro e wo ⟨lb, rfl, hlb, rfl⟩
        cases lb
        · have hM := hlb rfl
          clear hlb
          go_wp2_with fail
          refine (own_msg HM.out (by omega)).mono ?_
          rintro e w2 ⟨m, rfl, ho2, hx2⟩
          have HO2 := Lib.hid ho2; have HX2 := Lib.hid hx2
          have HI2 := Lib.hid (HI.out.go hx2)
          have HB2 := Lib.hid (HI.out.box.ext hx2)
          have y2 := hx2.cell y0
          clear ho2 hx2 y0
          go_wp2_with fail
          by_cases hcan : goodM M = true ∧ B.length < 8 ∧ bsum B + wsum M ≤ 2000
          · obtain ⟨hg, hB8, hsum⟩ := hcan
            have hml := goodM_len hg
            refine (put_yes HB2.out HO2.out.p hg hsum hB8).mono ?_
            rintro e w3 ⟨rfl, t3, v3, h3, o3⟩
            have HT3 := Lib.hid t3; have H3 := Lib.hid h3; have O3 := Lib.hid o3
            clear hg hB8 hsum t3 h3 o3 y2
            have HX3 := Lib.hid ((HI2.out.ext).turn HT3.out HGT.out)
            have y3 := HX3.out.cell HCELL.out
            have hgw : g < w3.heap.size := (Array.getElem?_eq_some_iff.1 H3.out.blk).1
            have hgr : g < wo.heap.size := (Array.getElem?_eq_some_iff.1 HI.out.box.blk).1
            have hne : c < g := H3.out.ne
            obtain ⟨bm, hbm⟩ : ∃ bm, m.ownBlock = some bm := by
              rcases HO2.out.forms with ⟨_, h⟩ | ⟨bm, cm, cur, h, _⟩
              · have := congrArg List.length h; rw [List.length_map, List.length_nil] at this; omega
              · exact ⟨bm, by rw [h]; rfl⟩
            have HBM := Lib.hid hbm
            obtain ⟨hbm1, hbm2⟩ := HO2.out.own bm hbm
            have HVI := Lib.hid (HI.out.own.own)
            have HOWN := Lib.hid (HI2.out.own.turn HT3.out (fun b hb hm => by have := (HI.out.own.own b hb).1; simp at hm; omega))
            have HM3 := Lib.hid (HO2.out.turn HT3.out (fun b hb hm => by have := (HO2.out.own b hb).1; simp at hm; omega))
            obtain ⟨qx, cx, rfl, _⟩ := RowsP.at HM0.out
            obtain ⟨qi, ci, rfl, hci1, hci2⟩ := HI.out.own.len
            rw [List.length_map] at hci1
            have s3 := HT3.out.size
            have s2 := Below.size HX2.out
            rw [List.length_map] at HOWN HI HM0 HM
            have HXV := Lib.hid (show ∀ u ∈ (#[Value.slice qx M.length cx] : Array Value).toList, u.oneCell' = true by intro u hu; simp at hu; subst hu; rfl)
            have HY := Lib.hid ((rows_of_block (w := w3.alloc (.cells #[.slice qx M.length cx] 29)) (cs := #[.slice qx M.length cx]) (heap_alloc_new w3 _) rfl HXV.out))
            clear hbm
            go_wp2_with (refine wpList_append_rows EMsg (by rfl) _ _ (by rfl) (g + 1) (.slice qi In.length ci) (.slice (some ⟨w3.heap.size, 0, none⟩) 1 1) (In.map fun x => [x.1]) [[.slice qx M.length cx]] (by rfl) (HOWN.out.ext (Ext.alloc _ _)) (by rfl) HY.out (by simp; unfold maxLen; omega) (by simp; omega) (by simp; omega) ?_)
            intro v4 w4 ho4 hg4 hb4 _
            have HO4 := Lib.hid ho4; have HG4 := Lib.hid hg4; have HB4 := Lib.hid hb4
            have hmf : ∀ b, (Value.slice qi In.length ci).ownBlock = some b → b < wo.heap.size := fun b hb => by
              have := (HVI.out b (by rw [List.length_map]; exact hb)).2; omega
            have hm4 : OwnP w4 wo.heap.size 41 m 4 (M.map celC) := (HM3.out.ext (Ext.alloc w3 _)).grown hg4 (fun b hb e => by have := hmf b e; have := (HM3.out.own b hb).1; omega)
            have HM4 := Lib.hid hm4
            obtain ⟨qm, cm, rfl, hcm1, hcm2⟩ := hm4.len
            rw [List.length_map] at hcm1 HM4 HM3 HO2 HBM
            obtain rfl : qm = some ⟨bm, 0, none⟩ := by
              rcases HO2.out.forms with ⟨h, _⟩ | ⟨bm', cm', cur, h, _⟩
              · obtain ⟨_, h2, _⟩ := Value.slice.inj h
                omega
              · obtain ⟨rfl, _, _⟩ := Value.slice.inj h
                have := HBM.out
                simp [Value.ownBlock] at this
                rw [this]
            unfold maxLen at hcm2
            rw [List.length_map]
            clear ho4 hg4 hb4 hm4 hmf y3
            go_wp2_with fail
            go_loopw [8] (fun j wx => ∃ (jj : Nat) (rows : List (List Value)), jj ≤ M.length ∧ j = .int .i64 jj ∧ rows.length = M.length ∧ OwnP wx wo.heap.size 41 (.slice (some ⟨bm, 0, none⟩) M.length cm) 4 rows ∧ Turn [bm] w4 wx) (fun j _ => M.length - (intOf j).toNat)
            case atStart => exact ⟨0, M.map celC, by omega, rfl, by simp, HM4.out, Turn.refl _ _⟩
            case round =>
              obtain ⟨jj, rows, hjj, rfl, hrl, hown, ht⟩ := hrel
              have HT5 := Lib.hid ht; have HOW := Lib.hid hown
              by_cases hlt5 : jj < M.length
              · have hxj := List.getElem?_eq_getElem (show jj < rows.length by omega)
                generalize rows[jj] = cs at hxj
                have hcs := (hown.1 cs (List.mem_of_getElem? hxj)).1
                have hu := List.getElem?_eq_getElem (show 2 < cs.length by omega)
                obtain ⟨g', e, _, y5, f5⟩ := hown.cell hxj hu
                obtain ⟨rfl, _⟩ := Addr.mk.inj (Option.some.inj e)
                have i5 : (jj : Int) < (M.length : Int) := by omega
                have HS := Lib.hid (hown.store (f := 2) hxj (by omega) (u := .int .i64 77) rfl)
                have HL := Lib.hid (show (rows.set jj (cs.set 2 (.int .i64 77))).length = M.length by rw [List.length_set]; exact hrl)
                generalize cs[2] = ov at y5
                clear hxj hu hcs hown ht hrl
                go_wp2_with fail
                exact ⟨⟨jj + 1, _, by omega, by go_num, HL.out, HS.out, HT5.out.setCell (.inl (by simp)) _⟩, by simp [intOf]; omega⟩
              · obtain rfl : jj = M.length := by omega
                have HST := Lib.hid (OrdInv.step HC.out HI.out HO2.out HBM.out HX2.out HT3.out H3.out O3.out (Ext.alloc _ _) HG4.out HO4.out (by have h := HB4.out; rw [World.size_alloc]; exact h) HT5.out HM0.out)
                clear hown ht hrl
                go_wp2_with fail
                exact ⟨⟨k + 1, _, _, by omega, by go_num, HST.out⟩, by simp [intOf]; omega⟩
          · refine (put_no HB2.out HO2.out.p hcan).mono ?_
            rintro e w3 ⟨rfl, hx3⟩
            have HI3 := Lib.hid (HI2.out.go hx3)
            clear hx3 hcan y2
            go_wp2_with fail
            exact ⟨⟨k + 1, In, B, by omega, by go_num, HI3.out⟩, by simp [intOf]; omega⟩
        · go_wp2_with fail
          refine (box_wakes _).mono ?_
          rintro e w2 ⟨rfl, hx2⟩
          go_wp2_with fail
          go_ret
          exact ⟨rfl, HI.out.ext.trans hx2⟩
      · obtain rfl : k = L.length := by omega
        obtain ⟨qi, ci, rfl, hci1, hci2⟩ := HI.out.own.len
        rw [List.length_map] at hci1 HI ⊢
        unfold maxLen at hci2
        go_wp2_with fail
        go_loopw [9] (fun i wx => ∃ k2 : Nat, k2 ≤ In.length ∧ i = .int .i64 k2 ∧ BoxAt wx g c 8 2000 (B.drop k2) ∧ OwnP wx (g + 1) 29 (.slice qi In.length ci) 1 (In.map fun x => [x.1]) ∧ Ext w wx) (fun i _ => In.length - (intOf i).toNat)
        case atStart => exact ⟨0, by omega, rfl, HI.out.box, HI.out.own, HI.out.ext⟩
        case round =>
          obtain ⟨k2, hk2, rfl, hb2, ho2, hx2⟩ := hrel
          have HB2 := Lib.hid hb2; have HX2 := Lib.hid hx2; have HO2 := Lib.hid ho2
          clear hb2 ho2 hx2
          by_cases hlt2 : k2 < In.length
          · have hxk := List.getElem?_eq_getElem hlt2
            generalize In[k2] = x at hxk
            have hbk : (B.map Prod.snd)[k2]? = some x.2 := by rw [HI.out.same, List.getElem?_map, hxk]; rfl
            have hkb : k2 < B.length := by omega
            have hyk := List.getElem?_eq_getElem hkb
            have hdr : B.drop k2 = B[k2] :: B.drop (k2 + 1) := List.drop_eq_getElem_cons hkb
            have hb2 := HB2.out
            rw [hdr] at hb2
            generalize B[k2] = y at hyk hdr hb2
            have hyx : y.2 = x.2 := by rw [List.getElem?_map, hyk] at hbk; exact Option.some.inj hbk
            obtain ⟨xv, M⟩ := x
            obtain ⟨yv, M'⟩ := y
            obtain rfl : M' = M := hyx
            have HB3 := Lib.hid hb2
            have HR := Lib.hid (HI.out.rd _ (List.mem_of_getElem? hxk))
            have HK := Lib.hid (show (In.map fun x => [x.1])[k2]? = some [xv] by rw [List.getElem?_map, hxk]; rfl)
            have hdl : (((B.drop (k2 + 1)).length : Nat) : Int) = (In.length : Int) - 1 - (k2 : Int) := by rw [List.length_drop]; omega
            have HDL := Lib.hid hdl
            have i1 : (k2 : Int) < (In.length : Int) := by omega
            clear hb2 hyk hdr hbk hxk hdl
            go_wp2_with fail
            refine (take_some HB3.out).mono ?_
            rintro e w3 ⟨rfl, t3, h3, o3⟩
            have hne := HB2.out.ne
            have HO3 := Lib.hid (HO2.out.turn t3 (fun b hb hm => by have := (HO2.out.own b hb).1; simp at hm; omega))
            have HX3 := Lib.hid (HX2.out.turn t3 HGT.out)
            have H3 := Lib.hid h3; have O3 := Lib.hid o3
            obtain ⟨_, _, hvq, _, _, hcl⟩ := RowsP.at HO3.out.p
            obtain ⟨rfl, hlx, rfl⟩ := Value.slice.inj hvq
            clear hlx
            obtain ⟨bi, offi, rfl, hcl2⟩ := hcl k2 _ HK.out
            have y0 := hcl2 0 _ rfl
            rw [Nat.mul_one, Nat.add_zero] at y0
            clear t3 h3 o3 hcl hcl2 hvq
            go_wp2_with fail
            refine (msg_true O3.out.p (HR.out.ext HX3.out)).mono ?_
            rintro e w4 ⟨rfl, hx4⟩
            have HX4 := Lib.hid (HX3.out.trans hx4); have H4 := Lib.hid (H3.out.ext hx4); have HO4 := Lib.hid (HO3.out.ext hx4)
            clear hx4 y0
            go_wp2_with fail
            refine (len_box H4.out).mono ?_
            rintro e w' ⟨rfl, rfl⟩
            rw [HDL.out]
            go_wp2_with fail
            exact ⟨⟨k2 + 1, by omega, by go_num, H4.out, HO4.out, HX4.out⟩, by simp [intOf]; omega⟩
          · obtain rfl : k2 = In.length := by omega
            have HB3 := Lib.hid (show BoxAt wr g c 8 2000 [] by have h := HB2.out; rwa [List.drop_of_length_le (by omega)] at h)
            go_wp2_with fail
            refine (take_none HB3.out).mono ?_
            rintro e w' ⟨rfl, rfl⟩
            go_wp2_with fail
            refine (words_box HB3.out).mono ?_
            rintro e w' ⟨rfl, rfl⟩
            go_wp2_with fail
            refine (box_wakes _).mono ?_
            rintro e w2 ⟨rfl, hx2⟩
            go_wp2_with fail
            go_ret
            exact ⟨rfl, HX2.out.trans hx2⟩
  · have b1 : decide (20 < (L.length : Int)) = true := decide_eq_true (by omega)
    go_enter Try.func4, Try.ntmps4
    go_wp2_with fail
    refine (new_yes 8 2000 (by omega) (by omega) (by omega) w).mono ?_
    rintro e w1 ⟨rfl, h1, hx1⟩
    clear h1
    generalize w.heap.size + 1 = g
    have X1 := Lib.hid hx1
    clear hx1
    go_wp2_with fail
    refine (box_wakes _).mono ?_
    rintro e w2 ⟨rfl, hx2⟩
    go_wp2_with fail
    go_ret
    exact ⟨rfl, X1.out.trans hx2⟩
end Go.Proofs.Ytalfmlhiooaigaa
