/- Proved here: the contracts and laws of DatXA, RowIn, DatIn, DatXB of this claim, each beneath its own remark; conditions: those that each theorem names. -/
import Derived.Test.YtppkgfcobnknfaaDoorM10
import Derived.Test.YtppkgfcobnknfaaDoorM4
import Derived.Test.YtppkgfcobnknfaaDoorM1
import Derived.Test.YtppkgfcobnknfaaDoorM8
/- DataPairs: the walk. -/
namespace Go.Proofs.YtppkgfcobnknfaaDoor
open Go.RowKit Go.Maps Arena
set_option maxHeartbeats 8000000
set_option maxRecDepth 100000
/-- append, at a guarded operation that is wanted -/
theorem wpList_append_guard {P : Program} {ST T : TypeId} {s bytes : Nat} (E : ElemT P ST T s bytes) {w : World} {ops : Array Oper} {rest : List Oper} {o : Oper} {a : Act} {Q : Exit → Act → World → Prop} (so xo : Operand)
    (ho : o.op = .call { callee := .builtin .append, args := #[so, xo], argTypes := #[ST, ST] }) (hwant : Region.wanted o (yielded ops a.tmps) = true)
    (base : Nat) (v u : Value) (R L : List (List Value)) (hs : a.eval so = v) (hown : OwnP w base T v s R) (hx : a.eval xo = u) (hu : RowsP w u s L)
    (h63 : R.length + L.length ≤ maxLen) (hbytes : (R.length + L.length) * bytes ≤ 140737488355328) (hbase : base ≤ w.heap.size)
    (h : ∀ v' w', OwnP w' base T v' s (R ++ L) → w.grownBy w' v.ownBlock → (v'.ownBlock = v.ownBlock ∨ v'.ownBlock = some w.heap.size) → wpList P ops Q rest (a.put o.dst v') w') :
    wpList P ops Q (o :: rest) a w := by
  obtain ⟨v', w', hr, h2, h3, h4, h5⟩ := run_append_rows E base o.type hown hu h63 hbytes hbase
  refine wpList_step fun K hK => ?_
  rw [if_pos hwant]
  unfold Oper.wp execOp
  simp only [ho, resolve, invoke, builtin, Sem.run_bind, Sem.run_pure, Result.andThen_ok, List.map_toArray, List.map_cons, List.map_nil, hs, hx, hr]
  exact hK _ _ (h v' w' h2 h3 h4)
/-- it is true, and nothing that was there has turned -/
def True10 (w : World) (e : Ending) (w' : World) : Prop := e = .returned (.bool true) ∧ Ext w w'
theorem large_same {w : World} {v : Value} {M : List Cl} (h : MsgP w v M) : Calls Tryd.prog 5 #[v] w fun e w' => ∃ b, e = .returned (.bool b) ∧ (b = false → M.length ≤ 3000) ∧ w = w' :=
  (large_msg h).mono fun _ _ ⟨b, h1, h2, h3⟩ => ⟨b, h1, h2, h3.symm⟩
theorem pairs_walk {w : World} {va vb : Value} {A B : List Cl} (ha : MsgP w va A) (hb : MsgP w vb B) (hO : OpLie w) : Calls Tryd.prog 3 #[va, vb] w (True10 w) := by
  have HA := Lib.hid ha; have HB := Lib.hid hb; have HO := Lib.hid hO
  obtain ⟨qa, ca, rfl, ha1, ha2, -⟩ := RowsP.at ha
  obtain ⟨qb, cb, rfl, hb1, hb2, -⟩ := RowsP.at hb
  rw [List.length_map] at ha1 hb1 HA HB ⊢
  rw [List.length_map]
  have HLA := Lib.hid (large_same HA.out); have HLB := Lib.hid (large_same HB.out)
  have HGA := Lib.hid (fun W (e : Ext w W) => refgood_msg (HA.out.ext e)); have HGB := Lib.hid (fun W (e : Ext w W) => refgood_msg (HB.out.ext e))
  have HWk := Lib.hid (fun W (e : Ext w W) => wakes10 W (HO.out.ext e))
  clear ha hb hO
  go_enter Tryd.func3, Tryd.ntmps3
  go_wp2_with fail
  (with_reducible refine HLA.out.mono ?_)
  rintro e w1 ⟨b, rfl, hla, rfl⟩
  cases b with
  | true =>
    have HX := Lib.hid (Ext.refl w)
    clear hla
    go_wp2_with fail
    (with_reducible refine (HWk.out _ HX.out).mono ?_)
    rintro e w9 ⟨rfl, hx9⟩
    have HX9 := Lib.hid (HX.out.trans hx9)
    clear hx9
    go_wp2_with fail
    go_ret
    exact ⟨rfl, HX9.out⟩
  | false =>
    have hla2 := hla rfl
    clear hla
    go_wp2_with fail
    (with_reducible refine HLB.out.mono ?_)
    rintro e w1 ⟨b, rfl, hlb, rfl⟩
    cases b with
    | true =>
      have HX := Lib.hid (Ext.refl w)
      clear hlb
      go_wp2_with fail
      (with_reducible refine (HWk.out _ HX.out).mono ?_)
      rintro e w9 ⟨rfl, hx9⟩
      have HX9 := Lib.hid (HX.out.trans hx9)
      clear hx9
      go_wp2_with fail
      go_ret
      exact ⟨rfl, HX9.out⟩
    | false =>
      have hlb2 := hlb rfl
      clear hlb HLA HLB
      generalize hga : goodM A = ga at HGA
      have HGAe := Lib.hid hga
      clear hga
      cases ga with
      | false =>
        go_wp2_with fail
        (with_reducible refine (HGA.out _ (Ext.refl w)).mono ?_)
        rintro e w1 ⟨rfl, hx⟩
        have HX := Lib.hid hx
        clear hx
        go_wp2_with fail
        (with_reducible refine (HWk.out _ HX.out).mono ?_)
        rintro e w9 ⟨rfl, hx9⟩
        have HX9 := Lib.hid (HX.out.trans hx9)
        clear hx9
        go_wp2_with fail
        go_ret
        exact ⟨rfl, HX9.out⟩
      | true =>
        go_wp2_with fail
        (with_reducible refine (HGA.out _ (Ext.refl w)).mono ?_)
        rintro e w1 ⟨rfl, hx⟩
        have HX1 := Lib.hid hx
        clear hx HGA
        generalize hgb : goodM B = gb at HGB
        have HGBe := Lib.hid hgb
        clear hgb
        cases gb with
        | false =>
          go_wp2_with fail
          (with_reducible refine (HGB.out _ HX1.out).mono ?_)
          rintro e w2 ⟨rfl, hx⟩
          have HX := Lib.hid (HX1.out.trans hx)
          clear hx
          go_wp2_with fail
          (with_reducible refine (HWk.out _ HX.out).mono ?_)
          rintro e w9 ⟨rfl, hx9⟩
          have HX9 := Lib.hid (HX.out.trans hx9)
          clear hx9
          go_wp2_with fail
          go_ret
          exact ⟨rfl, HX9.out⟩
        | true =>
          go_wp2_with fail
          (with_reducible refine (HGB.out _ HX1.out).mono ?_)
          rintro e w2 ⟨rfl, hx⟩
          have HX := Lib.hid (HX1.out.trans hx)
          clear hx HX1 HGB
          by_cases hsum : 100 ≤ A.length + B.length
          · have ts : (100 : Int) ≤ (A.length : Int) + (B.length : Int) := by omega
            go_wp2_with fail
            (with_reducible refine (HWk.out _ HX.out).mono ?_)
            rintro e w9 ⟨rfl, hx9⟩
            have HX9 := Lib.hid (HX.out.trans hx9)
            clear hx9
            go_wp2_with fail
            go_ret
            exact ⟨rfl, HX9.out⟩
          · have ts : ¬ (100 : Int) ≤ (A.length : Int) + (B.length : Int) := by omega
            have H1 := Lib.hid (OwnP.of_form (w := w2.alloc (.cells #[.int .i64 1, .int .i64 3, .int .i64 2, .string ByteArray.empty] 27)) (base := w2.heap.size) (T := 27) (l := [celC ⟨1, 3, 2, ByteArray.empty⟩]) (cap := 1) (cur := #[.int .i64 1, .int .i64 3, .int .i64 2, .string ByteArray.empty]) (celC_rows [⟨1, 3, 2, ByteArray.empty⟩]) (Nat.le_refl _) (heap_alloc_new _ _) (Nat.le_refl _) (by unfold maxLen; omega) rfl rfl)
            have HXa := Lib.hid (HX.out.trans (Ext.alloc w2 (.cells #[.int .i64 1, .int .i64 3, .int .i64 2, .string ByteArray.empty] 27)))
            go_upto_region 3 with fail
            go_wp2_with (refine wpList_append_rows ECel (by rfl) _ _ (by rfl) w2.heap.size (.slice (some ⟨w2.heap.size, 0, none⟩) 1 1) (.slice qa A.length ca) [celC ⟨1, 3, 2, ByteArray.empty⟩] (A.map celC) (by rfl) H1.out (by rfl) (RowsP.ext HA.out HXa.out) (by simp; unfold maxLen; omega) (by simp; omega) (by simp) ?_)
            intro v3 w3 ho3 hg3 hb3 _
            have hx3 : Ext w2 w3 := Below.grown (Below.alloc (Ext.refl w2) (Nat.le_refl _) _) hg3 (by simp) (fun b hb => (H1.out.own b hb).1)
            obtain ⟨q3, c3, hv3, -, -⟩ := ho3.len
            obtain rfl : v3 = .slice q3 (A.length + 1) c3 := by simpa using hv3
            replace ho3 : OwnP w3 w2.heap.size 27 (.slice q3 (A.length + 1) c3) 4 (((⟨1, 3, 2, ByteArray.empty⟩ : Cl) :: A).map celC) := by simpa using ho3
            have HO3 := Lib.hid ho3
            have HX3 := Lib.hid (HX.out.trans hx3)
            have hs3 := Below.size hx3
            clear ho3 hg3 hb3 hx3 H1 HXa
            go_wp2_with (refine wpList_append_rows ECel (by rfl) _ _ (by rfl) w2.heap.size (.slice q3 (A.length + 1) c3) (.slice qb B.length cb) (((⟨1, 3, 2, ByteArray.empty⟩ : Cl) :: A).map celC) (B.map celC) (by rfl) HO3.out (by rfl) (RowsP.ext HB.out HX3.out) (by simp; unfold maxLen; omega) (by simp; omega) (by omega) ?_)
            intro v4 w4 ho4 hg4 hb4 _
            have hx4 : Below w2.heap.size w3 w4 := Below.grown (Below.refl _ _) hg4 hs3 (fun b hb => (HO3.out.own b (own_any hb)).1)
            replace ho4 : OwnP w4 w2.heap.size 27 v4 4 ((pairM A B).map celC) := by unfold pairM; simpa using ho4
            have hpl : (pairM A B).length = A.length + B.length + 1 := by simp [pairM]
            obtain ⟨q4, c4, hv4, hc4, hm4⟩ := ho4.len
            rw [List.length_map, hpl] at hv4 hc4
            subst hv4
            have HX4 := Lib.hid (show Ext w w4 from Below.trans HX3.out (Below.mono hx4 (Below.size HX.out)))
            have HM4 := Lib.hid (show MsgP w4 (.slice q4 (A.length + B.length + 1) c4) (pairM A B) from ho4.p)
            have HO4 := Lib.hid ho4
            obtain ⟨g4, rfl, -, -, -⟩ := ho4.cell (i := 0) (f := 0) (cs := celC ⟨1, 3, 2, ByteArray.empty⟩) (u := .int .i64 1) rfl rfl
            have hP := pair_good HGAe.out HGBe.out (by omega)
            have hsa := goodM_sum HGAe.out
            have hsb := goodM_sum HGBe.out
            have hlA := (goodM_len HGAe.out).1
            have HG4 := Lib.hid (fun W (e : Ext w4 W) => by have h := good_msg (HM4.out.ext e); rw [hP] at h; exact h)
            have HW4 := Lib.hid (fun W (e : Ext w4 W) => by have h := words_msg (HM4.out.ext e) hP; rw [pair_words, show ((3 + wsum A + wsum B : Nat) : Int) = 3 + (wsum A : Int) + (wsum B : Int) by omega] at h; exact h)
            have HWA := Lib.hid (fun W (e : Ext w W) => words_msg (HA.out.ext e) HGAe.out)
            have HWB := Lib.hid (fun W (e : Ext w W) => words_msg (HB.out.ext e) HGBe.out)
            clear ho4 hg4 hb4 hx4 HO3 HX3 hP HX
            go_wp2_with fail
            (with_reducible refine (HG4.out _ (Ext.refl _)).mono ?_)
            rintro e w5 ⟨rfl, hx⟩
            have H5 := Lib.hid hx
            clear hx
            go_wp2_with fail
            (with_reducible refine (HW4.out _ H5.out).mono ?_)
            rintro e w6 ⟨rfl, hx⟩
            have H6 := Lib.hid (H5.out.trans hx)
            clear hx H5
            go_wp2_with fail
            (with_reducible refine (HWA.out _ (HX4.out.trans H6.out)).mono ?_)
            rintro e w7 ⟨rfl, hx⟩
            have H7 := Lib.hid (H6.out.trans hx)
            clear hx H6
            go_wp2_with fail
            (with_reducible refine (HWB.out _ (HX4.out.trans H7.out)).mono ?_)
            rintro e w8 ⟨rfl, hx⟩
            have H8 := Lib.hid (H7.out.trans hx)
            clear hx H7
            have hk1 : ∀ W, (Instr.slice 23 (.slice (some ⟨g4, 0, none⟩) (A.length + B.length + 1) c4) none (some (.int .i64 ((A.length : Int) + (B.length : Int)))) none).run Tryd.prog W = .ok (.slice (some ⟨g4, 0, none⟩) (A.length + B.length) c4) W := fun W => by
              have := run_take ECel W (some ⟨g4, 0, none⟩) (A.length + B.length + 1) c4 (A.length + B.length) (by omega) hm4
              rwa [Int.natCast_add] at this
            have hk2 : ∀ W, (Instr.slice 23 (.slice (some ⟨g4, 0, none⟩) (A.length + B.length + 1) c4) (some (.int .i64 1)) none none).run Tryd.prog W = .ok (.slice (some ⟨g4, 4, none⟩) (A.length + B.length) (c4 - 1)) W := fun W => by
              have := run_drop1 ECel W g4 0 (A.length + B.length + 1) c4 (by omega) hc4 (by omega)
              rwa [Nat.zero_add, Nat.add_sub_cancel] at this
            have htk : ∀ W, Ext w4 W → MsgP W (.slice (some ⟨g4, 0, none⟩) (A.length + B.length) c4) ((pairM A B).take ((pairM A B).length - 1)) := fun W e => by
              have h := (HO4.out.ext e).take (k := A.length + B.length) (by rw [List.length_map, hpl]; omega)
              rw [hpl, Nat.add_sub_cancel]
              have := h.p
              rwa [← List.map_take] at this
            have hdr : ∀ W, Ext w4 W → MsgP W (.slice (some ⟨g4, 4, none⟩) (A.length + B.length) (c4 - 1)) (A ++ B) := fun W e => by
              have h := ((HO4.out.ext e).p).drop1 (by omega)
              rw [Nat.zero_add, Nat.add_sub_cancel, ← List.map_drop] at h
              exact h
            have HTK := Lib.hid (fun W (e : Ext w4 W) => by have h := good_msg (htk W e); rw [pair_short HGAe.out HGBe.out (by omega)] at h; exact h)
            have HDR := Lib.hid (fun W (e : Ext w4 W) => by have h := good_msg (hdr W e); rw [pair_tail HGAe.out HGBe.out (by omega)] at h; exact h)
            have HNL := Lib.hid (fun W => good_msg (w := W) (v := .slice none 0 0) (M := []) (RowsP.nil _ _))
            clear htk hdr
            go_wp2_with fail
            (with_reducible refine (HTK.out _ H8.out).mono ?_)
            rintro e w9 ⟨rfl, hx⟩
            have H9 := Lib.hid (H8.out.trans hx)
            clear hx H8 hk1
            go_wp2_with fail
            (with_reducible refine (HDR.out _ H9.out).mono ?_)
            rintro e w10 ⟨rfl, hx⟩
            have H10 := Lib.hid (H9.out.trans hx)
            clear hx H9 hk2
            go_wp2_with fail
            (with_reducible refine (HNL.out _).mono ?_)
            rintro e w11 ⟨rfl, hx⟩
            have H11 := Lib.hid (H10.out.trans hx)
            clear hx H10
            rw [show goodM [] = false from rfl]
            by_cases h99 : 100 ≤ A.length + B.length + 1
            · have t9 : (100 : Int) ≤ (A.length : Int) + (B.length : Int) + 1 := by omega
              have HX := Lib.hid (HX4.out.trans H11.out)
              go_wp2_with fail
              (with_reducible refine (HWk.out _ HX.out).mono ?_)
              rintro e w9 ⟨rfl, hx9⟩
              have HX9 := Lib.hid (HX.out.trans hx9)
              clear hx9
              go_wp2_with fail
              go_ret
              exact ⟨rfl, HX9.out⟩
            · have t9 : ¬ (100 : Int) ≤ (A.length : Int) + (B.length : Int) + 1 := by omega
              have HE0 := Lib.hid (Ext.alloc w11 (.cells #[] 27))
              have t9' : decide ((100 : Int) ≤ (A.length : Int) + (B.length : Int) + 1) = false := decide_eq_false t9
              go_wp2_with (refine wpList_append_guard ECel _ _ (by rfl) (by simp [Region.wanted, yielded]) w11.heap.size (.slice (some ⟨w11.heap.size, 0, none⟩) 0 0) (.slice (some ⟨g4, 0, none⟩) (A.length + B.length + 1) c4) [] ((pairM A B).map celC) (by rfl) (own_empty w11 _) (by rfl) (RowsP.ext HM4.out (H11.out.trans HE0.out)) (by simp [hpl]; unfold maxLen; omega) (by simp [hpl]; omega) (by simp) ?_)
              intro v12 w12 ho12 hg12 hb12
              have hx12 : Ext w11 w12 := Below.grown (Below.alloc (Ext.refl w11) (Nat.le_refl _) _) hg12 (by simp) (fun b hb => by simp [Value.ownBlock] at hb; omega)
              replace ho12 : OwnP w12 w11.heap.size 27 v12 4 ((pairM A B).map celC) := by simpa using ho12
              obtain ⟨q12, c12, hv12, -, -⟩ := ho12.len
              rw [List.length_map, hpl] at hv12
              subst hv12
              have HO12 := Lib.hid ho12; have HX12 := Lib.hid hx12
              have hs12 := Below.size hx12
              have HE12 := Lib.hid (Ext.alloc w12 (.cells #[.int .i64 0, .int .i64 0, .int .i64 0, .string ByteArray.empty] 27))
              clear ho12 hg12 hb12 hx12
              go_wp2_with (refine wpList_append_guard ECel _ _ (by rfl) (by simp [Region.wanted, yielded]) w11.heap.size (.slice q12 (A.length + B.length + 1) c12) (.slice (some ⟨w12.heap.size, 0, none⟩) 1 1) ((pairM A B).map celC) [celC ⟨0, 0, 0, ByteArray.empty⟩] (by rfl) (HO12.out.ext HE12.out) (by rfl) (rows_of_block (cs := #[.int .i64 0, .int .i64 0, .int .i64 0, .string ByteArray.empty]) (heap_alloc_new _ _) rfl (by intro u hu; simp at hu; rcases hu with rfl | rfl <;> rfl)) (by simp [hpl]; unfold maxLen; omega) (by simp [hpl]; omega) (by simp; omega) ?_)
              intro v13 w13 ho13 hg13 hb13
              have hx13 : Below w11.heap.size w12 w13 := Below.grown (Below.alloc (Below.refl _ _) hs12 _) hg13 (by simp; omega) (fun b hb => (HO12.out.own b hb).1)
              replace ho13 : OwnP w13 w11.heap.size 27 v13 4 ((pairM A B ++ [(⟨0, 0, 0, ByteArray.empty⟩ : Cl)]).map celC) := by rw [List.map_append]; first | exact ho13 | simpa using ho13
              obtain ⟨q13, c13, hv13, -, -⟩ := ho13.len
              obtain rfl : v13 = .slice q13 (A.length + B.length + 1 + 1) c13 := by rw [hv13, List.length_map, List.length_append, hpl]; rfl
              have HGm := good_msg (w := w13) (v := .slice q13 (A.length + B.length + 1 + 1) c13) (M := pairM A B ++ [(⟨0, 0, 0, ByteArray.empty⟩ : Cl)]) ho13.p
              rw [pair_more HGAe.out HGBe.out] at HGm
              have HGm := Lib.hid HGm
              have HXf := Lib.hid (show Ext w w13 from Below.trans (HX4.out.trans (H11.out.trans HX12.out)) (Below.mono hx13 (by have := Below.size HX4.out; have := Below.size H11.out; omega)))
              clear ho13 hg13 hb13 hx13 HE0 HE12 hv13
              go_wp2_with fail
              (with_reducible refine HGm.out.mono ?_)
              rintro e w14 ⟨rfl, hx⟩
              have HX := Lib.hid (HXf.out.trans hx)
              clear hx
              go_wp2_with fail
              (with_reducible refine (HWk.out _ HX.out).mono ?_)
              rintro e w9 ⟨rfl, hx9⟩
              have HX9 := Lib.hid (HX.out.trans hx9)
              clear hx9
              go_wp2_with fail
              go_ret
              exact ⟨rfl, HX9.out⟩
end Go.Proofs.YtppkgfcobnknfaaDoor
/- A row of rows among the arguments: general. -/
namespace Go.Proofs.YtppkgfcobnknfaaDoor
open Go Go.ChangeShapes Go.WideShapes Go.ChangeAt Go.RowKit Go.Deep
set_option maxHeartbeats 4000000
set_option maxRecDepth 100000
theorem flat_inv {s : Nat} (hs : 1 ≤ s) : ∀ (l : List (List Value)), (∀ cs ∈ l, cs.length = s) → ∀ (j : Nat) (u : Value), l.flatten[j]? = some u → ∃ i f cs, j = i * s + f ∧ l[i]? = some cs ∧ cs[f]? = some u
  | [], _, j, u, h => by simp at h
  | c :: l, hl, j, u, h => by
    have hc := hl c (.head _)
    rw [List.flatten_cons] at h
    by_cases hj : j < s
    · rw [List.getElem?_append_left (by omega)] at h
      exact ⟨0, j, c, by omega, rfl, h⟩
    · rw [List.getElem?_append_right (by omega), hc] at h
      obtain ⟨i, f, cs, h1, h2, h3⟩ := flat_inv hs l (fun cs hm => hl cs (.tail _ hm)) (j - s) u h
      exact ⟨i + 1, f, cs, by rw [Nat.add_mul]; omega, h2, h3⟩
theorem rows_p {w : World} {v : Value} {s : Nat} {l : List (List Value)} (hs : 1 ≤ s) (h : RowsSl w v s l) (h1 : Rows1 s l) (hn : l ≠ []) : RowsP w v s l := by
  obtain ⟨q, c, rfl, h2, h3, h4⟩ := h
  refine ⟨h1, .inr ?_⟩
  obtain ⟨cs0, hcs0⟩ : ∃ cs, l[0]? = some cs := by cases l with | nil => exact absurd rfl hn | cons a l => exact ⟨a, rfl⟩
  obtain ⟨_, b, off, rfl, _⟩ := h4 0 cs0 hcs0
  refine ⟨b, off, c, rfl, h2, h3, fun j u hu => ?_⟩
  obtain ⟨i, f, cs, rfl, hi, hf⟩ := flat_inv hs l (fun cs hm => (h1 cs hm).1) j u hu
  obtain ⟨_, b', off', e, hc⟩ := h4 i cs hi
  obtain ⟨rfl, rfl, _⟩ := Addr.mk.inj (Option.some.inj e)
  rw [← Nat.add_assoc]
  exact hc f u hf
/-- one cell that reads as a slice -/
theorem rows_cell {H : Type} {enc : TypeId × Value → H} {P : Program} {w : World} {t e : TypeId} {s : Nat} {cs : List Value} (ht : P.underlying t = some (.slice e)) (hs : P.cellsOf e = s) (h1 : 1 ≤ s)
    (h : ReadsAs enc P w t cs) : ∃ v l, cs = [v] ∧ RowsSl w v s l ∧ (l = [] → EmptyV v) ∧ ∀ cs ∈ l, ReadsAs enc P w e cs := by
  obtain ⟨fuel, x, hf⟩ := h
  rcases open_slice ht hf with ⟨hcs, _⟩ | ⟨a, len, cap, m, n, D, Pl, hcs, _, hlc, hcm, hm, _, hel⟩
  · exact ⟨_, [], hcs, ⟨none, 0, rfl, Nat.le_refl _, Nat.zero_le _, fun i cs h => by simp at h⟩, fun _ => .inl rfl, fun cs h => by cases h⟩
  · simp only [if_true] at hm
    rw [hs] at hel
    rw [hm] at hel
    obtain ⟨V, hV⟩ := choose_lt (n := cap) (p := fun i cs => w.cells? 0 (a.add (i * s)) s = some cs ∧ DataW.trod enc P w 0 (fun _ => true) true n e cs = some (D i, Pl i)) (fun i hi => hel i hi)
    have hl : ((List.range len).map V).length = len := by simp
    refine ⟨_, (List.range len).map V, hcs, ⟨some a, cap, by rw [hl], by rw [hl]; exact hlc, hcm, fun i cs hi => ?_⟩, fun he => ?_, fun cs hcs => ?_⟩
    · have hil : i < len := by have := (List.getElem?_eq_some_iff.1 hi).1; simpa using this
      have hcs : V i = cs := by simpa [hil] using hi
      subst hcs
      obtain ⟨_, hlen, hcell⟩ := World.cells?_some (hV i (by omega)).1
      obtain ⟨_, hlen0, hcell0⟩ := World.cells?_some (hV 0 (by omega)).1
      have hc0 := hcell0 0 (by omega)
      rw [List.getElem?_eq_getElem (by omega : 0 < (V 0).length), Go.Deep.add_add] at hc0
      obtain ⟨b, off, spot⟩ := a
      have hspot : spot = none := by simpa [Addr.add] using World.cell?_spot hc0
      subst hspot
      refine ⟨hlen, b, off, rfl, fun f u hu => ?_⟩
      have hfl : f < s := by rw [← hlen]; exact (List.getElem?_eq_some_iff.1 hu).1
      have := hcell f hfl
      rw [Go.Deep.add_add, add_plain, hu] at this
      rw [Nat.add_assoc]
      exact this
    · have h0 : len = 0 := by have := congrArg List.length he; simpa using this
      subst h0
      exact .inr ⟨a, cap, rfl, hcm⟩
    · obtain ⟨i, hi, rfl⟩ := List.mem_map.1 hcs
      have hil := List.mem_range.1 hi
      exact ⟨n, _, (hV i (by omega)).2⟩
/-- rows whose cells are all of a form -/
theorem choose_form {α : Type} [Inhabited α] (f : α → List Value) : ∀ (l : List (List Value)), (∀ cs ∈ l, ∃ x, cs = f x) → ∃ M : List α, l = M.map f
  | [], _ => ⟨[], rfl⟩
  | c :: l, h => by
    obtain ⟨x, rfl⟩ := h c (.head _)
    obtain ⟨M, rfl⟩ := choose_form f l (fun cs hm => h cs (.tail _ hm))
    exact ⟨x :: M, rfl⟩
end Go.Proofs.YtppkgfcobnknfaaDoor
/- A message, forms among the arguments. -/
namespace Go.Proofs.YtppkgfcobnknfaaDoor
open Go Go.ChangeShapes Go.WideShapes Go.ChangeAt Go.RowKit Go.Deep
set_option maxHeartbeats 4000000
set_option maxRecDepth 100000
theorem cl_reads {H : Type} {enc : TypeId × Value → H} {w : World} {cs : List Value} (h : ReadsAs enc Tryd.prog w 27 cs) : ∃ x : Cl, cs = celC x := by
  obtain ⟨n, y, h⟩ := h
  obtain ⟨xs, k, rfl, _, hlen, hxl, hf⟩ := DataW.trod_struct Tryd.underlying27 h
  have hc : Tryd.prog.cellsOf 27 = 4 := by kernel_rfl
  rw [hc] at hlen
  match cs, hlen, xs, hxl with
  | [v0, v1, v2, v3], _, [y0, y1, y2, y3], _ =>
    have g0 := hf 0 _ rfl
    have g1 := hf 1 _ rfl
    have g2 := hf 2 _ rfl
    have g3 := hf 3 _ rfl
    have ci : Tryd.prog.cellsOf 3 = 1 := by kernel_rfl
    have ci6 : Tryd.prog.cellsOf 2 = 1 := by kernel_rfl
    have cs1 : Tryd.prog.cellsOf 9 = 1 := by kernel_rfl
    simp [ci, ci6, cs1] at g0 g1 g2 g3
    obtain ⟨a0, e0, _, w0⟩ := DataW.trod_int Tryd.underlying3 g0
    obtain ⟨a1, e1, _, w1⟩ := DataW.trod_int Tryd.underlying3 g1
    obtain ⟨a2, e2, _, w2⟩ := DataW.trod_int Tryd.underlying2 g2
    obtain ⟨a3, e3, _, w3⟩ := DataW.trod_string Tryd.underlying9 g3
    simp at e0 e1 e2 e3
    subst e0; subst e1; subst e2; subst e3
    exact ⟨⟨a0, a1, a2, a3⟩, rfl⟩
theorem choose_fm {α : Type} (f : α → List Value) : ∀ (l : List (List Value)), (∀ cs ∈ l, ∃ x, cs = f x) → ∃ M : List α, l = M.map f
  | [], _ => ⟨[], rfl⟩
  | c :: l, h => by
    obtain ⟨x, rfl⟩ := h c (.head _)
    obtain ⟨M, rfl⟩ := choose_fm f l (fun cs hm => h cs (.tail _ hm))
    exact ⟨x :: M, rfl⟩
theorem cel_rows (M : List Cl) : Rows1 4 (M.map celC) := by
  intro l hl
  obtain ⟨x, _, rfl⟩ := List.mem_map.1 hl
  refine ⟨rfl, fun u hu => ?_⟩
  simp [celC] at hu
  rcases hu with rfl | rfl | rfl | rfl <;> rfl
theorem msg_cell {H : Type} {enc : TypeId × Value → H} {w : World} {cs : List Value} (h : ReadsAs enc Tryd.prog w 23 cs) : ∃ v M, cs = [v] ∧ MsgP w v M := by
  obtain ⟨v, l, rfl, hr, he, hl⟩ := rows_cell Tryd.underlying23 (show Tryd.prog.cellsOf 27 = 4 by kernel_rfl) (by omega) h
  obtain ⟨M, rfl⟩ := choose_fm celC l (fun cs hm => cl_reads (hl cs hm))
  refine ⟨v, M, rfl, ?_⟩
  cases M with
  | nil => exact ⟨Rows1.nil 4, .inl ⟨he rfl, rfl⟩⟩
  | cons x M => exact rows_p (by omega) hr (cel_rows _) (by simp)
theorem open_msg {H : Type} {enc : TypeId × Value → H} {W : World} {v : Value} {d : DataW H} {ps : List MemPlace} {base : Nat} (hval : Value.okWide Tryd.prog W .any base 23 v) (h : DataW.Trod enc Tryd.prog W 0 (fun _ => true) true 23 v d ps) : ∃ M, MsgP W v M := by
  obtain ⟨a0, len, cap, rfl⟩ := okWide_slice Tryd.underlying23 hval
  obtain ⟨fuel, hf⟩ := h
  obtain ⟨v', M, hv, hm⟩ := msg_cell ⟨fuel, _, hf⟩
  simp only [Value.cells, List.cons.injEq, and_true] at hv
  subst hv
  exact ⟨M, hm⟩
end Go.Proofs.YtppkgfcobnknfaaDoor
/- DataPairs: the walk, as the law's last text calls it. -/
namespace Go.Proofs.YtppkgfcobnknfaaDoor
open Go.RowKit
theorem pairs_walk' {w : World} {va vb : Value} {A B : List Cl} (ha : MsgP w va A) (hb : MsgP w vb B) (hO : OpLie w) : Calls Tryd.prog 3 #[va, vb] w (True10 w) := pairs_walk ha hb hO
end Go.Proofs.YtppkgfcobnknfaaDoor
