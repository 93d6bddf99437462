/- Proved here: the contracts and laws of DatXA, CodD, DatXC, RowIn, DatIn, DatJn of this claim, each beneath its own remark; conditions: those that each theorem names. -/
import Derived.Test.YtppkgfcobnknfaaDoorM10
import Derived.Test.YtppkgfcobnknfaaDoorM4
import Derived.Test.YtppkgfcobnknfaaDoorM1
import Derived.Test.YtppkgfcobnknfaaDoorM8
import Derived.Deep.QuietTactic
/- DataPairs: the walk. -/
namespace Go.Proofs.YtppkgfcobnknfaaDoor
open Go.RowKit Go.Maps Arena
set_option maxHeartbeats 8000000
set_option maxRecDepth 100000
/-- append, at a guarded operation that is wanted -/
theorem wpList_append_guard {P : Program} {ST T : TypeId} {s bytes : Nat} (E : ElemT P ST T s bytes) {w : World} {ops : Array Oper} {rest : List Oper} {o : Oper} {a : Act} {Q : Exit → Act → World → Prop} (so xo : Operand)
    (ho : o.op = .call { callee := .builtin .append, args := #[so, xo], argTypes := #[ST, ST] }) (hwant : Region.wanted o (yielded ops a.tmps) = true)
    (base : Nat) (v u : Value) (R L : List (List Value)) (hs : a.eval so = v) (hown : OwnP w base T v s R) (hx : a.eval xo = u) (hu : RowsP w u s L)
    (h63 : R.length + L.length ≤ maxLen) (hbytes : (R.length + L.length) * bytes ≤ 140737488355328) (hbase : base ≤ w.heap.size)
    (h : ∀ v' w', OwnP w' base T v' s (R ++ L) → w.grownBy w' v.ownBlock → (v'.ownBlock = v.ownBlock ∨ v'.ownBlock = some w.heap.size) → wpList P ops Q rest (a.put o.dst v') w') :
    wpList P ops Q (o :: rest) a w := by
  obtain ⟨v', w', hr, h2, h3, h4, h5⟩ := run_append_rows E base o.type hown hu h63 hbytes hbase
  refine wpList_step fun K hK => ?_
  rw [if_pos hwant]
  unfold Oper.wp execOp
  simp only [ho, resolve, invoke, builtin, Sem.run_bind, Sem.run_pure, Result.andThen_ok, List.map_toArray, List.map_cons, List.map_nil, hs, hx, hr]
  exact hK _ _ (h v' w' h2 h3 h4)
/-- it is true, and nothing that was there has turned -/
def True10 (w : World) (e : Ending) (w' : World) : Prop := e = .returned (.bool true) ∧ Ext w w'
theorem large_same {w : World} {v : Value} {M : List Cl} (h : MsgP w v M) : Calls Tryd.prog 5 #[v] w fun e w' => ∃ b, e = .returned (.bool b) ∧ (b = false → M.length ≤ 3000) ∧ w = w' :=
  (large_msg h).mono fun _ _ ⟨b, h1, h2, h3⟩ => ⟨b, h1, h2, h3.symm⟩
theorem pairs_walk {w : World} {va vb : Value} {A B : List Cl} (ha : MsgP w va A) (hb : MsgP w vb B) (hO : OpLie w) : Calls Tryd.prog 3 #[va, vb] w (True10 w) := by
  have HA := Lib.hid ha; have HB := Lib.hid hb; have HO := Lib.hid hO
  obtain ⟨qa, ca, rfl, ha1, ha2, -⟩ := RowsP.at ha
  obtain ⟨qb, cb, rfl, hb1, hb2, -⟩ := RowsP.at hb
  rw [List.length_map] at ha1 hb1 HA HB ⊢
  rw [List.length_map]
  have HLA := Lib.hid (large_same HA.out); have HLB := Lib.hid (large_same HB.out)
  have HGA := Lib.hid (fun W (e : Ext w W) => refgood_msg (HA.out.ext e)); have HGB := Lib.hid (fun W (e : Ext w W) => refgood_msg (HB.out.ext e))
  have HWk := Lib.hid (fun W (e : Ext w W) => wakes10 W (HO.out.ext e))
  clear ha hb hO
  go_enter Tryd.func3, Tryd.ntmps3
  go_wp2_with fail
  (with_reducible refine HLA.out.mono ?_)
  rintro e w1 ⟨b, rfl, hla, rfl⟩
  cases b with
  | true =>
    have HX := Lib.hid (Ext.refl w)
    clear hla
    go_wp2_with fail
    (with_reducible refine (HWk.out _ HX.out).mono ?_)
    rintro e w9 ⟨rfl, hx9⟩
    have HX9 := Lib.hid (HX.out.trans hx9)
    clear hx9
    go_wp2_with fail
    go_ret
    exact ⟨rfl, HX9.out⟩
  | false =>
    have hla2 := hla rfl
    clear hla
    go_wp2_with fail
    (with_reducible refine HLB.out.mono ?_)
    rintro e w1 ⟨b, rfl, hlb, rfl⟩
    cases b with
    | true =>
      have HX := Lib.hid (Ext.refl w)
      clear hlb
      go_wp2_with fail
      (with_reducible refine (HWk.out _ HX.out).mono ?_)
      rintro e w9 ⟨rfl, hx9⟩
      have HX9 := Lib.hid (HX.out.trans hx9)
      clear hx9
      go_wp2_with fail
      go_ret
      exact ⟨rfl, HX9.out⟩
    | false =>
      have hlb2 := hlb rfl
      clear hlb HLA HLB
      generalize hga : goodM A = ga at HGA
      have HGAe := Lib.hid hga
      clear hga
      cases ga with
      | false =>
        go_wp2_with fail
        (with_reducible refine (HGA.out _ (Ext.refl w)).mono ?_)
        rintro e w1 ⟨rfl, hx⟩
        have HX := Lib.hid hx
        clear hx
        go_wp2_with fail
        (with_reducible refine (HWk.out _ HX.out).mono ?_)
        rintro e w9 ⟨rfl, hx9⟩
        have HX9 := Lib.hid (HX.out.trans hx9)
        clear hx9
        go_wp2_with fail
        go_ret
        exact ⟨rfl, HX9.out⟩
      | true =>
        go_wp2_with fail
        (with_reducible refine (HGA.out _ (Ext.refl w)).mono ?_)
        rintro e w1 ⟨rfl, hx⟩
        have HX1 := Lib.hid hx
        clear hx HGA
        generalize hgb : goodM B = gb at HGB
        have HGBe := Lib.hid hgb
        clear hgb
        cases gb with
        | false =>
          go_wp2_with fail
          (with_reducible refine (HGB.out _ HX1.out).mono ?_)
          rintro e w2 ⟨rfl, hx⟩
          have HX := Lib.hid (HX1.out.trans hx)
          clear hx
          go_wp2_with fail
          (with_reducible refine (HWk.out _ HX.out).mono ?_)
          rintro e w9 ⟨rfl, hx9⟩
          have HX9 := Lib.hid (HX.out.trans hx9)
          clear hx9
          go_wp2_with fail
          go_ret
          exact ⟨rfl, HX9.out⟩
        | true =>
          go_wp2_with fail
          (with_reducible refine (HGB.out _ HX1.out).mono ?_)
          rintro e w2 ⟨rfl, hx⟩
          have HX := Lib.hid (HX1.out.trans hx)
          clear hx HX1 HGB
          by_cases hsum : 100 ≤ A.length + B.length
          · have ts : (100 : Int) ≤ (A.length : Int) + (B.length : Int) := by omega
            go_wp2_with fail
            (with_reducible refine (HWk.out _ HX.out).mono ?_)
            rintro e w9 ⟨rfl, hx9⟩
            have HX9 := Lib.hid (HX.out.trans hx9)
            clear hx9
            go_wp2_with fail
            go_ret
            exact ⟨rfl, HX9.out⟩
          · have ts : ¬ (100 : Int) ≤ (A.length : Int) + (B.length : Int) := by omega
            have H1 := Lib.hid (OwnP.of_form (w := w2.alloc (.cells #[.int .i64 1, .int .i64 3, .int .i64 2, .string ByteArray.empty] 27)) (base := w2.heap.size) (T := 27) (l := [celC ⟨1, 3, 2, ByteArray.empty⟩]) (cap := 1) (cur := #[.int .i64 1, .int .i64 3, .int .i64 2, .string ByteArray.empty]) (celC_rows [⟨1, 3, 2, ByteArray.empty⟩]) (Nat.le_refl _) (heap_alloc_new _ _) (Nat.le_refl _) (by unfold maxLen; omega) rfl rfl)
            have HXa := Lib.hid (HX.out.trans (Ext.alloc w2 (.cells #[.int .i64 1, .int .i64 3, .int .i64 2, .string ByteArray.empty] 27)))
            go_upto_region 3 with fail
            go_wp2_with (refine wpList_append_rows ECel (by rfl) _ _ (by rfl) w2.heap.size (.slice (some ⟨w2.heap.size, 0, none⟩) 1 1) (.slice qa A.length ca) [celC ⟨1, 3, 2, ByteArray.empty⟩] (A.map celC) (by rfl) H1.out (by rfl) (RowsP.ext HA.out HXa.out) (by simp; unfold maxLen; omega) (by simp; omega) (by simp) ?_)
            intro v3 w3 ho3 hg3 hb3 _
            have hx3 : Ext w2 w3 := Below.grown (Below.alloc (Ext.refl w2) (Nat.le_refl _) _) hg3 (by simp) (fun b hb => (H1.out.own b hb).1)
            obtain ⟨q3, c3, hv3, -, -⟩ := ho3.len
            obtain rfl : v3 = .slice q3 (A.length + 1) c3 := by simpa using hv3
            replace ho3 : OwnP w3 w2.heap.size 27 (.slice q3 (A.length + 1) c3) 4 (((⟨1, 3, 2, ByteArray.empty⟩ : Cl) :: A).map celC) := by simpa using ho3
            have HO3 := Lib.hid ho3
            have HX3 := Lib.hid (HX.out.trans hx3)
            have hs3 := Below.size hx3
            clear ho3 hg3 hb3 hx3 H1 HXa
            go_wp2_with (refine wpList_append_rows ECel (by rfl) _ _ (by rfl) w2.heap.size (.slice q3 (A.length + 1) c3) (.slice qb B.length cb) (((⟨1, 3, 2, ByteArray.empty⟩ : Cl) :: A).map celC) (B.map celC) (by rfl) HO3.out (by rfl) (RowsP.ext HB.out HX3.out) (by simp; unfold maxLen; omega) (by simp; omega) (by omega) ?_)
            intro v4 w4 ho4 hg4 hb4 _
            have hx4 : Below w2.heap.size w3 w4 := Below.grown (Below.refl _ _) hg4 hs3 (fun b hb => (HO3.out.own b (own_any hb)).1)
            replace ho4 : OwnP w4 w2.heap.size 27 v4 4 ((pairM A B).map celC) := by unfold pairM; simpa using ho4
            have hpl : (pairM A B).length = A.length + B.length + 1 := by simp [pairM]
            obtain ⟨q4, c4, hv4, hc4, hm4⟩ := ho4.len
            rw [List.length_map, hpl] at hv4 hc4
            subst hv4
            have HX4 := Lib.hid (show Ext w w4 from Below.trans HX3.out (Below.mono hx4 (Below.size HX.out)))
            have HM4 := Lib.hid (show MsgP w4 (.slice q4 (A.length + B.length + 1) c4) (pairM A B) from ho4.p)
            have HO4 := Lib.hid ho4
            obtain ⟨g4, rfl, -, -, -⟩ := ho4.cell (i := 0) (f := 0) (cs := celC ⟨1, 3, 2, ByteArray.empty⟩) (u := .int .i64 1) rfl rfl
            have hP := pair_good HGAe.out HGBe.out (by omega)
            have hsa := goodM_sum HGAe.out
            have hsb := goodM_sum HGBe.out
            have hlA := (goodM_len HGAe.out).1
            have HG4 := Lib.hid (fun W (e : Ext w4 W) => by have h := good_msg (HM4.out.ext e); rw [hP] at h; exact h)
            have HW4 := Lib.hid (fun W (e : Ext w4 W) => by have h := words_msg (HM4.out.ext e) hP; rw [pair_words, show ((3 + wsum A + wsum B : Nat) : Int) = 3 + (wsum A : Int) + (wsum B : Int) by omega] at h; exact h)
            have HWA := Lib.hid (fun W (e : Ext w W) => words_msg (HA.out.ext e) HGAe.out)
            have HWB := Lib.hid (fun W (e : Ext w W) => words_msg (HB.out.ext e) HGBe.out)
            clear ho4 hg4 hb4 hx4 HO3 HX3 hP HX
            go_wp2_with fail
            (with_reducible refine (HG4.out _ (Ext.refl _)).mono ?_)
            rintro e w5 ⟨rfl, hx⟩
            have H5 := Lib.hid hx
            clear hx
            go_wp2_with fail
            (with_reducible refine (HW4.out _ H5.out).mono ?_)
            rintro e w6 ⟨rfl, hx⟩
            have H6 := Lib.hid (H5.out.trans hx)
            clear hx H5
            go_wp2_with fail
            (with_reducible refine (HWA.out _ (HX4.out.trans H6.out)).mono ?_)
            rintro e w7 ⟨rfl, hx⟩
            have H7 := Lib.hid (H6.out.trans hx)
            clear hx H6
            go_wp2_with fail
            (with_reducible refine (HWB.out _ (HX4.out.trans H7.out)).mono ?_)
            rintro e w8 ⟨rfl, hx⟩
            have H8 := Lib.hid (H7.out.trans hx)
            clear hx H7
            have hk1 : ∀ W, (Instr.slice 23 (.slice (some ⟨g4, 0, none⟩) (A.length + B.length + 1) c4) none (some (.int .i64 ((A.length : Int) + (B.length : Int)))) none).run Tryd.prog W = .ok (.slice (some ⟨g4, 0, none⟩) (A.length + B.length) c4) W := fun W => by
              have := run_take ECel W (some ⟨g4, 0, none⟩) (A.length + B.length + 1) c4 (A.length + B.length) (by omega) hm4
              rwa [Int.natCast_add] at this
            have hk2 : ∀ W, (Instr.slice 23 (.slice (some ⟨g4, 0, none⟩) (A.length + B.length + 1) c4) (some (.int .i64 1)) none none).run Tryd.prog W = .ok (.slice (some ⟨g4, 4, none⟩) (A.length + B.length) (c4 - 1)) W := fun W => by
              have := run_drop1 ECel W g4 0 (A.length + B.length + 1) c4 (by omega) hc4 (by omega)
              rwa [Nat.zero_add, Nat.add_sub_cancel] at this
            have htk : ∀ W, Ext w4 W → MsgP W (.slice (some ⟨g4, 0, none⟩) (A.length + B.length) c4) ((pairM A B).take ((pairM A B).length - 1)) := fun W e => by
              have h := (HO4.out.ext e).take (k := A.length + B.length) (by rw [List.length_map, hpl]; omega)
              rw [hpl, Nat.add_sub_cancel]
              have := h.p
              rwa [← List.map_take] at this
            have hdr : ∀ W, Ext w4 W → MsgP W (.slice (some ⟨g4, 4, none⟩) (A.length + B.length) (c4 - 1)) (A ++ B) := fun W e => by
              have h := ((HO4.out.ext e).p).drop1 (by omega)
              rw [Nat.zero_add, Nat.add_sub_cancel, ← List.map_drop] at h
              exact h
            have HTK := Lib.hid (fun W (e : Ext w4 W) => by have h := good_msg (htk W e); rw [pair_short HGAe.out HGBe.out (by omega)] at h; exact h)
            have HDR := Lib.hid (fun W (e : Ext w4 W) => by have h := good_msg (hdr W e); rw [pair_tail HGAe.out HGBe.out (by omega)] at h; exact h)
            have HNL := Lib.hid (fun W => good_msg (w := W) (v := .slice none 0 0) (M := []) (RowsP.nil _ _))
            clear htk hdr
            go_wp2_with fail
            (with_reducible refine (HTK.out _ H8.out).mono ?_)
            rintro e w9 ⟨rfl, hx⟩
            have H9 := Lib.hid (H8.out.trans hx)
            clear hx H8 hk1
            go_wp2_with fail
            (with_reducible refine (HDR.out _ H9.out).mono ?_)
            rintro e w10 ⟨rfl, hx⟩
            have H10 := Lib.hid (H9.out.trans hx)
            clear hx H9 hk2
            go_wp2_with fail
            (with_reducible refine (HNL.out _).mono ?_)
            rintro e w11 ⟨rfl, hx⟩
            have H11 := Lib.hid (H10.out.trans hx)
            clear hx H10
            rw [show goodM [] = false from rfl]
            by_cases h99 : 100 ≤ A.length + B.length + 1
            · have t9 : (100 : Int) ≤ (A.length : Int) + (B.length : Int) + 1 := by omega
              have HX := Lib.hid (HX4.out.trans H11.out)
              go_wp2_with fail
              (with_reducible refine (HWk.out _ HX.out).mono ?_)
              rintro e w9 ⟨rfl, hx9⟩
              have HX9 := Lib.hid (HX.out.trans hx9)
              clear hx9
              go_wp2_with fail
              go_ret
              exact ⟨rfl, HX9.out⟩
            · have t9 : ¬ (100 : Int) ≤ (A.length : Int) + (B.length : Int) + 1 := by omega
              have HE0 := Lib.hid (Ext.alloc w11 (.cells #[] 27))
              have t9' : decide ((100 : Int) ≤ (A.length : Int) + (B.length : Int) + 1) = false := decide_eq_false t9
              go_wp2_with (refine wpList_append_guard ECel _ _ (by rfl) (by simp [Region.wanted, yielded]) w11.heap.size (.slice (some ⟨w11.heap.size, 0, none⟩) 0 0) (.slice (some ⟨g4, 0, none⟩) (A.length + B.length + 1) c4) [] ((pairM A B).map celC) (by rfl) (own_empty w11 _) (by rfl) (RowsP.ext HM4.out (H11.out.trans HE0.out)) (by simp [hpl]; unfold maxLen; omega) (by simp [hpl]; omega) (by simp) ?_)
              intro v12 w12 ho12 hg12 hb12
              have hx12 : Ext w11 w12 := Below.grown (Below.alloc (Ext.refl w11) (Nat.le_refl _) _) hg12 (by simp) (fun b hb => by simp [Value.ownBlock] at hb; omega)
              replace ho12 : OwnP w12 w11.heap.size 27 v12 4 ((pairM A B).map celC) := by simpa using ho12
              obtain ⟨q12, c12, hv12, -, -⟩ := ho12.len
              rw [List.length_map, hpl] at hv12
              subst hv12
              have HO12 := Lib.hid ho12; have HX12 := Lib.hid hx12
              have hs12 := Below.size hx12
              have HE12 := Lib.hid (Ext.alloc w12 (.cells #[.int .i64 0, .int .i64 0, .int .i64 0, .string ByteArray.empty] 27))
              clear ho12 hg12 hb12 hx12
              go_wp2_with (refine wpList_append_guard ECel _ _ (by rfl) (by simp [Region.wanted, yielded]) w11.heap.size (.slice q12 (A.length + B.length + 1) c12) (.slice (some ⟨w12.heap.size, 0, none⟩) 1 1) ((pairM A B).map celC) [celC ⟨0, 0, 0, ByteArray.empty⟩] (by rfl) (HO12.out.ext HE12.out) (by rfl) (rows_of_block (cs := #[.int .i64 0, .int .i64 0, .int .i64 0, .string ByteArray.empty]) (heap_alloc_new _ _) rfl (by intro u hu; simp at hu; rcases hu with rfl | rfl <;> rfl)) (by simp [hpl]; unfold maxLen; omega) (by simp [hpl]; omega) (by simp; omega) ?_)
              intro v13 w13 ho13 hg13 hb13
              have hx13 : Below w11.heap.size w12 w13 := Below.grown (Below.alloc (Below.refl _ _) hs12 _) hg13 (by simp; omega) (fun b hb => (HO12.out.own b hb).1)
              replace ho13 : OwnP w13 w11.heap.size 27 v13 4 ((pairM A B ++ [(⟨0, 0, 0, ByteArray.empty⟩ : Cl)]).map celC) := by rw [List.map_append]; first | exact ho13 | simpa using ho13
              obtain ⟨q13, c13, hv13, -, -⟩ := ho13.len
              obtain rfl : v13 = .slice q13 (A.length + B.length + 1 + 1) c13 := by rw [hv13, List.length_map, List.length_append, hpl]; rfl
              have HGm := good_msg (w := w13) (v := .slice q13 (A.length + B.length + 1 + 1) c13) (M := pairM A B ++ [(⟨0, 0, 0, ByteArray.empty⟩ : Cl)]) ho13.p
              rw [pair_more HGAe.out HGBe.out] at HGm
              have HGm := Lib.hid HGm
              have HXf := Lib.hid (show Ext w w13 from Below.trans (HX4.out.trans (H11.out.trans HX12.out)) (Below.mono hx13 (by have := Below.size HX4.out; have := Below.size H11.out; omega)))
              clear ho13 hg13 hb13 hx13 HE0 HE12 hv13
              go_wp2_with fail
              (with_reducible refine HGm.out.mono ?_)
              rintro e w14 ⟨rfl, hx⟩
              have HX := Lib.hid (HXf.out.trans hx)
              clear hx
              go_wp2_with fail
              (with_reducible refine (HWk.out _ HX.out).mono ?_)
              rintro e w9 ⟨rfl, hx9⟩
              have HX9 := Lib.hid (HX.out.trans hx9)
              clear hx9
              go_wp2_with fail
              go_ret
              exact ⟨rfl, HX9.out⟩
end Go.Proofs.YtppkgfcobnknfaaDoor
/- stockpotref07.Forms: which forms may be (the reference's). Printed by mkcodd.py. -/
namespace Go.Proofs.YtppkgfcobnknfaaDoor
open Go.RowKit
set_option maxHeartbeats 8000000
set_option maxRecDepth 100000
theorem forms_is {w : World} {v : Value} (L : List FoI) (hL : RowsP w v 4 (L.map foC)) (hM : ∀ y ∈ L, FoP w y) (hn : L.length ≤ 1000000) : Calls Tryd.prog 10 #[v] w fun e w' => e = .returned (.bool (refForms (L.map (·.f)))) ∧ Ext w w' := by
  have hgf : refForms (L.map (·.f)) = (L.all (fun f => refFo f.f L.length) && decide (L.length ≤ 40)) := by
    unfold refForms
    simp only [List.length_map, List.all_map]
    rfl
  rw [hgf]
  clear hgf
  obtain ⟨q, c, rfl, h1, h2, hc⟩ := hL.at
  rw [List.length_map] at h1 ⊢
  have HC := Lib.hid hc; have HM := Lib.hid hM
  clear hL hc hM
  unfold maxLen at h2
  generalize hN : L.length = N at *
  have HN := Lib.hid hN
  clear hN
  obtain ⟨P, hP⟩ : ∃ P : FoI → Bool, P = fun f => refFo f.f N := ⟨_, rfl⟩
  rw [← hP]
  go_enter Tryd.func10, Tryd.ntmps10
  go_wp2_with fail
  go_loopw [4] (fun i wr => ∃ j : Nat, j ≤ N ∧ i = .int .i64 j ∧ L.all P = (L.drop j).all P ∧ Ext w wr) (fun i _ => N - (Go.RowKit.intOf i).toNat)
  case atStart => exact ⟨0, by omega, rfl, rfl, Ext.refl _⟩
  case round =>
    obtain ⟨j, hj, rfl, ha, hx⟩ := hrel
    have HA := Lib.hid ha
    have HX := Lib.hid hx
    clear ha hx
    by_cases hlt : j < N
    · obtain ⟨x, hxk⟩ : ∃ x, L[j]? = some x := ⟨_, List.getElem?_eq_getElem (by rw [HN.out]; exact hlt)⟩
      have hxm := HM.out x (List.mem_of_getElem? hxk)
      obtain ⟨b, off, rfl, hcell⟩ := HC.out j (foC x) (by rw [List.getElem?_map, hxk]; rfl)
      have y0 := HX.out.cell (hcell 0 _ rfl); have y1 := HX.out.cell (hcell 1 _ rfl); have y2 := HX.out.cell (hcell 2 _ rfl); have y3 := HX.out.cell (hcell 3 _ rfl)
      rw [Nat.add_zero] at y0
      have hd := HA.out.trans (all_drop (p := P) hxk)
      rw [show P x = refFo x.f N by rw [hP]] at hd
      have HD := Lib.hid hd
      have i1 : (j : Int) < (N : Int) := by omega
      clear hcell hxk HA hd HC HM HN
      obtain ⟨⟨kd, fa, fb, cons⟩, v⟩ := x
      unfold FoP at hxm
      dsimp only at y0 y1 y2 y3 HD hxm
      obtain ⟨qx, cx, rfl, hx1, hx2, hxc⟩ := hxm.at
      rw [List.length_map] at hx1 y3
      have HXC := Lib.hid hxc
      clear hxm hxc
      unfold maxLen at hx2
      go_upto_region 6 with fail
      refine wp_alloc1 fun W hE hS b0 => ?_
      obtain ⟨x0, x1, x2, x3⟩ := cells4 b0
      have HX2 := Lib.hid (HX.out.trans hE)
      clear HX hE hS b0 y0 y1 y2 y3
      go_big_quiet (fail)
      go_upto_region 7 with fail
      refine wp_gen (fun W2 => W2.cell? ⟨wr.heap.size, 0, none⟩ = some (.int .i64 kd) ∧ W2.cell? ⟨wr.heap.size, 1, none⟩ = some (.int .i64 fa) ∧ W2.cell? ⟨wr.heap.size, 2, none⟩ = some (.int .i64 fb) ∧ W2.cell? ⟨wr.heap.size, 3, none⟩ = some (.slice qx cons.length cx) ∧ Ext w W2) ⟨x0, x1, x2, x3, by first | exact HX2.out | exact HX2.out.trans (Ext.drewN _ _)⟩ ?_
      clear x0 x1 x2 x3 HX2
      rintro W2 ⟨x0, x1, x2, x3, hx⟩
      have HX := Lib.hid hx
      clear hx
      generalize wr.heap.size = g at *
      by_cases k1 : kd = 1
      · subst k1
        by_cases ha : fa = 0
        · have ta : (fa == 0) = true := beq_iff_eq.2 ha
          by_cases hb : fb = 0
          · have tb : (fb == 0) = true := beq_iff_eq.2 hb
            by_cases hl : cons.length = 0
            · have tl : (cons.length == 0) = true := beq_iff_eq.2 hl
              have tl' : ((cons.length : Int) == 0) = true := by rw [hl]; rfl
              have hr : refFo ⟨1, fa, fb, cons⟩ N = true := by unfold refFo; simp [ha, hb, hl]
              rw [hr] at HD
              clear hr HXC ha hb hl
              go_wp2_with fail
              exact ⟨⟨j + 1, by omega, by go_num, by rw [HD.out, Bool.true_and], HX.out⟩, by simp [Go.RowKit.intOf]; omega⟩
            · have tl : (cons.length == 0) = false := beq_false_of_ne hl
              have tl' : ((cons.length : Int) == 0) = false := beq_false_of_ne (by omega)
              have hr : refFo ⟨1, fa, fb, cons⟩ N = false := by unfold refFo; simp [hl]
              rw [hr] at HD
              clear hr HXC ha hb hl
              go_wp2_with fail
              go_ret
              exact ⟨by rw [HD.out, Bool.false_and]; rfl, HX.out⟩
          · have tb : (fb == 0) = false := beq_false_of_ne hb
            have hr : refFo ⟨1, fa, fb, cons⟩ N = false := by unfold refFo; simp [hb]
            rw [hr] at HD
            clear hr HXC ha hb
            go_wp2_with fail
            go_ret
            exact ⟨by rw [HD.out, Bool.false_and]; rfl, HX.out⟩
        · have ta : (fa == 0) = false := beq_false_of_ne ha
          have hr : refFo ⟨1, fa, fb, cons⟩ N = false := by unfold refFo; simp [ha]
          rw [hr] at HD
          clear hr HXC ha
          go_wp2_with fail
          go_ret
          exact ⟨by rw [HD.out, Bool.false_and]; rfl, HX.out⟩
      by_cases k2 : kd = 2
      · subst k2
        clear k1
        by_cases ha : fa = 0
        · have ta : (fa == 0) = true := beq_iff_eq.2 ha
          by_cases hb : fb = 0
          · have tb : (fb == 0) = true := beq_iff_eq.2 hb
            by_cases hl : cons.length = 0
            · have tl : (cons.length == 0) = true := beq_iff_eq.2 hl
              have tl' : ((cons.length : Int) == 0) = true := by rw [hl]; rfl
              have hr : refFo ⟨2, fa, fb, cons⟩ N = true := by unfold refFo; simp [ha, hb, hl]
              rw [hr] at HD
              clear hr HXC ha hb hl
              go_wp2_with fail
              exact ⟨⟨j + 1, by omega, by go_num, by rw [HD.out, Bool.true_and], HX.out⟩, by simp [Go.RowKit.intOf]; omega⟩
            · have tl : (cons.length == 0) = false := beq_false_of_ne hl
              have tl' : ((cons.length : Int) == 0) = false := beq_false_of_ne (by omega)
              have hr : refFo ⟨2, fa, fb, cons⟩ N = false := by unfold refFo; simp [hl]
              rw [hr] at HD
              clear hr HXC ha hb hl
              go_wp2_with fail
              go_ret
              exact ⟨by rw [HD.out, Bool.false_and]; rfl, HX.out⟩
          · have tb : (fb == 0) = false := beq_false_of_ne hb
            have hr : refFo ⟨2, fa, fb, cons⟩ N = false := by unfold refFo; simp [hb]
            rw [hr] at HD
            clear hr HXC ha hb
            go_wp2_with fail
            go_ret
            exact ⟨by rw [HD.out, Bool.false_and]; rfl, HX.out⟩
        · have ta : (fa == 0) = false := beq_false_of_ne ha
          have hr : refFo ⟨2, fa, fb, cons⟩ N = false := by unfold refFo; simp [ha]
          rw [hr] at HD
          clear hr HXC ha
          go_wp2_with fail
          go_ret
          exact ⟨by rw [HD.out, Bool.false_and]; rfl, HX.out⟩
      by_cases k3 : kd = 3
      · subst k3
        clear k1 k2
        by_cases ha : fa = 0
        · have ta : (fa == 0) = true := beq_iff_eq.2 ha
          by_cases hb : fb = 0
          · have tb : (fb == 0) = true := beq_iff_eq.2 hb
            by_cases hl : cons.length = 0
            · have tl : (cons.length == 0) = true := beq_iff_eq.2 hl
              have tl' : ((cons.length : Int) == 0) = true := by rw [hl]; rfl
              have hr : refFo ⟨3, fa, fb, cons⟩ N = true := by unfold refFo; simp [ha, hb, hl]
              rw [hr] at HD
              clear hr HXC ha hb hl
              go_wp2_with fail
              exact ⟨⟨j + 1, by omega, by go_num, by rw [HD.out, Bool.true_and], HX.out⟩, by simp [Go.RowKit.intOf]; omega⟩
            · have tl : (cons.length == 0) = false := beq_false_of_ne hl
              have tl' : ((cons.length : Int) == 0) = false := beq_false_of_ne (by omega)
              have hr : refFo ⟨3, fa, fb, cons⟩ N = false := by unfold refFo; simp [hl]
              rw [hr] at HD
              clear hr HXC ha hb hl
              go_wp2_with fail
              go_ret
              exact ⟨by rw [HD.out, Bool.false_and]; rfl, HX.out⟩
          · have tb : (fb == 0) = false := beq_false_of_ne hb
            have hr : refFo ⟨3, fa, fb, cons⟩ N = false := by unfold refFo; simp [hb]
            rw [hr] at HD
            clear hr HXC ha hb
            go_wp2_with fail
            go_ret
            exact ⟨by rw [HD.out, Bool.false_and]; rfl, HX.out⟩
        · have ta : (fa == 0) = false := beq_false_of_ne ha
          have hr : refFo ⟨3, fa, fb, cons⟩ N = false := by unfold refFo; simp [ha]
          rw [hr] at HD
          clear hr HXC ha
          go_wp2_with fail
          go_ret
          exact ⟨by rw [HD.out, Bool.false_and]; rfl, HX.out⟩
      by_cases k4 : kd = 4
      · subst k4
        clear k1 k2 k3
        by_cases ha : fa = 0
        · have ta : (fa == 0) = true := beq_iff_eq.2 ha
          by_cases hb : fb = 0
          · have tb : (fb == 0) = true := beq_iff_eq.2 hb
            by_cases hl : cons.length = 0
            · have tl : (cons.length == 0) = true := beq_iff_eq.2 hl
              have tl' : ((cons.length : Int) == 0) = true := by rw [hl]; rfl
              have hr : refFo ⟨4, fa, fb, cons⟩ N = true := by unfold refFo; simp [ha, hb, hl]
              rw [hr] at HD
              clear hr HXC ha hb hl
              go_wp2_with fail
              exact ⟨⟨j + 1, by omega, by go_num, by rw [HD.out, Bool.true_and], HX.out⟩, by simp [Go.RowKit.intOf]; omega⟩
            · have tl : (cons.length == 0) = false := beq_false_of_ne hl
              have tl' : ((cons.length : Int) == 0) = false := beq_false_of_ne (by omega)
              have hr : refFo ⟨4, fa, fb, cons⟩ N = false := by unfold refFo; simp [hl]
              rw [hr] at HD
              clear hr HXC ha hb hl
              go_wp2_with fail
              go_ret
              exact ⟨by rw [HD.out, Bool.false_and]; rfl, HX.out⟩
          · have tb : (fb == 0) = false := beq_false_of_ne hb
            have hr : refFo ⟨4, fa, fb, cons⟩ N = false := by unfold refFo; simp [hb]
            rw [hr] at HD
            clear hr HXC ha hb
            go_wp2_with fail
            go_ret
            exact ⟨by rw [HD.out, Bool.false_and]; rfl, HX.out⟩
        · have ta : (fa == 0) = false := beq_false_of_ne ha
          have hr : refFo ⟨4, fa, fb, cons⟩ N = false := by unfold refFo; simp [ha]
          rw [hr] at HD
          clear hr HXC ha
          go_wp2_with fail
          go_ret
          exact ⟨by rw [HD.out, Bool.false_and]; rfl, HX.out⟩
      by_cases k5 : kd = 5
      · subst k5
        clear k1 k2 k3 k4
        by_cases va0 : 0 ≤ fa
        · have tva0 : decide (0 ≤ fa) = true := decide_eq_true va0
          by_cases va1 : fa < N
          · have tva1 : decide (fa < N) = true := decide_eq_true va1
            by_cases vb0 : 0 ≤ fb
            · have tvb0 : decide (0 ≤ fb) = true := decide_eq_true vb0
              by_cases vb1 : fb < N
              · have tvb1 : decide (fb < N) = true := decide_eq_true vb1
                by_cases hl : cons.length = 0
                · have tl : (cons.length == 0) = true := beq_iff_eq.2 hl
                  have tl' : ((cons.length : Int) == 0) = true := by rw [hl]; rfl
                  have hr : refFo ⟨5, fa, fb, cons⟩ N = true := by unfold refFo; simp [hl]; omega
                  rw [hr] at HD
                  clear hr HXC va0 va1 vb0 vb1 hl
                  go_upto_region 14 with fail
                  go_big_quiet (fail)
                  go_wp2_with fail
                  exact ⟨⟨j + 1, by omega, by go_num, by rw [HD.out, Bool.true_and], HX.out.trans (Ext.drewN _ _)⟩, by simp [Go.RowKit.intOf]; omega⟩
                · have tl : (cons.length == 0) = false := beq_false_of_ne hl
                  have tl' : ((cons.length : Int) == 0) = false := beq_false_of_ne (by omega)
                  have hr : refFo ⟨5, fa, fb, cons⟩ N = false := by unfold refFo; simp [hl]
                  rw [hr] at HD
                  clear hr HXC va0 va1 vb0 vb1 hl
                  go_upto_region 14 with fail
                  go_big_quiet (fail)
                  go_wp2_with fail
                  go_ret
                  exact ⟨by rw [HD.out, Bool.false_and]; rfl, HX.out.trans (Ext.drewN _ _)⟩
              · have tvb1 : decide (fb < N) = false := decide_eq_false vb1
                have hr : refFo ⟨5, fa, fb, cons⟩ N = false := by unfold refFo; simp; omega
                rw [hr] at HD
                clear hr HXC va0 va1 vb0 vb1
                go_upto_region 14 with fail
                go_big_quiet (fail)
                go_wp2_with fail
                go_ret
                exact ⟨by rw [HD.out, Bool.false_and]; rfl, HX.out.trans (Ext.drewN _ _)⟩
            · have tvb0 : decide (0 ≤ fb) = false := decide_eq_false vb0
              have hr : refFo ⟨5, fa, fb, cons⟩ N = false := by unfold refFo; simp; omega
              rw [hr] at HD
              clear hr HXC va0 va1 vb0
              go_upto_region 14 with fail
              go_big_quiet (fail)
              go_wp2_with fail
              go_ret
              exact ⟨by rw [HD.out, Bool.false_and]; rfl, HX.out.trans (Ext.drewN _ _)⟩
          · have tva1 : decide (fa < N) = false := decide_eq_false va1
            by_cases vb0 : 0 ≤ fb
            · have tvb0 : decide (0 ≤ fb) = true := decide_eq_true vb0
              by_cases vb1 : fb < N
              · have tvb1 : decide (fb < N) = true := decide_eq_true vb1
                have hr : refFo ⟨5, fa, fb, cons⟩ N = false := by unfold refFo; simp; omega
                rw [hr] at HD
                clear hr HXC va0 va1 vb0 vb1
                go_upto_region 14 with fail
                go_big_quiet (fail)
                go_wp2_with fail
                go_ret
                exact ⟨by rw [HD.out, Bool.false_and]; rfl, HX.out.trans (Ext.drewN _ _)⟩
              · have tvb1 : decide (fb < N) = false := decide_eq_false vb1
                have hr : refFo ⟨5, fa, fb, cons⟩ N = false := by unfold refFo; simp; omega
                rw [hr] at HD
                clear hr HXC va0 va1 vb0 vb1
                go_upto_region 14 with fail
                go_big_quiet (fail)
                go_wp2_with fail
                go_ret
                exact ⟨by rw [HD.out, Bool.false_and]; rfl, HX.out.trans (Ext.drewN _ _)⟩
            · have tvb0 : decide (0 ≤ fb) = false := decide_eq_false vb0
              have hr : refFo ⟨5, fa, fb, cons⟩ N = false := by unfold refFo; simp; omega
              rw [hr] at HD
              clear hr HXC va0 va1 vb0
              go_upto_region 14 with fail
              go_big_quiet (fail)
              go_wp2_with fail
              go_ret
              exact ⟨by rw [HD.out, Bool.false_and]; rfl, HX.out.trans (Ext.drewN _ _)⟩
        · have tva0 : decide (0 ≤ fa) = false := decide_eq_false va0
          by_cases vb0 : 0 ≤ fb
          · have tvb0 : decide (0 ≤ fb) = true := decide_eq_true vb0
            by_cases vb1 : fb < N
            · have tvb1 : decide (fb < N) = true := decide_eq_true vb1
              have hr : refFo ⟨5, fa, fb, cons⟩ N = false := by unfold refFo; simp; omega
              rw [hr] at HD
              clear hr HXC va0 vb0 vb1
              go_upto_region 14 with fail
              go_big_quiet (fail)
              go_wp2_with fail
              go_ret
              exact ⟨by rw [HD.out, Bool.false_and]; rfl, HX.out.trans (Ext.drewN _ _)⟩
            · have tvb1 : decide (fb < N) = false := decide_eq_false vb1
              have hr : refFo ⟨5, fa, fb, cons⟩ N = false := by unfold refFo; simp; omega
              rw [hr] at HD
              clear hr HXC va0 vb0 vb1
              go_upto_region 14 with fail
              go_big_quiet (fail)
              go_wp2_with fail
              go_ret
              exact ⟨by rw [HD.out, Bool.false_and]; rfl, HX.out.trans (Ext.drewN _ _)⟩
          · have tvb0 : decide (0 ≤ fb) = false := decide_eq_false vb0
            have hr : refFo ⟨5, fa, fb, cons⟩ N = false := by unfold refFo; simp; omega
            rw [hr] at HD
            clear hr HXC va0 vb0
            go_upto_region 14 with fail
            go_big_quiet (fail)
            go_wp2_with fail
            go_ret
            exact ⟨by rw [HD.out, Bool.false_and]; rfl, HX.out.trans (Ext.drewN _ _)⟩
      by_cases k6 : kd = 6
      · subst k6
        clear k1 k2 k3 k4 k5
        by_cases va0 : 0 ≤ fa
        · have tva0 : decide (0 ≤ fa) = true := decide_eq_true va0
          by_cases va1 : fa < N
          · have tva1 : decide (fa < N) = true := decide_eq_true va1
            by_cases hb : fb = 0
            · have tb : (fb == 0) = true := beq_iff_eq.2 hb
              by_cases hl : cons.length = 0
              · have tl : (cons.length == 0) = true := beq_iff_eq.2 hl
                have tl' : ((cons.length : Int) == 0) = true := by rw [hl]; rfl
                have hr : refFo ⟨6, fa, fb, cons⟩ N = true := by unfold refFo; simp [hb, hl]; omega
                rw [hr] at HD
                clear hr HXC va0 va1 hb hl
                go_wp2_with fail
                exact ⟨⟨j + 1, by omega, by go_num, by rw [HD.out, Bool.true_and], HX.out⟩, by simp [Go.RowKit.intOf]; omega⟩
              · have tl : (cons.length == 0) = false := beq_false_of_ne hl
                have tl' : ((cons.length : Int) == 0) = false := beq_false_of_ne (by omega)
                have hr : refFo ⟨6, fa, fb, cons⟩ N = false := by unfold refFo; simp [hl]
                rw [hr] at HD
                clear hr HXC va0 va1 hb hl
                go_wp2_with fail
                go_ret
                exact ⟨by rw [HD.out, Bool.false_and]; rfl, HX.out⟩
            · have tb : (fb == 0) = false := beq_false_of_ne hb
              have hr : refFo ⟨6, fa, fb, cons⟩ N = false := by unfold refFo; simp [hb]
              rw [hr] at HD
              clear hr HXC va0 va1 hb
              go_wp2_with fail
              go_ret
              exact ⟨by rw [HD.out, Bool.false_and]; rfl, HX.out⟩
          · have tva1 : decide (fa < N) = false := decide_eq_false va1
            have hr : refFo ⟨6, fa, fb, cons⟩ N = false := by unfold refFo; simp; omega
            rw [hr] at HD
            clear hr HXC va0 va1
            go_wp2_with fail
            go_ret
            exact ⟨by rw [HD.out, Bool.false_and]; rfl, HX.out⟩
        · have tva0 : decide (0 ≤ fa) = false := decide_eq_false va0
          have hr : refFo ⟨6, fa, fb, cons⟩ N = false := by unfold refFo; simp; omega
          rw [hr] at HD
          clear hr HXC va0
          go_wp2_with fail
          go_ret
          exact ⟨by rw [HD.out, Bool.false_and]; rfl, HX.out⟩
      by_cases k7 : kd = 7
      · subst k7
        clear k1 k2 k3 k4 k5 k6
        obtain ⟨Q, hQ⟩ : ∃ Q : Int → Bool, Q = fun c => decide (-1 ≤ c) && decide (c < (N : Int)) := ⟨_, rfl⟩
        have hr : refFo ⟨7, fa, fb, cons⟩ N = ((fa == 0) && (fb == 0) && ((decide (1 ≤ cons.length) && decide (cons.length ≤ 20)) && cons.all Q)) := by
          rw [hQ]
          unfold refFo
          simp [Bool.and_assoc]
          rfl
        rw [hr] at HD
        clear hr
        obtain ⟨r0, hr0⟩ : ∃ r0, (decide (1 ≤ cons.length) && decide (cons.length ≤ 20)) = r0 := ⟨_, rfl⟩
        rw [hr0] at HD
        by_cases l1 : 1 ≤ cons.length
        · have l1' : (1 : Int) ≤ cons.length := by omega
          by_cases l20 : cons.length ≤ 20
          · have l20a : (cons.length : Int) ≤ 20 := by omega
            rw [decide_eq_true l1, decide_eq_true l20] at hr0
            clear l1 l20
            go_wp2_with fail
            go_loopw [8, 9] (fun s i wx => ∃ (k : Nat) (bv : Bool), k ≤ cons.length ∧ i = .int .i64 k ∧ s = .bool bv ∧ (r0 && cons.all Q) = (bv && (cons.drop k).all Q) ∧ wx = W2) (fun _ i _ => cons.length - (Go.RowKit.intOf i).toNat)
            case atStart => exact ⟨0, _, by omega, rfl, rfl, by rw [← hr0]; rfl, by first | rfl | trivial⟩
            case round =>
              obtain ⟨k, bv, hk, rfl, rfl, hb, rfl⟩ := hrel
              have HB := Lib.hid hb
              clear hb hr0
              by_cases hlt2 : k < cons.length
              · obtain ⟨y, hyk⟩ : ∃ y, cons[k]? = some y := ⟨_, List.getElem?_eq_getElem hlt2⟩
                obtain ⟨b2, off2, rfl, hcell⟩ := HXC.out k (ncC y) (by rw [List.getElem?_map, hyk]; rfl)
                have z0 := HX.out.cell (hcell 0 _ rfl)
                rw [Nat.add_zero, Nat.mul_one] at z0
                have i2 : (k : Int) < (cons.length : Int) := by omega
                have HE := Lib.hid (all_drop (p := Q) hyk)
                clear hcell hyk HXC
                cases bv with
                | false =>
                  go_wp2_with fail
                  exact ⟨⟨k + 1, false, by omega, by go_num, rfl, by rw [HB.out]; rfl, by first | rfl | trivial⟩, by simp [Go.RowKit.intOf]; omega⟩
                | true =>
                  by_cases g1 : -1 ≤ y
                  · have u1 : decide (-1 ≤ y) = true := decide_eq_true g1
                    by_cases g2 : y < N
                    · have u2 : decide (y < (N : Int)) = true := decide_eq_true g2
                      have HQ := Lib.hid (show Q y = true by rw [hQ]; simp [g1, g2])
                      go_wp2_with fail
                      exact ⟨⟨k + 1, true, by omega, by go_num, by first | rfl | simp [g1, g2], by rw [HB.out, HE.out, HQ.out]; rfl, by first | rfl | trivial⟩, by simp [Go.RowKit.intOf]; omega⟩
                    · have u2 : decide (y < (N : Int)) = false := decide_eq_false g2
                      have HQ := Lib.hid (show Q y = false by rw [hQ]; simp [g2])
                      go_wp2_with fail
                      exact ⟨⟨k + 1, false, by omega, by go_num, by first | rfl | simp [g2], by rw [HB.out, HE.out, HQ.out]; rfl, by first | rfl | trivial⟩, by simp [Go.RowKit.intOf]; omega⟩
                  · have u1 : decide (-1 ≤ y) = false := decide_eq_false g1
                    have HQ := Lib.hid (show Q y = false by rw [hQ]; simp [g1])
                    clear g1
                    go_wp2_with fail
                    exact ⟨⟨k + 1, false, by omega, by go_num, rfl, by rw [HB.out, HE.out, HQ.out]; rfl, by first | rfl | trivial⟩, by simp [Go.RowKit.intOf]; omega⟩
              · obtain rfl : k = cons.length := by omega
                have hb : (r0 && cons.all Q) = bv := by rw [HB.out, List.drop_length]; simp
                rw [hb] at HD
                clear hb HB HXC
                by_cases ha : fa = 0
                · have ta : (fa == 0) = true := beq_iff_eq.2 ha
                  by_cases hb : fb = 0
                  · have tb : (fb == 0) = true := beq_iff_eq.2 hb
                    rw [ta, tb] at HD
                    clear ha hb
                    cases bv with
                    | true =>
                      go_wp2_with fail
                      exact ⟨⟨j + 1, by omega, by go_num, by rw [HD.out]; rfl, HX.out⟩, by simp [Go.RowKit.intOf]; omega⟩
                    | false =>
                      go_wp2_with fail
                      go_ret
                      exact ⟨by rw [HD.out]; rfl, HX.out⟩
                  · have tb : (fb == 0) = false := beq_false_of_ne hb
                    rw [ta, tb] at HD
                    clear ha hb
                    go_wp2_with fail
                    go_ret
                    exact ⟨by rw [HD.out]; rfl, HX.out⟩
                · have ta : (fa == 0) = false := beq_false_of_ne ha
                  rw [ta] at HD
                  clear ha
                  go_wp2_with fail
                  go_ret
                  exact ⟨by rw [HD.out]; rfl, HX.out⟩
          · have l20a : ¬ (cons.length : Int) ≤ 20 := by omega
            rw [decide_eq_true l1, decide_eq_false l20] at hr0
            clear l1 l20
            go_wp2_with fail
            go_loopw [8, 9] (fun s i wx => ∃ (k : Nat) (bv : Bool), k ≤ cons.length ∧ i = .int .i64 k ∧ s = .bool bv ∧ (r0 && cons.all Q) = (bv && (cons.drop k).all Q) ∧ wx = W2) (fun _ i _ => cons.length - (Go.RowKit.intOf i).toNat)
            case atStart => exact ⟨0, _, by omega, rfl, rfl, by rw [← hr0]; rfl, by first | rfl | trivial⟩
            case round =>
              obtain ⟨k, bv, hk, rfl, rfl, hb, rfl⟩ := hrel
              have HB := Lib.hid hb
              clear hb hr0
              by_cases hlt2 : k < cons.length
              · obtain ⟨y, hyk⟩ : ∃ y, cons[k]? = some y := ⟨_, List.getElem?_eq_getElem hlt2⟩
                obtain ⟨b2, off2, rfl, hcell⟩ := HXC.out k (ncC y) (by rw [List.getElem?_map, hyk]; rfl)
                have z0 := HX.out.cell (hcell 0 _ rfl)
                rw [Nat.add_zero, Nat.mul_one] at z0
                have i2 : (k : Int) < (cons.length : Int) := by omega
                have HE := Lib.hid (all_drop (p := Q) hyk)
                clear hcell hyk HXC
                cases bv with
                | false =>
                  go_wp2_with fail
                  exact ⟨⟨k + 1, false, by omega, by go_num, rfl, by rw [HB.out]; rfl, by first | rfl | trivial⟩, by simp [Go.RowKit.intOf]; omega⟩
                | true =>
                  by_cases g1 : -1 ≤ y
                  · have u1 : decide (-1 ≤ y) = true := decide_eq_true g1
                    by_cases g2 : y < N
                    · have u2 : decide (y < (N : Int)) = true := decide_eq_true g2
                      have HQ := Lib.hid (show Q y = true by rw [hQ]; simp [g1, g2])
                      go_wp2_with fail
                      exact ⟨⟨k + 1, true, by omega, by go_num, by first | rfl | simp [g1, g2], by rw [HB.out, HE.out, HQ.out]; rfl, by first | rfl | trivial⟩, by simp [Go.RowKit.intOf]; omega⟩
                    · have u2 : decide (y < (N : Int)) = false := decide_eq_false g2
                      have HQ := Lib.hid (show Q y = false by rw [hQ]; simp [g2])
                      go_wp2_with fail
                      exact ⟨⟨k + 1, false, by omega, by go_num, by first | rfl | simp [g2], by rw [HB.out, HE.out, HQ.out]; rfl, by first | rfl | trivial⟩, by simp [Go.RowKit.intOf]; omega⟩
                  · have u1 : decide (-1 ≤ y) = false := decide_eq_false g1
                    have HQ := Lib.hid (show Q y = false by rw [hQ]; simp [g1])
                    clear g1
                    go_wp2_with fail
                    exact ⟨⟨k + 1, false, by omega, by go_num, rfl, by rw [HB.out, HE.out, HQ.out]; rfl, by first | rfl | trivial⟩, by simp [Go.RowKit.intOf]; omega⟩
              · obtain rfl : k = cons.length := by omega
                have hb : (r0 && cons.all Q) = bv := by rw [HB.out, List.drop_length]; simp
                rw [hb] at HD
                clear hb HB HXC
                by_cases ha : fa = 0
                · have ta : (fa == 0) = true := beq_iff_eq.2 ha
                  by_cases hb : fb = 0
                  · have tb : (fb == 0) = true := beq_iff_eq.2 hb
                    rw [ta, tb] at HD
                    clear ha hb
                    cases bv with
                    | true =>
                      go_wp2_with fail
                      exact ⟨⟨j + 1, by omega, by go_num, by rw [HD.out]; rfl, HX.out⟩, by simp [Go.RowKit.intOf]; omega⟩
                    | false =>
                      go_wp2_with fail
                      go_ret
                      exact ⟨by rw [HD.out]; rfl, HX.out⟩
                  · have tb : (fb == 0) = false := beq_false_of_ne hb
                    rw [ta, tb] at HD
                    clear ha hb
                    go_wp2_with fail
                    go_ret
                    exact ⟨by rw [HD.out]; rfl, HX.out⟩
                · have ta : (fa == 0) = false := beq_false_of_ne ha
                  rw [ta] at HD
                  clear ha
                  go_wp2_with fail
                  go_ret
                  exact ⟨by rw [HD.out]; rfl, HX.out⟩
        · have l20 := l1
          have l1' : ¬ (1 : Int) ≤ cons.length := by omega
          rw [decide_eq_false l1] at hr0
          clear l1 l20
          go_wp2_with fail
          go_loopw [8, 9] (fun s i wx => ∃ (k : Nat) (bv : Bool), k ≤ cons.length ∧ i = .int .i64 k ∧ s = .bool bv ∧ (r0 && cons.all Q) = (bv && (cons.drop k).all Q) ∧ wx = W2) (fun _ i _ => cons.length - (Go.RowKit.intOf i).toNat)
          case atStart => exact ⟨0, _, by omega, rfl, rfl, by rw [← hr0]; rfl, by first | rfl | trivial⟩
          case round =>
            obtain ⟨k, bv, hk, rfl, rfl, hb, rfl⟩ := hrel
            have HB := Lib.hid hb
            clear hb hr0
            by_cases hlt2 : k < cons.length
            · exact absurd hlt2 (by omega)
            · obtain rfl : k = cons.length := by omega
              have hb : (r0 && cons.all Q) = bv := by rw [HB.out, List.drop_length]; simp
              rw [hb] at HD
              clear hb HB HXC
              by_cases ha : fa = 0
              · have ta : (fa == 0) = true := beq_iff_eq.2 ha
                by_cases hb : fb = 0
                · have tb : (fb == 0) = true := beq_iff_eq.2 hb
                  rw [ta, tb] at HD
                  clear ha hb
                  cases bv with
                  | true =>
                    go_wp2_with fail
                    exact ⟨⟨j + 1, by omega, by go_num, by rw [HD.out]; rfl, HX.out⟩, by simp [Go.RowKit.intOf]; omega⟩
                  | false =>
                    go_wp2_with fail
                    go_ret
                    exact ⟨by rw [HD.out]; rfl, HX.out⟩
                · have tb : (fb == 0) = false := beq_false_of_ne hb
                  rw [ta, tb] at HD
                  clear ha hb
                  go_wp2_with fail
                  go_ret
                  exact ⟨by rw [HD.out]; rfl, HX.out⟩
              · have ta : (fa == 0) = false := beq_false_of_ne ha
                rw [ta] at HD
                clear ha
                go_wp2_with fail
                go_ret
                exact ⟨by rw [HD.out]; rfl, HX.out⟩
      have hr : refFo ⟨kd, fa, fb, cons⟩ N = false := by unfold refFo; simp [k1, k2, k3, k4, k5, k6, k7]
      have e1 : (kd == 1) = false := beq_false_of_ne k1
      have e2 : (kd == 2) = false := beq_false_of_ne k2
      have e3 : (kd == 3) = false := beq_false_of_ne k3
      have e4 : (kd == 4) = false := beq_false_of_ne k4
      have e5 : (kd == 5) = false := beq_false_of_ne k5
      have e6 : (kd == 6) = false := beq_false_of_ne k6
      have e7 : (kd == 7) = false := beq_false_of_ne k7
      rw [hr] at HD
      clear hr HXC k1 k2 k3 k4 k5 k6 k7
      go_wp2_with fail
      go_ret
      exact ⟨by rw [HD.out, Bool.false_and]; rfl, HX.out⟩
    · obtain rfl : j = N := by omega
      have HD := Lib.hid (show L.all P = true by rw [HA.out, ← HN.out, List.drop_length]; rfl)
      clear HA HC HM HN
      by_cases h40 : j ≤ 40
      · have t40 : (j : Int) ≤ 40 := by omega
        have t40' : decide (j ≤ 40) = true := decide_eq_true h40
        go_wp2_with fail
        go_ret
        exact ⟨by first | (rw [HD.out, t40']; rfl) | rfl, HX.out⟩
      · have t40 : ¬ (j : Int) ≤ 40 := by omega
        have t40' : decide (j ≤ 40) = false := decide_eq_false h40
        go_wp2_with fail
        go_ret
        exact ⟨by first | (rw [HD.out, t40']; rfl) | rfl, HX.out⟩
end Go.Proofs.YtppkgfcobnknfaaDoor
/- DataFits: the walk. -/
namespace Go.Proofs.YtppkgfcobnknfaaDoor
open Go.RowKit Go.Maps Arena
set_option maxHeartbeats 8000000
set_option maxRecDepth 100000
theorem EFo : ElemT Tryd.prog 30 34 4 48 := ⟨Tryd.underlying30, ⟨.agg #[.int .i64 0, .int .i64 0, .int .i64 0, .slice none 0 0], by kernel_rfl, rfl⟩, by decide⟩
/-- the forms that are added, as they lie -/
def addX (k : Int) (b : Nat) : List FoI := [⟨⟨5, k, k, []⟩, .slice none 0 0⟩, ⟨⟨6, k, 0, []⟩, .slice none 0 0⟩, ⟨⟨7, 0, 0, [-1, k]⟩, .slice (some ⟨b, 0, none⟩) 2 2⟩]
theorem addX_f (X : List FoI) (k : Int) (b : Nat) : (X ++ addX k b).map (·.f) = X.map (·.f) ++ addF k := by rw [List.map_append]; rfl
def addC (k : Int) (b : Nat) : Array Value := #[.int .i64 5, .int .i64 k, .int .i64 k, .slice none 0 0, .int .i64 6, .int .i64 k, .int .i64 0, .slice none 0 0, .int .i64 7, .int .i64 0, .int .i64 0, .slice (some ⟨b, 0, none⟩) 2 2]
theorem addX_p {w : World} {g b : Nat} {k : Int} (h : w.heap[g]? = some (.cells (addC k b) 34 (0, 0))) : RowsP w (.slice (some ⟨g, 0, none⟩) 3 3) 4 ((addX k b).map foC) :=
  (OwnP.of_form (base := 0) (T := 34) (l := (addX k b).map foC) (cap := 3) (cur := addC k b) (by intro l hl; simp only [addX, List.map_cons, List.map_nil, List.mem_cons, List.not_mem_nil, or_false] at hl; rcases hl with rfl | rfl | rfl <;> exact ⟨rfl, by intro u hu; simp [foC] at hu; rcases hu with rfl | rfl | rfl | rfl <;> rfl⟩) (Nat.zero_le _) h (Nat.le_refl _) (by unfold maxLen; omega) rfl rfl).p
theorem addX_c {w : World} {b : Nat} {k : Int} (h : w.heap[b]? = some (.cells #[.int .i64 (-1), .int .i64 k] 3 (0, 0))) : ∀ y ∈ addX k b, FoP w y := fun y hy => by
  simp only [addX, List.mem_cons, List.not_mem_nil, or_false] at hy
  rcases hy with rfl | rfl | rfl
  · exact RowsP.nil _ _
  · exact RowsP.nil _ _
  · exact (OwnP.of_form (base := 0) (T := 3) (l := [ncC (-1), ncC k]) (cap := 2) (cur := #[.int .i64 (-1), .int .i64 k]) (by intro l hl; simp only [List.mem_cons, List.not_mem_nil, or_false] at hl; rcases hl with rfl | rfl <;> exact ⟨rfl, by intro u hu; simp [ncC] at hu; subst hu; rfl⟩) (Nat.zero_le _) h (Nat.le_refl _) (by unfold maxLen; omega) rfl rfl).p
/-- a message of one number -/
theorem num_at {w : World} {g : Nat} {n : Int} (h : w.heap[g]? = some (.cells #[.int .i64 0, .int .i64 0, .int .i64 n, .string ByteArray.empty] 27 (0, 0))) : RowsP w (.slice (some ⟨g, 0, none⟩) 1 1) 4 ([(⟨0, 0, n, ByteArray.empty⟩ : Cl)].map celC) :=
  rows_of_block (cs := #[.int .i64 0, .int .i64 0, .int .i64 n, .string ByteArray.empty]) h rfl (by intro u hu; simp at hu; rcases hu with rfl | rfl | rfl <;> rfl)
theorem fits_walk {w : World} {vf vm : Value} {X : List FoI} {M : List Cl} (hX : RowsP w vf 4 (X.map foC)) (hc : ∀ y ∈ X, FoP w y) (hm : MsgP w vm M) (k : Int) (hO : OpLie w) : Calls Tryd.prog 4 #[vf, .int .i64 k, vm] w (True10 w) := by
  have HX := Lib.hid hX; have HC := Lib.hid hc; have HM := Lib.hid hm; have HO := Lib.hid hO
  obtain ⟨qf, cf, rfl, hf1, hf2, -⟩ := RowsP.at hX
  obtain ⟨qm, cm, rfl, hm1, hm2, -⟩ := RowsP.at hm
  rw [List.length_map] at hf1 hm1 HX HM ⊢
  rw [List.length_map]
  have HLM := Lib.hid (large_same HM.out)
  have HGM := Lib.hid (fun W (e : Ext w W) => refgood_msg (HM.out.ext e))
  have HWk := Lib.hid (fun W (e : Ext w W) => wakes10 W (HO.out.ext e))
  clear hX hc hm hO
  by_cases h36 : 36 < X.length
  · have t0 : (36 : Int) < (X.length : Int) := by omega
    have HXX := Lib.hid (Ext.refl w)
    go_enter Tryd.func4, Tryd.ntmps4
    go_wp2_with fail
    (with_reducible refine (HWk.out _ HXX.out).mono ?_)
    rintro e w9 ⟨rfl, hx9⟩
    have HX9 := Lib.hid (HXX.out.trans hx9)
    clear hx9
    go_wp2_with fail
    go_ret
    exact ⟨rfl, HX9.out⟩
  have t0 : ¬ (36 : Int) < (X.length : Int) := by omega
  have HFm := Lib.hid (fun W (e : Ext w W) => forms_is X (HX.out.ext e) (fun y hy => (HC.out y hy).ext e) (by omega))
  generalize hfb : refForms (X.map (·.f)) = fb at HFm
  have HFB := Lib.hid hfb
  generalize hgm : goodM M = gm at HGM
  have HGMe := Lib.hid hgm
  clear hfb hgm
  go_enter Tryd.func4, Tryd.ntmps4
  go_wp2_with fail
  (with_reducible refine HLM.out.mono ?_)
  rintro e w1 ⟨b, rfl, hla, rfl⟩
  cases b with
  | true =>
    have HXX := Lib.hid (Ext.refl w)
    clear hla
    go_wp2_with fail
    (with_reducible refine (HWk.out _ HXX.out).mono ?_)
    rintro e w9 ⟨rfl, hx9⟩
    have HX9 := Lib.hid (HXX.out.trans hx9)
    clear hx9
    go_wp2_with fail
    go_ret
    exact ⟨rfl, HX9.out⟩
  | false =>
    clear hla
    by_cases h40 : 40 < M.length
    · have t1 : (40 : Int) < (M.length : Int) := by omega
      have HXX := Lib.hid (Ext.refl w)
      go_wp2_with fail
      (with_reducible refine (HWk.out _ HXX.out).mono ?_)
      rintro e w9 ⟨rfl, hx9⟩
      have HX9 := Lib.hid (HXX.out.trans hx9)
      clear hx9
      go_wp2_with fail
      go_ret
      exact ⟨rfl, HX9.out⟩
    have t1 : ¬ (40 : Int) < (M.length : Int) := by omega
    cases fb with
    | false =>
      go_wp2_with fail
      (with_reducible refine (HFm.out _ (Ext.refl w)).mono ?_)
      rintro e w1 ⟨rfl, hx⟩
      have HXX := Lib.hid hx
      clear hx
      go_wp2_with fail
      (with_reducible refine (HWk.out _ HXX.out).mono ?_)
      rintro e w9 ⟨rfl, hx9⟩
      have HX9 := Lib.hid (HXX.out.trans hx9)
      clear hx9
      go_wp2_with fail
      go_ret
      exact ⟨rfl, HX9.out⟩
    | true =>
      go_wp2_with fail
      (with_reducible refine (HFm.out _ (Ext.refl w)).mono ?_)
      rintro e w1 ⟨rfl, hx⟩
      have HXX := Lib.hid hx
      clear hx
      by_cases h0 : k < 0
      · have t2 : decide (k < 0) = true := decide_eq_true h0
        go_wp2_with fail
        (with_reducible refine (HWk.out _ HXX.out).mono ?_)
        rintro e w9 ⟨rfl, hx9⟩
        have HX9 := Lib.hid (HXX.out.trans hx9)
        clear hx9
        go_wp2_with fail
        go_ret
        exact ⟨rfl, HX9.out⟩
      have t2 : decide (k < 0) = false := decide_eq_false h0
      obtain ⟨n, rfl⟩ := Int.eq_ofNat_of_zero_le (show 0 ≤ k by omega)
      by_cases h1 : X.length ≤ n
      · have t3 : decide (X.length ≤ n) = true := decide_eq_true h1
        go_wp2_with fail
        (with_reducible refine (HWk.out _ HXX.out).mono ?_)
        rintro e w9 ⟨rfl, hx9⟩
        have HX9 := Lib.hid (HXX.out.trans hx9)
        clear hx9
        go_wp2_with fail
        go_ret
        exact ⟨rfl, HX9.out⟩
      have t3 : decide (X.length ≤ n) = false := decide_eq_false h1
      cases gm with
      | false =>
        go_wp2_with fail
        (with_reducible refine (HGM.out _ HXX.out).mono ?_)
        rintro e w2 ⟨rfl, hx⟩
        have HX2 := Lib.hid (HXX.out.trans hx)
        clear hx HXX
        have HXX := HX2
        clear HX2
        go_wp2_with fail
        (with_reducible refine (HWk.out _ HXX.out).mono ?_)
        rintro e w9 ⟨rfl, hx9⟩
        have HX9 := Lib.hid (HXX.out.trans hx9)
        clear hx9
        go_wp2_with fail
        go_ret
        exact ⟨rfl, HX9.out⟩
      | true =>
        go_wp2_with fail
        (with_reducible refine (HGM.out _ HXX.out).mono ?_)
        rintro e w2 ⟨rfl, hx⟩
        have HX2 := Lib.hid (HXX.out.trans hx)
        clear hx HXX HLM HFm HGM
        have hforms : formsB (X.map (·.f)) = true := by
          have h := HFB.out
          rw [refForms_is] at h
          unfold formsB
          rw [Bool.and_comm]
          exact h
        have hk : n < (X.map (·.f)).length := by rw [List.length_map]; omega
        have hl36 : (X.map (·.f)).length ≤ 36 := by rw [List.length_map]; omega
        have HFO := Lib.hid hforms; have HKL := Lib.hid hk; have HL36 := Lib.hid hl36
        clear hforms hk hl36 HFB
        go_upto_region 4 with fail
        go_wp2_with (refine wpList_append_rows EFo (by rfl) _ _ (by rfl) w2.heap.size (.slice (some ⟨w2.heap.size, 0, none⟩) 0 0) (.slice qf X.length cf) [] (X.map foC) (by rfl) (own_empty w2 _) (by rfl) (RowsP.ext HX.out (HX2.out.trans (Ext.alloc _ _))) (by simp; unfold maxLen; omega) (by simp; omega) (by simp) ?_)
        intro v3 w3 ho3 hg3 hb3 _
        have hx3 : Ext w2 w3 := Below.grown (Below.alloc (Ext.refl w2) (Nat.le_refl _) _) hg3 (by simp) (fun b hb => by simp [Value.ownBlock] at hb; omega)
        replace ho3 : OwnP w3 w2.heap.size 34 v3 4 (X.map foC) := by simpa using ho3
        obtain ⟨q3, c3, hv3, -, -⟩ := ho3.len
        rw [List.length_map] at hv3
        subst hv3
        have HO3 := Lib.hid ho3; have HX3 := Lib.hid (HX2.out.trans hx3)
        have hs3 := Below.size hx3
        have hs2 := HX2.out.size
        clear ho3 hg3 hb3 hx3 HX2
        go_wp2_with (refine wpList_append_rows EFo (by rfl) _ _ (by rfl) w2.heap.size (.slice q3 X.length c3) (.slice (some ⟨w3.heap.size + 1, 0, none⟩) 3 3) (X.map foC) ((addX n w3.heap.size).map foC) (by rfl) (HO3.out.ext (Ext.trans (Ext.alloc _ _) (Ext.alloc _ _))) (by rfl) (addX_p (new_block (by simp))) (by simp [addX]; unfold maxLen; omega) (by simp [addX]; omega) (by simp; omega) ?_)
        intro v5 w5 ho5 hg5 hb5 _
        have hn3 : (Value.slice q3 X.length c3).ownBlock ≠ some w3.heap.size := fun e => by have := (HO3.out.own _ e).2; omega
        have hx5 : Below w2.heap.size w3 w5 := Below.grown (Below.alloc (Below.alloc (Below.refl _ _) hs3 _) (by simp; omega) _) hg5 (by simp; omega) (fun b hb => (HO3.out.own b hb).1)
        have hb5i : w5.heap[w3.heap.size]? = some (.cells #[.int .i64 (-1), .int .i64 n] 3 (0, 0)) := grown_block hg5 ((Below.block (Ext.alloc _ _) w3.heap.size (by simp)).trans (heap_alloc_new _ _)) hn3
        replace ho5 : OwnP w5 w2.heap.size 34 v5 4 ((X ++ addX n w3.heap.size).map foC) := by rw [List.map_append]; exact ho5
        have hxl : (X ++ addX n w3.heap.size).length = X.length + 3 := by simp [addX]
        obtain ⟨q5, c5, hv5, -, -⟩ := ho5.len
        rw [List.length_map, hxl] at hv5
        subst hv5
        have HX5 := Lib.hid (show Ext w w5 from Below.trans HX3.out (Below.mono hx5 hs2))
        have HF5 : Hid (∀ W, Ext w5 W → ∀ (k : Int) (qm' : Option Addr) (cm' : Nat) (M' : List Cl), RowsP W (.slice qm' M'.length cm') 4 (M'.map celC) → Calls Tryd.prog 11 #[.slice q5 (X.length + 3) c5, .int .i64 k, .slice qm' M'.length cm'] W fun e w' => e = .returned (.bool (fitD (X.map (·.f) ++ addF n) k M')) ∧ Ext W w') := Lib.hid (fun W e k qm' cm' M' hm => by
          have h := fits_is (HO.out.ext (HX5.out.trans e)) (X := X ++ addX n w3.heap.size) (qf := q5) (cf := c5) (by rw [hxl]; exact ho5.p.ext e) (fun y hy => (List.mem_append.1 hy).elim (fun hy => (HC.out y hy).ext (HX5.out.trans e)) (fun hy => (addX_c hb5i y hy).ext e)) hm k
          rw [hxl, addX_f] at h
          exact h)
        have HF0 := Lib.hid (fun W (e : Ext w W) => fits_is (HO.out.ext e) (HX.out.ext e) (fun y hy => (HC.out y hy).ext e) (HM.out.ext e) n)
        have HLX : Hid ((X.map (·.f)).length = X.length) := Lib.hid (List.length_map ..)
        have HE1 := Lib.hid (fit_same HFO.out HL36.out HKL.out HGMe.out)
        have HE2 := Lib.hid (fit_two HFO.out HL36.out HKL.out HGMe.out (by omega))
        have HE3 := Lib.hid (fit_list HFO.out HL36.out HKL.out HGMe.out (by omega))
        have HE4 := Lib.hid (fit_con HFO.out HL36.out HKL.out HGMe.out (by omega))
        generalize hbb : fitD (X.map (·.f)) n M = bb at *
        have HBB := Lib.hid hbb
        clear hbb ho5 hg5 hb5 hx5 hn3 hb5i HO3 HX3 hxl
        have hs5 := HX5.out.size
        go_wp2_with fail
        (with_reducible refine (HF0.out _ HX5.out).mono ?_)
        rintro e w6 ⟨rfl, hx⟩
        have H6 := Lib.hid hx
        clear hx
        go_upto_region 6 with fail
        have H1 := Lib.hid (OwnP.of_form (w := (w6.alloc (.cells #[.int .i64 1, .int .i64 0, .int .i64 2, .string ByteArray.empty] 27))) (base := w6.heap.size) (T := 27) (l := [hd 0 2].map celC) (cap := 1) (cur := #[.int .i64 1, .int .i64 0, .int .i64 2, .string ByteArray.empty]) (celC_rows _) (Nat.le_refl _) (heap_alloc_new _ _) (Nat.le_refl _) (by unfold maxLen; omega) rfl rfl)
        have HEW := Lib.hid (Ext.alloc w6 (.cells #[.int .i64 1, .int .i64 0, .int .i64 2, .string ByteArray.empty] 27))
        go_wp2_with (refine wpList_append_rows ECel (by rfl) _ _ (by rfl) w6.heap.size (.slice (some ⟨w6.heap.size, 0, none⟩) 1 1) (.slice qm M.length cm) ([hd 0 2].map celC) (M.map celC) (by rfl) H1.out (by rfl) (RowsP.ext HM.out (HX5.out.trans (H6.out.trans HEW.out))) (by simp; unfold maxLen; omega) (by simp; omega) (by first | omega | (simp; done) | (simp; omega)) ?_)
        intro v7 w7 ho hg hb _
        have hx : Ext w6 w7 := Below.grown (Below.alloc (Ext.refl w6) (Nat.le_refl _) _) hg (by simp) (fun b hb => (H1.out.own b hb).1)
        replace ho : OwnP w7 w6.heap.size 27 v7 4 ((hd 0 2 :: M).map celC) := by simpa using ho
        obtain ⟨q7, c7, hv, -, -⟩ := ho.len
        obtain rfl : v7 = .slice q7 (M.length + 1) c7 := by rw [hv, List.length_map, List.length_cons]
        have HO7 := Lib.hid ho; have H7 := Lib.hid (H6.out.trans hx)
        have hs7 := Below.size hx
        clear ho hg hb hx H1 HEW hv
        go_wp2_with (refine wpList_append_rows ECel (by rfl) _ _ (by rfl) w6.heap.size (.slice q7 (M.length + 1) c7) (.slice qm M.length cm) ((hd 0 2 :: M).map celC) (M.map celC) (by rfl) HO7.out (by rfl) (RowsP.ext HM.out (HX5.out.trans H7.out)) (by simp; unfold maxLen; omega) (by simp; omega) (by first | omega | (simp; done) | (simp; omega)) ?_)
        intro v8 w8 ho hg hb _
        have hx : Below w6.heap.size w7 w8 := Below.grown (Below.refl _ _) hg hs7 (fun b hb => (HO7.out.own b (own_any hb)).1)
        replace ho : OwnP w8 w6.heap.size 27 v8 4 ((twoM M).map celC) := by unfold twoM; simpa using ho
        obtain ⟨q8, c8, hv, -, -⟩ := ho.len
        rw [List.length_map] at hv
        subst hv
        have hs65 := H6.out.size
        have H8 := Lib.hid (show Ext w5 w8 from Below.trans H7.out (Below.mono hx hs65))
        have HT8 := Lib.hid ho.p
        clear ho hg hb hx HO7 H7
        go_upto_region 7 with fail
        have H1 := Lib.hid (OwnP.of_form (w := (w8.alloc (.cells #[.int .i64 1, .int .i64 1, .int .i64 2, .string ByteArray.empty] 27))) (base := w8.heap.size) (T := 27) (l := [hd 1 2].map celC) (cap := 1) (cur := #[.int .i64 1, .int .i64 1, .int .i64 2, .string ByteArray.empty]) (celC_rows _) (Nat.le_refl _) (heap_alloc_new _ _) (Nat.le_refl _) (by unfold maxLen; omega) rfl rfl)
        have HEW := Lib.hid (Ext.alloc w8 (.cells #[.int .i64 1, .int .i64 1, .int .i64 2, .string ByteArray.empty] 27))
        go_wp2_with (refine wpList_append_rows ECel (by rfl) _ _ (by rfl) w8.heap.size (.slice (some ⟨w8.heap.size, 0, none⟩) 1 1) (.slice qm M.length cm) ([hd 1 2].map celC) (M.map celC) (by rfl) H1.out (by rfl) (RowsP.ext HM.out (HX5.out.trans (H8.out.trans HEW.out))) (by simp; unfold maxLen; omega) (by simp; omega) (by first | omega | (simp; done) | (simp; omega)) ?_)
        intro v9 w9 ho hg hb _
        have hx : Ext w8 w9 := Below.grown (Below.alloc (Ext.refl w8) (Nat.le_refl _) _) hg (by simp) (fun b hb => (H1.out.own b hb).1)
        replace ho : OwnP w9 w8.heap.size 27 v9 4 ((hd 1 2 :: M).map celC) := by simpa using ho
        obtain ⟨q9, c9, hv, -, -⟩ := ho.len
        obtain rfl : v9 = .slice q9 (M.length + 1) c9 := by rw [hv, List.length_map, List.length_cons]
        have HO9 := Lib.hid ho; have H9 := Lib.hid (H8.out.trans hx); have HT9 := Lib.hid (HT8.out.ext hx)
        have hs9 := Below.size hx
        have hx89 := hx
        have HX89 := Lib.hid hx89
        clear ho hg hb hx H1 HEW hv hx89
        go_wp2_with (refine wpList_append_rows ECel (by rfl) _ _ (by rfl) w8.heap.size (.slice q9 (M.length + 1) c9) (.slice (some ⟨w9.heap.size, 0, none⟩) 1 1) ((hd 1 2 :: M).map celC) ([nul].map celC) (by rfl) (HO9.out.ext (Ext.alloc _ _)) (by rfl) (num_at (heap_alloc_new _ _)) (by simp; unfold maxLen; omega) (by simp; omega) (by first | omega | (simp; done) | (simp; omega)) ?_)
        intro v10 w10 ho hg hb _
        have hx : Below w8.heap.size w9 w10 := Below.grown (Below.alloc (Below.refl _ _) hs9 _) hg (by simp; omega) (fun b hb => (HO9.out.own b (own_any hb)).1)
        replace ho : OwnP w10 w8.heap.size 27 v10 4 ((listM M).map celC) := by unfold listM; rw [List.map_cons, List.map_append]; first | exact ho | simpa using ho
        obtain ⟨q10, c10, hv, -, -⟩ := ho.len
        rw [List.length_map] at hv
        subst hv
        have hs85 := H8.out.size
        have hx810 : Ext w8 w10 := Below.trans HX89.out hx
        have H10 := Lib.hid (show Ext w5 w10 from H8.out.trans hx810)
        have HT10 := Lib.hid ho.p; have HTw10 := Lib.hid (HT8.out.ext hx810)
        clear ho hg hb hx HO9 H9 HT9 HX89 hx810 HT8
        go_upto_region 8 with fail
        have H1 := Lib.hid (OwnP.of_form (w := (w10.alloc (.cells #[.int .i64 1, .int .i64 1, .int .i64 1, .string ByteArray.empty] 27))) (base := w10.heap.size) (T := 27) (l := [hd 1 1].map celC) (cap := 1) (cur := #[.int .i64 1, .int .i64 1, .int .i64 1, .string ByteArray.empty]) (celC_rows _) (Nat.le_refl _) (heap_alloc_new _ _) (Nat.le_refl _) (by unfold maxLen; omega) rfl rfl)
        have HEW := Lib.hid (Ext.alloc w10 (.cells #[.int .i64 1, .int .i64 1, .int .i64 1, .string ByteArray.empty] 27))
        go_wp2_with (refine wpList_append_rows ECel (by rfl) _ _ (by rfl) w10.heap.size (.slice (some ⟨w10.heap.size, 0, none⟩) 1 1) (.slice qm M.length cm) ([hd 1 1].map celC) (M.map celC) (by rfl) H1.out (by rfl) (RowsP.ext HM.out (HX5.out.trans (H10.out.trans HEW.out))) (by simp; unfold maxLen; omega) (by simp; omega) (by first | omega | (simp; done) | (simp; omega)) ?_)
        intro v11 w11 ho hg hb _
        have hx : Ext w10 w11 := Below.grown (Below.alloc (Ext.refl w10) (Nat.le_refl _) _) hg (by simp) (fun b hb => (H1.out.own b hb).1)
        replace ho : OwnP w11 w10.heap.size 27 v11 4 ((conM M).map celC) := by unfold conM; simpa using ho
        obtain ⟨q11, c11, hv, -, -⟩ := ho.len
        rw [List.length_map] at hv
        subst hv
        have H11 := Lib.hid (H10.out.trans hx)
        have H11b := Lib.hid (Ext.refl w11)
        have HCon := Lib.hid ho.p; have HLst := Lib.hid (HT10.out.ext hx); have HTwo := Lib.hid (HTw10.out.ext hx)
        clear ho hg hb hx H1 HEW H10 HT10 HTw10
        go_upto_region 9 with fail
        have hcall : Calls Tryd.prog 11 #[.slice q5 (X.length + 3) c5, .int .i64 (n : Nat), .slice qm (M).length cm] w11 fun e w' => e = .returned (.bool bb) ∧ Ext w11 w' := by
          have h := HF5.out w11 H11.out (n : Nat) qm cm M (HM.out.ext (HX5.out.trans H11.out))
          have e := HE1.out
          try rw [HLX.out] at e
          rw [e] at h
          exact h
        have HCALL := Lib.hid hcall
        clear hcall
        go_wp2_with fail
        (with_reducible refine HCALL.out.mono ?_)
        rintro e w12 ⟨rfl, hx⟩
        have H12 := Lib.hid (H11.out.trans hx)
        have H12b := Lib.hid (H11b.out.trans hx)
        clear hx HCALL H11 H11b
        have hcall : Calls Tryd.prog 11 #[.slice q5 (X.length + 3) c5, .int .i64 (X.length : Nat), .slice q8 ((twoM M)).length c8] w12 fun e w' => e = .returned (.bool bb) ∧ Ext w12 w' := by
          have h := HF5.out w12 H12.out (X.length : Nat) q8 c8 (twoM M) (HTwo.out.ext H12b.out)
          have e := HE2.out
          try rw [HLX.out] at e
          rw [e] at h
          exact h
        have HCALL := Lib.hid hcall
        clear hcall
        go_wp2_with fail
        (with_reducible refine HCALL.out.mono ?_)
        rintro e w13 ⟨rfl, hx⟩
        have H13 := Lib.hid (H12.out.trans hx)
        have H13b := Lib.hid (H12b.out.trans hx)
        clear hx HCALL H12 H12b
        have hcall : Calls Tryd.prog 11 #[.slice q5 (X.length + 3) c5, .int .i64 ((X.length : Int) + 1), .slice q10 ((listM M)).length c10] w13 fun e w' => e = .returned (.bool bb) ∧ Ext w13 w' := by
          have h := HF5.out w13 H13.out ((X.length : Int) + 1) q10 c10 (listM M) (HLst.out.ext H13b.out)
          have e := HE3.out
          try rw [HLX.out] at e
          rw [e] at h
          exact h
        have HCALL := Lib.hid hcall
        clear hcall
        go_wp2_with fail
        (with_reducible refine HCALL.out.mono ?_)
        rintro e w14 ⟨rfl, hx⟩
        have H14 := Lib.hid (H13.out.trans hx)
        have H14b := Lib.hid (H13b.out.trans hx)
        clear hx HCALL H13 H13b
        have hcall : Calls Tryd.prog 11 #[.slice q5 (X.length + 3) c5, .int .i64 ((X.length : Int) + 2), .slice q11 ((conM M)).length c11] w14 fun e w' => e = .returned (.bool bb) ∧ Ext w14 w' := by
          have h := HF5.out w14 H14.out ((X.length : Int) + 2) q11 c11 (conM M) (HCon.out.ext H14b.out)
          have e := HE4.out
          try rw [HLX.out] at e
          rw [e] at h
          exact h
        have HCALL := Lib.hid hcall
        clear hcall
        go_wp2_with fail
        (with_reducible refine HCALL.out.mono ?_)
        rintro e w15 ⟨rfl, hx⟩
        have H15 := Lib.hid (H14.out.trans hx)
        have H15b := Lib.hid (H14b.out.trans hx)
        clear hx HCALL H14 H14b
        have HN1 := Lib.hid (fit_nil HFO.out HL36.out HKL.out)
        have HN2 := Lib.hid (fit_zero HFO.out HL36.out HKL.out)
        have HN3 := Lib.hid (fit_one HFO.out HL36.out HKL.out)
        have HN4 := Lib.hid (fit_none HFO.out HL36.out HKL.out)
        have hcall : Calls Tryd.prog 11 #[.slice q5 (X.length + 3) c5, .int .i64 ((X.length : Int) + 1), .slice (some ⟨w15.heap.size, 0, none⟩) 1 1] (w15.alloc (.cells #[.int .i64 0, .int .i64 0, .int .i64 0, .string ⟨#[]⟩] 27)) fun e w' => e = .returned (.bool true) ∧ Ext (w15.alloc (.cells #[.int .i64 0, .int .i64 0, .int .i64 0, .string ⟨#[]⟩] 27)) w' := by
          have h := HF5.out (w15.alloc (.cells #[.int .i64 0, .int .i64 0, .int .i64 0, .string ⟨#[]⟩] 27)) (H15.out.trans (Ext.alloc w15 (.cells #[.int .i64 0, .int .i64 0, .int .i64 0, .string ByteArray.empty] 27))) ((X.length : Int) + 1) (some ⟨w15.heap.size, 0, none⟩) 1 [nul] (num_at (heap_alloc_new _ _))
          have e := HN1.out
          try rw [HLX.out] at e
          rw [e] at h
          exact h
        have HCALL := Lib.hid hcall
        clear hcall
        go_wp2_with fail
        (with_reducible refine HCALL.out.mono ?_)
        rintro e w16 ⟨rfl, hx⟩
        have H16 := Lib.hid ((H15.out.trans (Ext.alloc w15 (.cells #[.int .i64 0, .int .i64 0, .int .i64 0, .string ByteArray.empty] 27))).trans hx)
        have H16b := Lib.hid ((H15b.out.trans (Ext.alloc w15 (.cells #[.int .i64 0, .int .i64 0, .int .i64 0, .string ByteArray.empty] 27))).trans hx)
        clear hx HCALL H15 H15b
        have hcall : Calls Tryd.prog 11 #[.slice q5 (X.length + 3) c5, .int .i64 ((X.length : Int) + 2), .slice (some ⟨w16.heap.size, 0, none⟩) 1 1] (w16.alloc (.cells #[.int .i64 0, .int .i64 0, .int .i64 0, .string ⟨#[]⟩] 27)) fun e w' => e = .returned (.bool true) ∧ Ext (w16.alloc (.cells #[.int .i64 0, .int .i64 0, .int .i64 0, .string ⟨#[]⟩] 27)) w' := by
          have h := HF5.out (w16.alloc (.cells #[.int .i64 0, .int .i64 0, .int .i64 0, .string ⟨#[]⟩] 27)) (H16.out.trans (Ext.alloc w16 (.cells #[.int .i64 0, .int .i64 0, .int .i64 0, .string ByteArray.empty] 27))) ((X.length : Int) + 2) (some ⟨w16.heap.size, 0, none⟩) 1 [nul] (num_at (heap_alloc_new _ _))
          have e := HN2.out
          try rw [HLX.out] at e
          rw [e] at h
          exact h
        have HCALL := Lib.hid hcall
        clear hcall
        go_wp2_with fail
        (with_reducible refine HCALL.out.mono ?_)
        rintro e w17 ⟨rfl, hx⟩
        have H17 := Lib.hid ((H16.out.trans (Ext.alloc w16 (.cells #[.int .i64 0, .int .i64 0, .int .i64 0, .string ByteArray.empty] 27))).trans hx)
        have H17b := Lib.hid ((H16b.out.trans (Ext.alloc w16 (.cells #[.int .i64 0, .int .i64 0, .int .i64 0, .string ByteArray.empty] 27))).trans hx)
        clear hx HCALL H16 H16b
        have hcall : Calls Tryd.prog 11 #[.slice q5 (X.length + 3) c5, .int .i64 ((X.length : Int) + 2), .slice (some ⟨w17.heap.size, 0, none⟩) 1 1] (w17.alloc (.cells #[.int .i64 0, .int .i64 0, .int .i64 1, .string ⟨#[]⟩] 27)) fun e w' => e = .returned (.bool false) ∧ Ext (w17.alloc (.cells #[.int .i64 0, .int .i64 0, .int .i64 1, .string ⟨#[]⟩] 27)) w' := by
          have h := HF5.out (w17.alloc (.cells #[.int .i64 0, .int .i64 0, .int .i64 1, .string ⟨#[]⟩] 27)) (H17.out.trans (Ext.alloc w17 (.cells #[.int .i64 0, .int .i64 0, .int .i64 1, .string ByteArray.empty] 27))) ((X.length : Int) + 2) (some ⟨w17.heap.size, 0, none⟩) 1 [one1] (num_at (heap_alloc_new _ _))
          have e := HN3.out
          try rw [HLX.out] at e
          rw [e] at h
          exact h
        have HCALL := Lib.hid hcall
        clear hcall
        go_wp2_with fail
        (with_reducible refine HCALL.out.mono ?_)
        rintro e w18 ⟨rfl, hx⟩
        have H18 := Lib.hid ((H17.out.trans (Ext.alloc w17 (.cells #[.int .i64 0, .int .i64 0, .int .i64 1, .string ByteArray.empty] 27))).trans hx)
        have H18b := Lib.hid ((H17b.out.trans (Ext.alloc w17 (.cells #[.int .i64 0, .int .i64 0, .int .i64 1, .string ByteArray.empty] 27))).trans hx)
        clear hx HCALL H17 H17b
        have hcall : Calls Tryd.prog 11 #[.slice q5 (X.length + 3) c5, .int .i64 (X.length : Nat), .slice (some ⟨w18.heap.size, 0, none⟩) 1 1] (w18.alloc (.cells #[.int .i64 0, .int .i64 0, .int .i64 0, .string ⟨#[]⟩] 27)) fun e w' => e = .returned (.bool false) ∧ Ext (w18.alloc (.cells #[.int .i64 0, .int .i64 0, .int .i64 0, .string ⟨#[]⟩] 27)) w' := by
          have h := HF5.out (w18.alloc (.cells #[.int .i64 0, .int .i64 0, .int .i64 0, .string ⟨#[]⟩] 27)) (H18.out.trans (Ext.alloc w18 (.cells #[.int .i64 0, .int .i64 0, .int .i64 0, .string ByteArray.empty] 27))) (X.length : Nat) (some ⟨w18.heap.size, 0, none⟩) 1 [nul] (num_at (heap_alloc_new _ _))
          have e := HN4.out
          try rw [HLX.out] at e
          rw [e] at h
          exact h
        have HCALL := Lib.hid hcall
        clear hcall
        go_wp2_with fail
        (with_reducible refine HCALL.out.mono ?_)
        rintro e w19 ⟨rfl, hx⟩
        have H19 := Lib.hid ((H18.out.trans (Ext.alloc w18 (.cells #[.int .i64 0, .int .i64 0, .int .i64 0, .string ByteArray.empty] 27))).trans hx)
        have H19b := Lib.hid ((H18b.out.trans (Ext.alloc w18 (.cells #[.int .i64 0, .int .i64 0, .int .i64 0, .string ByteArray.empty] 27))).trans hx)
        clear hx HCALL H18 H18b
        have hl1 : 0 < M.length := (goodM_len HGMe.out).1
        have hc0 := List.getElem?_eq_getElem hl1
        generalize M[0] = c0 at hc0
        obtain ⟨bM, oM, hq, y0, -, -, -⟩ := MsgP.cells HM.out hc0
        rw [Nat.zero_mul, Nat.add_zero] at y0
        have hfi := fit_int HGMe.out hc0
        have hfs := fit_str HGMe.out hc0
        generalize c0.kind = ck at *
        obtain ⟨bi, hbi⟩ : ∃ b, (ck == 0) = b := ⟨_, rfl⟩
        obtain ⟨bs, hbs⟩ : ∃ b, (ck == 2) = b := ⟨_, rfl⟩
        rw [hbi] at hfi
        rw [hbs] at hfs
        subst hq
        have HFI : Hid (∀ W, Ext w W → ∀ g, RowsP W (.slice (some ⟨g, 0, none⟩) 1 1) 4 (([⟨⟨1, 0, 0, []⟩, .slice none 0 0⟩] : List FoI).map foC) → Calls Tryd.prog 11 #[.slice (some ⟨g, 0, none⟩) 1 1, .int .i64 0, .slice (some ⟨bM, oM, none⟩) M.length cm] W fun e w' => e = .returned (.bool bi) ∧ Ext W w') := Lib.hid (fun W e g hg => by
          have h := fits_is (HO.out.ext e) (X := [⟨⟨1, 0, 0, []⟩, .slice none 0 0⟩]) (qf := some ⟨g, 0, none⟩) (cf := 1) hg (fun y hy => by rw [List.mem_singleton.1 hy]; exact RowsP.nil _ _) (HM.out.ext e) 0
          rw [show List.map (fun x => x.f) ([⟨⟨1, 0, 0, []⟩, .slice none 0 0⟩] : List FoI) = [⟨1, 0, 0, []⟩] from rfl, hfi] at h
          exact h)
        have HFS : Hid (∀ W, Ext w W → ∀ g, RowsP W (.slice (some ⟨g, 0, none⟩) 1 1) 4 (([⟨⟨4, 0, 0, []⟩, .slice none 0 0⟩] : List FoI).map foC) → Calls Tryd.prog 11 #[.slice (some ⟨g, 0, none⟩) 1 1, .int .i64 0, .slice (some ⟨bM, oM, none⟩) M.length cm] W fun e w' => e = .returned (.bool bs) ∧ Ext W w') := Lib.hid (fun W e g hg => by
          have h := fits_is (HO.out.ext e) (X := [⟨⟨4, 0, 0, []⟩, .slice none 0 0⟩]) (qf := some ⟨g, 0, none⟩) (cf := 1) hg (fun y hy => by rw [List.mem_singleton.1 hy]; exact RowsP.nil _ _) (HM.out.ext e) 0
          rw [show List.map (fun x => x.f) ([⟨⟨4, 0, 0, []⟩, .slice none 0 0⟩] : List FoI) = [⟨4, 0, 0, []⟩] from rfl, hfs] at h
          exact h)
        have HXZ := Lib.hid (HX5.out.trans H19.out)
        clear hfi hfs hc0
        go_upto_region 13 with fail
        refine wp_region_noPanic ?_
        refine wp_region_last 25 (S := (fun w' => w'.cell? ⟨bM, oM, none⟩ = some (.int .i64 ck))) (by kernel_rfl) (by kernel_rfl) _ rfl ?_ (fun hHeld => ?_)
        · skip
          have kx := HXZ.out.trans (Ext.drew w19)
          generalize w19.drew = V at *
          (exact kx.cell y0)
        have kx := HXZ.out.trans (Ext.drew w19)
        generalize w19.drew = V at *
        simp only [List.take_succ_cons, List.take_zero]
        refine wpAnyH_take (i := 0) (v := ?v1) rfl (by kernel_rfl) (by kernel_rfl) (by kernel_rfl) (fun _ _ _ h => h) (Or.inl ⟨by rfl, ?y1⟩) (by assumption) ?r1
        case y1 => intro w hSw; (try dsimp only at hSw); go_simp; (try with_reducible rfl)
        (try simp only [Act.put, List.setIfInBounds_toArray, List.set_cons_zero, List.set_cons_succ, List.getElem_toArray, List.getElem_cons_zero, List.getElem_cons_succ])
        refine wpAnyH_take (i := 2) (v := ?v2) rfl (by kernel_rfl) (by kernel_rfl) (by kernel_rfl) (fun _ _ _ h => h) (Or.inl ⟨by rfl, ?y2⟩) (by assumption) ?r2
        case y2 => intro w hSw; (try dsimp only at hSw); go_simp; (try with_reducible rfl)
        (try simp only [Act.put, List.setIfInBounds_toArray, List.set_cons_zero, List.set_cons_succ, List.getElem_toArray, List.getElem_cons_zero, List.getElem_cons_succ])
        refine wpAnyH_take (i := 4) (v := ?v3) rfl (by kernel_rfl) (by kernel_rfl) (by kernel_rfl) (fun _ _ _ h => h) (Or.inl ⟨by rfl, ?y3⟩) (by assumption) ?r3
        case y3 => intro w hSw; (try dsimp only at hSw); go_simp; (try with_reducible rfl)
        (try simp only [Act.put, List.setIfInBounds_toArray, List.set_cons_zero, List.set_cons_succ, List.getElem_toArray, List.getElem_cons_zero, List.getElem_cons_succ])
        refine wpAnyH_take (i := 5) (v := ?v4) rfl (by kernel_rfl) (by kernel_rfl) (by kernel_rfl) (fun _ _ _ h => h) (Or.inl ⟨by rfl, ?y4⟩) (by assumption) ?r4
        case y4 => intro w hSw; (try dsimp only at hSw); go_simp; (try with_reducible rfl)
        (try simp only [Act.put, List.setIfInBounds_toArray, List.set_cons_zero, List.set_cons_succ, List.getElem_toArray, List.getElem_cons_zero, List.getElem_cons_succ])
        refine wpAnyH_take (i := 6) (v := ?v5) rfl (by kernel_rfl) (by kernel_rfl) (by kernel_rfl) (fun _ _ _ h => h) (Or.inl ⟨by rfl, ?y5⟩) (by assumption) ?r5
        case y5 => intro w hSw; (try dsimp only at hSw); go_simp; (try with_reducible rfl)
        (try simp only [Act.put, List.setIfInBounds_toArray, List.set_cons_zero, List.set_cons_succ, List.getElem_toArray, List.getElem_cons_zero, List.getElem_cons_succ])
        refine wpAnyH_take (i := 7) (v := ?v6) rfl (by kernel_rfl) (by kernel_rfl) (by kernel_rfl) (fun _ _ _ h => h) (Or.inl ⟨by rfl, ?y6⟩) (by assumption) ?r6
        case y6 => intro w hSw; (try dsimp only at hSw); go_simp; (try with_reducible rfl)
        (try simp only [Act.put, List.setIfInBounds_toArray, List.set_cons_zero, List.set_cons_succ, List.getElem_toArray, List.getElem_cons_zero, List.getElem_cons_succ])
        refine wpAnyH_take (i := 8) (v := ?v7) rfl (by kernel_rfl) (by kernel_rfl) (by kernel_rfl) (fun _ _ _ h => h) (Or.inl ⟨by rfl, ?y7⟩) (by assumption) ?r7
        case y7 => intro w hSw; (try dsimp only at hSw); go_simp; (try with_reducible rfl)
        (try simp only [Act.put, List.setIfInBounds_toArray, List.set_cons_zero, List.set_cons_succ, List.getElem_toArray, List.getElem_cons_zero, List.getElem_cons_succ])
        refine wpAnyH_ready (rs := [1]) (by kernel_rfl) (by simp) ?_
        refine AllReadyH.cons rfl (fun K hK => ?_) AllReadyH.nil
        go_simp
        refine kk_gen (fun W' => Ext V W' ∧ W'.heap[V.heap.size]? = some (.cells #[.int .i64 1, .int .i64 0, .int .i64 0, .slice none 0 0] 34 (0, 0))) ⟨Ext.alloc _ _, heap_alloc_new _ _⟩ fun V2 hV2 => ?_
        obtain ⟨e1, hb⟩ := hV2
        have hf : RowsP V2 (.slice (some ⟨V.heap.size, 0, none⟩) 1 1) 4 (([⟨⟨1, 0, 0, []⟩, .slice none 0 0⟩] : List FoI).map foC) := rows_of_block (cs := #[.int .i64 1, .int .i64 0, .int .i64 0, .slice none 0 0]) hb rfl (by intro u hu; simp at hu; rcases hu with rfl | rfl | rfl <;> rfl)
        replace kx := kx.trans e1
        clear e1 hb
        generalize V.heap.size = n1 at *
        generalize V2 = V at *
        refine hK.out _ _ ?s8 (fun hHeld => ?k8)
        case s8 => ((try dsimp only); (exact kx.cell y0))
        clear hK K
        (try simp only [Act.put, List.setIfInBounds_toArray, List.set_cons_zero, List.set_cons_succ, List.getElem_toArray, List.getElem_cons_zero, List.getElem_cons_succ])
        refine wpAnyH_ready (rs := [3]) (by kernel_rfl) (by simp) ?_
        refine AllReadyH.cons rfl (fun K hK => ?_) AllReadyH.nil
        go_simp
        refine (HFI.out V kx _ hf).mono ?_
        rintro e wq ⟨rfl, hx⟩
        replace kx := kx.trans hx
        clear hx hf
        generalize wq = V at *
        refine hK.out _ _ ?s9 (fun hHeld => ?k9)
        case s9 => ((try dsimp only); (exact kx.cell y0))
        clear hK K
        (try simp only [Act.put, List.setIfInBounds_toArray, List.set_cons_zero, List.set_cons_succ, List.getElem_toArray, List.getElem_cons_zero, List.getElem_cons_succ])
        refine wpAnyH_take (i := 9) (v := ?v10) rfl (by kernel_rfl) (by kernel_rfl) (by kernel_rfl) (fun _ _ _ h => h) (Or.inl ⟨by rfl, ?y10⟩) (by assumption) ?r10
        case y10 => intro w hSw; (try dsimp only at hSw); go_simp; (try with_reducible rfl)
        (try simp only [Act.put, List.setIfInBounds_toArray, List.set_cons_zero, List.set_cons_succ, List.getElem_toArray, List.getElem_cons_zero, List.getElem_cons_succ])
        refine wpAnyH_take (i := 10) (v := ?v11) rfl (by kernel_rfl) (by kernel_rfl) (by kernel_rfl) (fun _ _ _ h => h) (Or.inl ⟨by rfl, ?y11⟩) (by assumption) ?r11
        case y11 => intro w hSw; (try dsimp only at hSw); go_simp; (try with_reducible rfl)
        (try simp only [Act.put, List.setIfInBounds_toArray, List.set_cons_zero, List.set_cons_succ, List.getElem_toArray, List.getElem_cons_zero, List.getElem_cons_succ])
        refine wpAnyH_take (i := 11) (v := ?v12) rfl (by kernel_rfl) (by kernel_rfl) (by kernel_rfl) (fun _ _ _ h => h) (Or.inl ⟨by rfl, ?y12⟩) (by assumption) ?r12
        case y12 => intro w hSw; (try dsimp only at hSw); go_simp; (try with_reducible rfl)
        (try simp only [Act.put, List.setIfInBounds_toArray, List.set_cons_zero, List.set_cons_succ, List.getElem_toArray, List.getElem_cons_zero, List.getElem_cons_succ])
        refine wpAnyH_take (i := 13) (v := ?v13) rfl (by kernel_rfl) (by kernel_rfl) (by kernel_rfl) (fun _ _ _ h => h) (Or.inl ⟨by rfl, ?y13⟩) (by assumption) ?r13
        case y13 => intro w hSw; (try dsimp only at hSw); go_simp; (try with_reducible rfl)
        (try simp only [Act.put, List.setIfInBounds_toArray, List.set_cons_zero, List.set_cons_succ, List.getElem_toArray, List.getElem_cons_zero, List.getElem_cons_succ])
        refine wpAnyH_take (i := 15) (v := ?v14) rfl (by kernel_rfl) (by kernel_rfl) (by kernel_rfl) (fun _ _ _ h => h) (Or.inl ⟨by rfl, ?y14⟩) (by assumption) ?r14
        case y14 => intro w hSw; (try dsimp only at hSw); go_simp; (try with_reducible rfl)
        (try simp only [Act.put, List.setIfInBounds_toArray, List.set_cons_zero, List.set_cons_succ, List.getElem_toArray, List.getElem_cons_zero, List.getElem_cons_succ])
        refine wpAnyH_take (i := 16) (v := ?v15) rfl (by kernel_rfl) (by kernel_rfl) (by kernel_rfl) (fun _ _ _ h => h) (Or.inl ⟨by rfl, ?y15⟩) (by assumption) ?r15
        case y15 => intro w hSw; (try dsimp only at hSw); go_simp; (try with_reducible rfl)
        (try simp only [Act.put, List.setIfInBounds_toArray, List.set_cons_zero, List.set_cons_succ, List.getElem_toArray, List.getElem_cons_zero, List.getElem_cons_succ])
        refine wpAnyH_take (i := 17) (v := ?v16) rfl (by kernel_rfl) (by kernel_rfl) (by kernel_rfl) (fun _ _ _ h => h) (Or.inl ⟨by rfl, ?y16⟩) (by assumption) ?r16
        case y16 => intro w hSw; (try dsimp only at hSw); go_simp; (try with_reducible rfl)
        (try simp only [Act.put, List.setIfInBounds_toArray, List.set_cons_zero, List.set_cons_succ, List.getElem_toArray, List.getElem_cons_zero, List.getElem_cons_succ])
        refine wpAnyH_take (i := 18) (v := ?v17) rfl (by kernel_rfl) (by kernel_rfl) (by kernel_rfl) (fun _ _ _ h => h) (Or.inl ⟨by rfl, ?y17⟩) (by assumption) ?r17
        case y17 => intro w hSw; (try dsimp only at hSw); go_simp; (try with_reducible rfl)
        (try simp only [Act.put, List.setIfInBounds_toArray, List.set_cons_zero, List.set_cons_succ, List.getElem_toArray, List.getElem_cons_zero, List.getElem_cons_succ])
        refine wpAnyH_take (i := 19) (v := ?v18) rfl (by kernel_rfl) (by kernel_rfl) (by kernel_rfl) (fun _ _ _ h => h) (Or.inl ⟨by rfl, ?y18⟩) (by assumption) ?r18
        case y18 => intro w hSw; (try dsimp only at hSw); go_simp; (try with_reducible rfl)
        (try simp only [Act.put, List.setIfInBounds_toArray, List.set_cons_zero, List.set_cons_succ, List.getElem_toArray, List.getElem_cons_zero, List.getElem_cons_succ])
        refine wpAnyH_ready (rs := [12]) (by kernel_rfl) (by simp) ?_
        refine AllReadyH.cons rfl (fun K hK => ?_) AllReadyH.nil
        go_simp
        refine kk_gen (fun W' => Ext V W' ∧ W'.heap[V.heap.size]? = some (.cells #[.int .i64 4, .int .i64 0, .int .i64 0, .slice none 0 0] 34 (0, 0))) ⟨Ext.alloc _ _, heap_alloc_new _ _⟩ fun V2 hV2 => ?_
        obtain ⟨e1, hb⟩ := hV2
        have hf : RowsP V2 (.slice (some ⟨V.heap.size, 0, none⟩) 1 1) 4 (([⟨⟨4, 0, 0, []⟩, .slice none 0 0⟩] : List FoI).map foC) := rows_of_block (cs := #[.int .i64 4, .int .i64 0, .int .i64 0, .slice none 0 0]) hb rfl (by intro u hu; simp at hu; rcases hu with rfl | rfl | rfl <;> rfl)
        replace kx := kx.trans e1
        clear e1 hb
        generalize V.heap.size = n2 at *
        generalize V2 = V at *
        refine hK.out _ _ ?s19 (fun hHeld => ?k19)
        case s19 => ((try dsimp only); (exact kx.cell y0))
        clear hK K
        (try simp only [Act.put, List.setIfInBounds_toArray, List.set_cons_zero, List.set_cons_succ, List.getElem_toArray, List.getElem_cons_zero, List.getElem_cons_succ])
        refine wpAnyH_ready (rs := [14]) (by kernel_rfl) (by simp) ?_
        refine AllReadyH.cons rfl (fun K hK => ?_) AllReadyH.nil
        go_simp
        refine (HFS.out V kx _ hf).mono ?_
        rintro e wq ⟨rfl, hx⟩
        replace kx := kx.trans hx
        clear hx hf
        generalize wq = V at *
        refine hK.out _ _ ?s20 (fun hHeld => ?k20)
        case s20 => ((try dsimp only); (exact kx.cell y0))
        clear hK K
        (try simp only [Act.put, List.setIfInBounds_toArray, List.set_cons_zero, List.set_cons_succ, List.getElem_toArray, List.getElem_cons_zero, List.getElem_cons_succ])
        refine wpAnyH_take (i := 20) (v := ?v21) rfl (by kernel_rfl) (by kernel_rfl) (by kernel_rfl) (fun _ _ _ h => h) (Or.inl ⟨by rfl, ?y21⟩) (by assumption) ?r21
        case y21 => intro w hSw; (try dsimp only at hSw); go_simp; (try with_reducible rfl)
        (try simp only [Act.put, List.setIfInBounds_toArray, List.set_cons_zero, List.set_cons_succ, List.getElem_toArray, List.getElem_cons_zero, List.getElem_cons_succ])
        refine wpAnyH_take (i := 21) (v := ?v22) rfl (by kernel_rfl) (by kernel_rfl) (by kernel_rfl) (fun _ _ _ h => h) (Or.inl ⟨by rfl, ?y22⟩) (by assumption) ?r22
        case y22 => intro w hSw; (try dsimp only at hSw); go_simp; (try with_reducible rfl)
        (try simp only [Act.put, List.setIfInBounds_toArray, List.set_cons_zero, List.set_cons_succ, List.getElem_toArray, List.getElem_cons_zero, List.getElem_cons_succ])
        refine wpAnyH_take (i := 22) (v := ?v23) rfl (by kernel_rfl) (by kernel_rfl) (by kernel_rfl) (fun _ _ _ h => h) (Or.inl ⟨by rfl, ?y23⟩) (by assumption) ?r23
        case y23 => intro w hSw; (try dsimp only at hSw); go_simp; (try with_reducible rfl)
        (try simp only [Act.put, List.setIfInBounds_toArray, List.set_cons_zero, List.set_cons_succ, List.getElem_toArray, List.getElem_cons_zero, List.getElem_cons_succ])
        refine wpAnyH_ready (rs := [23]) (by kernel_rfl) (by simp) ?_
        refine AllReadyH.cons rfl (fun K hK => ?_) AllReadyH.nil
        go_simp
        refine (HWk.out V kx).mono ?_
        rintro e wq ⟨rfl, hx⟩
        replace kx := kx.trans hx
        clear hx
        generalize wq = V at *
        refine hK.out _ _ ?s24 (fun hHeld => ?k24)
        case s24 => ((try dsimp only); (exact kx.cell y0))
        clear hK K
        (try simp only [Act.put, List.setIfInBounds_toArray, List.set_cons_zero, List.set_cons_succ, List.getElem_toArray, List.getElem_cons_zero, List.getElem_cons_succ])
        refine wpAnyH_take (i := 24) (v := ?v25) rfl (by kernel_rfl) (by kernel_rfl) (by kernel_rfl) (fun _ _ _ h => h) (Or.inl ⟨by rfl, ?y25⟩) (by assumption) ?r25
        case y25 => intro w hSw; (try dsimp only at hSw); go_simp; (try with_reducible rfl)
        (try simp only [Act.put, List.setIfInBounds_toArray, List.set_cons_zero, List.set_cons_succ, List.getElem_toArray, List.getElem_cons_zero, List.getElem_cons_succ])
        refine wpAnyH_done (by kernel_rfl) ?_ _
        show wpList _ _ _ _ _ _
        have HKX := Lib.hid kx
        clear kx hHeld
        go_wp2
        refine NoPanic.normal ?_
        go_wp2
        go_ret
        exact ⟨rfl, HKX.out⟩
end Go.Proofs.YtppkgfcobnknfaaDoor
/- A row of rows among the arguments: general. -/
namespace Go.Proofs.YtppkgfcobnknfaaDoor
open Go Go.ChangeShapes Go.WideShapes Go.ChangeAt Go.RowKit Go.Deep
set_option maxHeartbeats 4000000
set_option maxRecDepth 100000
theorem flat_inv {s : Nat} (hs : 1 ≤ s) : ∀ (l : List (List Value)), (∀ cs ∈ l, cs.length = s) → ∀ (j : Nat) (u : Value), l.flatten[j]? = some u → ∃ i f cs, j = i * s + f ∧ l[i]? = some cs ∧ cs[f]? = some u
  | [], _, j, u, h => by simp at h
  | c :: l, hl, j, u, h => by
    have hc := hl c (.head _)
    rw [List.flatten_cons] at h
    by_cases hj : j < s
    · rw [List.getElem?_append_left (by omega)] at h
      exact ⟨0, j, c, by omega, rfl, h⟩
    · rw [List.getElem?_append_right (by omega), hc] at h
      obtain ⟨i, f, cs, h1, h2, h3⟩ := flat_inv hs l (fun cs hm => hl cs (.tail _ hm)) (j - s) u h
      exact ⟨i + 1, f, cs, by rw [Nat.add_mul]; omega, h2, h3⟩
theorem rows_p {w : World} {v : Value} {s : Nat} {l : List (List Value)} (hs : 1 ≤ s) (h : RowsSl w v s l) (h1 : Rows1 s l) (hn : l ≠ []) : RowsP w v s l := by
  obtain ⟨q, c, rfl, h2, h3, h4⟩ := h
  refine ⟨h1, .inr ?_⟩
  obtain ⟨cs0, hcs0⟩ : ∃ cs, l[0]? = some cs := by cases l with | nil => exact absurd rfl hn | cons a l => exact ⟨a, rfl⟩
  obtain ⟨_, b, off, rfl, _⟩ := h4 0 cs0 hcs0
  refine ⟨b, off, c, rfl, h2, h3, fun j u hu => ?_⟩
  obtain ⟨i, f, cs, rfl, hi, hf⟩ := flat_inv hs l (fun cs hm => (h1 cs hm).1) j u hu
  obtain ⟨_, b', off', e, hc⟩ := h4 i cs hi
  obtain ⟨rfl, rfl, _⟩ := Addr.mk.inj (Option.some.inj e)
  rw [← Nat.add_assoc]
  exact hc f u hf
/-- one cell that reads as a slice -/
theorem rows_cell {H : Type} {enc : TypeId × Value → H} {P : Program} {w : World} {t e : TypeId} {s : Nat} {cs : List Value} (ht : P.underlying t = some (.slice e)) (hs : P.cellsOf e = s) (h1 : 1 ≤ s)
    (h : ReadsAs enc P w t cs) : ∃ v l, cs = [v] ∧ RowsSl w v s l ∧ (l = [] → EmptyV v) ∧ ∀ cs ∈ l, ReadsAs enc P w e cs := by
  obtain ⟨fuel, x, hf⟩ := h
  rcases open_slice ht hf with ⟨hcs, _⟩ | ⟨a, len, cap, m, n, D, Pl, hcs, _, hlc, hcm, hm, _, hel⟩
  · exact ⟨_, [], hcs, ⟨none, 0, rfl, Nat.le_refl _, Nat.zero_le _, fun i cs h => by simp at h⟩, fun _ => .inl rfl, fun cs h => by cases h⟩
  · simp only [if_true] at hm
    rw [hs] at hel
    rw [hm] at hel
    obtain ⟨V, hV⟩ := choose_lt (n := cap) (p := fun i cs => w.cells? 0 (a.add (i * s)) s = some cs ∧ DataW.trod enc P w 0 (fun _ => true) true n e cs = some (D i, Pl i)) (fun i hi => hel i hi)
    have hl : ((List.range len).map V).length = len := by simp
    refine ⟨_, (List.range len).map V, hcs, ⟨some a, cap, by rw [hl], by rw [hl]; exact hlc, hcm, fun i cs hi => ?_⟩, fun he => ?_, fun cs hcs => ?_⟩
    · have hil : i < len := by have := (List.getElem?_eq_some_iff.1 hi).1; simpa using this
      have hcs : V i = cs := by simpa [hil] using hi
      subst hcs
      obtain ⟨_, hlen, hcell⟩ := World.cells?_some (hV i (by omega)).1
      obtain ⟨_, hlen0, hcell0⟩ := World.cells?_some (hV 0 (by omega)).1
      have hc0 := hcell0 0 (by omega)
      rw [List.getElem?_eq_getElem (by omega : 0 < (V 0).length), Go.Deep.add_add] at hc0
      obtain ⟨b, off, spot⟩ := a
      have hspot : spot = none := by simpa [Addr.add] using World.cell?_spot hc0
      subst hspot
      refine ⟨hlen, b, off, rfl, fun f u hu => ?_⟩
      have hfl : f < s := by rw [← hlen]; exact (List.getElem?_eq_some_iff.1 hu).1
      have := hcell f hfl
      rw [Go.Deep.add_add, add_plain, hu] at this
      rw [Nat.add_assoc]
      exact this
    · have h0 : len = 0 := by have := congrArg List.length he; simpa using this
      subst h0
      exact .inr ⟨a, cap, rfl, hcm⟩
    · obtain ⟨i, hi, rfl⟩ := List.mem_map.1 hcs
      have hil := List.mem_range.1 hi
      exact ⟨n, _, (hV i (by omega)).2⟩
/-- rows whose cells are all of a form -/
theorem choose_form {α : Type} [Inhabited α] (f : α → List Value) : ∀ (l : List (List Value)), (∀ cs ∈ l, ∃ x, cs = f x) → ∃ M : List α, l = M.map f
  | [], _ => ⟨[], rfl⟩
  | c :: l, h => by
    obtain ⟨x, rfl⟩ := h c (.head _)
    obtain ⟨M, rfl⟩ := choose_form f l (fun cs hm => h cs (.tail _ hm))
    exact ⟨x :: M, rfl⟩
end Go.Proofs.YtppkgfcobnknfaaDoor
/- A message, forms among the arguments. -/
namespace Go.Proofs.YtppkgfcobnknfaaDoor
open Go Go.ChangeShapes Go.WideShapes Go.ChangeAt Go.RowKit Go.Deep
set_option maxHeartbeats 4000000
set_option maxRecDepth 100000
theorem cl_reads {H : Type} {enc : TypeId × Value → H} {w : World} {cs : List Value} (h : ReadsAs enc Tryd.prog w 27 cs) : ∃ x : Cl, cs = celC x := by
  obtain ⟨n, y, h⟩ := h
  obtain ⟨xs, k, rfl, _, hlen, hxl, hf⟩ := DataW.trod_struct Tryd.underlying27 h
  have hc : Tryd.prog.cellsOf 27 = 4 := by kernel_rfl
  rw [hc] at hlen
  match cs, hlen, xs, hxl with
  | [v0, v1, v2, v3], _, [y0, y1, y2, y3], _ =>
    have g0 := hf 0 _ rfl
    have g1 := hf 1 _ rfl
    have g2 := hf 2 _ rfl
    have g3 := hf 3 _ rfl
    have ci : Tryd.prog.cellsOf 3 = 1 := by kernel_rfl
    have ci6 : Tryd.prog.cellsOf 2 = 1 := by kernel_rfl
    have cs1 : Tryd.prog.cellsOf 9 = 1 := by kernel_rfl
    simp [ci, ci6, cs1] at g0 g1 g2 g3
    obtain ⟨a0, e0, _, w0⟩ := DataW.trod_int Tryd.underlying3 g0
    obtain ⟨a1, e1, _, w1⟩ := DataW.trod_int Tryd.underlying3 g1
    obtain ⟨a2, e2, _, w2⟩ := DataW.trod_int Tryd.underlying2 g2
    obtain ⟨a3, e3, _, w3⟩ := DataW.trod_string Tryd.underlying9 g3
    simp at e0 e1 e2 e3
    subst e0; subst e1; subst e2; subst e3
    exact ⟨⟨a0, a1, a2, a3⟩, rfl⟩
theorem choose_fm {α : Type} (f : α → List Value) : ∀ (l : List (List Value)), (∀ cs ∈ l, ∃ x, cs = f x) → ∃ M : List α, l = M.map f
  | [], _ => ⟨[], rfl⟩
  | c :: l, h => by
    obtain ⟨x, rfl⟩ := h c (.head _)
    obtain ⟨M, rfl⟩ := choose_fm f l (fun cs hm => h cs (.tail _ hm))
    exact ⟨x :: M, rfl⟩
theorem cel_rows (M : List Cl) : Rows1 4 (M.map celC) := by
  intro l hl
  obtain ⟨x, _, rfl⟩ := List.mem_map.1 hl
  refine ⟨rfl, fun u hu => ?_⟩
  simp [celC] at hu
  rcases hu with rfl | rfl | rfl | rfl <;> rfl
theorem msg_cell {H : Type} {enc : TypeId × Value → H} {w : World} {cs : List Value} (h : ReadsAs enc Tryd.prog w 23 cs) : ∃ v M, cs = [v] ∧ MsgP w v M := by
  obtain ⟨v, l, rfl, hr, he, hl⟩ := rows_cell Tryd.underlying23 (show Tryd.prog.cellsOf 27 = 4 by kernel_rfl) (by omega) h
  obtain ⟨M, rfl⟩ := choose_fm celC l (fun cs hm => cl_reads (hl cs hm))
  refine ⟨v, M, rfl, ?_⟩
  cases M with
  | nil => exact ⟨Rows1.nil 4, .inl ⟨he rfl, rfl⟩⟩
  | cons x M => exact rows_p (by omega) hr (cel_rows _) (by simp)
theorem open_msg {H : Type} {enc : TypeId × Value → H} {W : World} {v : Value} {d : DataW H} {ps : List MemPlace} {base : Nat} (hval : Value.okWide Tryd.prog W .any base 23 v) (h : DataW.Trod enc Tryd.prog W 0 (fun _ => true) true 23 v d ps) : ∃ M, MsgP W v M := by
  obtain ⟨a0, len, cap, rfl⟩ := okWide_slice Tryd.underlying23 hval
  obtain ⟨fuel, hf⟩ := h
  obtain ⟨v', M, hv, hm⟩ := msg_cell ⟨fuel, _, hf⟩
  simp only [Value.cells, List.cons.injEq, and_true] at hv
  subst hv
  exact ⟨M, hm⟩
end Go.Proofs.YtppkgfcobnknfaaDoor
/- Forms among the arguments; DataFits as the law's last text calls it. -/
namespace Go.Proofs.YtppkgfcobnknfaaDoor
open Go Go.ChangeShapes Go.WideShapes Go.ChangeAt Go.RowKit Go.Deep
set_option maxHeartbeats 4000000
set_option maxRecDepth 100000
theorem choose_ft {α : Type} (p : α → Prop) (f : α → List Value) : ∀ (l : List (List Value)), (∀ cs ∈ l, ∃ x, cs = f x ∧ p x) → ∃ M : List α, l = M.map f ∧ ∀ x ∈ M, p x
  | [], _ => ⟨[], rfl, fun x h => by cases h⟩
  | c :: l, h => by
    obtain ⟨x, rfl, hx⟩ := h c (.head _)
    obtain ⟨M, rfl, hM⟩ := choose_ft p f l (fun cs hm => h cs (.tail _ hm))
    exact ⟨x :: M, rfl, fun y hy => by rcases List.mem_cons.1 hy with rfl | hy; exact hx; exact hM y hy⟩
theorem ints_reads {H : Type} {enc : TypeId × Value → H} {w : World} {cs : List Value} (h : ReadsAs enc Tryd.prog w 32 cs) : ∃ (v : Value) (l : List Int), cs = [v] ∧ RowsP w v 1 (l.map ncC) := by
  obtain ⟨v, l, rfl, hr, he, hl⟩ := rows_cell Tryd.underlying32 (show Tryd.prog.cellsOf 3 = 1 by kernel_rfl) (by omega) h
  obtain ⟨M, rfl⟩ := choose_fm ncC l (fun cs hm => by
    obtain ⟨n, y, h⟩ := hl cs hm
    obtain ⟨a, rfl, _, _⟩ := DataW.trod_int Tryd.underlying3 h
    exact ⟨a, rfl⟩)
  refine ⟨v, M, rfl, ?_⟩
  cases M with
  | nil => exact ⟨Rows1.nil 1, .inl ⟨he rfl, rfl⟩⟩
  | cons x M => exact rows_p (by omega) hr (by intro l hl; obtain ⟨z, _, rfl⟩ := List.mem_map.1 hl; exact ⟨rfl, by intro u hu; simp [ncC] at hu; subst hu; rfl⟩) (by simp)
theorem fo_cell {H : Type} {enc : TypeId × Value → H} {w : World} {cs : List Value} (h : ReadsAs enc Tryd.prog w 34 cs) : ∃ x : FoI, cs = foC x ∧ (FoP w x ∧ x.v.oneCell' = true) := by
  obtain ⟨n, y, h⟩ := h
  obtain ⟨xs, k, rfl, _, hlen, hxl, hf⟩ := DataW.trod_struct Tryd.underlying34 h
  have hc : Tryd.prog.cellsOf 34 = 4 := by kernel_rfl
  rw [hc] at hlen
  match cs, hlen, xs, hxl with
  | [v0, v1, v2, v3], _, [y0, y1, y2, y3], _ =>
    have g0 := hf 0 _ rfl
    have g1 := hf 1 _ rfl
    have g2 := hf 2 _ rfl
    have g3 := hf 3 _ rfl
    have ci : Tryd.prog.cellsOf 3 = 1 := by kernel_rfl
    have cs1 : Tryd.prog.cellsOf 32 = 1 := by kernel_rfl
    simp [ci, cs1] at g0 g1 g2 g3
    obtain ⟨a0, e0, _, w0⟩ := DataW.trod_int Tryd.underlying3 g0
    obtain ⟨a1, e1, _, w1⟩ := DataW.trod_int Tryd.underlying3 g1
    obtain ⟨a2, e2, _, w2⟩ := DataW.trod_int Tryd.underlying3 g2
    obtain ⟨v, l, e3, hr⟩ := ints_reads ⟨_, _, g3⟩
    simp at e0 e1 e2 e3
    subst e0; subst e1; subst e2; subst e3
    refine ⟨⟨⟨a0, a1, a2, l⟩, v3⟩, rfl, hr, ?_⟩
    obtain ⟨q, c, rfl, _⟩ := RowsP.at hr
    rfl
theorem open_forms {H : Type} {enc : TypeId × Value → H} {W : World} {v : Value} {d : DataW H} {ps : List MemPlace} {base : Nat} (hval : Value.okWide Tryd.prog W .any base 30 v) (h : DataW.Trod enc Tryd.prog W 0 (fun _ => true) true 30 v d ps) : ∃ X : List FoI, RowsP W v 4 (X.map foC) ∧ ∀ y ∈ X, FoP W y := by
  obtain ⟨a0, len, cap, rfl⟩ := okWide_slice Tryd.underlying30 hval
  obtain ⟨fuel, hf⟩ := h
  obtain ⟨v', l, hv, hr, he, hl⟩ := rows_cell Tryd.underlying30 (show Tryd.prog.cellsOf 34 = 4 by kernel_rfl) (by omega) ⟨fuel, _, hf⟩
  simp only [Value.cells, List.cons.injEq, and_true] at hv
  subst hv
  obtain ⟨X, rfl, hX⟩ := choose_ft (fun x => FoP W x ∧ x.v.oneCell' = true) foC l (fun cs hm => fo_cell (hl cs hm))
  refine ⟨X, ?_, fun y hy => (hX y hy).1⟩
  cases X with
  | nil => exact ⟨Rows1.nil 4, .inl ⟨he rfl, rfl⟩⟩
  | cons x M => exact rows_p (by omega) hr (by intro l hl; obtain ⟨z, hz, rfl⟩ := List.mem_map.1 hl; exact ⟨rfl, by intro u hu; simp [foC] at hu; rcases hu with rfl | rfl | rfl | rfl <;> first | rfl | exact (hX z hz).2⟩) (by simp)
theorem fits_walk' {w : World} {vf vm : Value} {X : List FoI} {M : List Cl} (hX : RowsP w vf 4 (X.map foC) ∧ ∀ y ∈ X, FoP w y) (hm : MsgP w vm M) (k : Int) (hO : OpLie w) : Calls Tryd.prog 4 #[vf, .int .i64 k, vm] w (True10 w) := fits_walk hX.1 hX.2 hm k hO
end Go.Proofs.YtppkgfcobnknfaaDoor
