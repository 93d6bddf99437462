/- Proved here: the contracts and laws of CodC, DatOB, DatOC, DatWA, RigA, DatWB of this claim, each beneath its own remark; conditions: those that each theorem names. -/
import Derived.Test.YtppkgfcobnknfaaGreatDoorM9
import Derived.Test.YtppkgfcobnknfaaGreatDoorM8
import Derived.Test.YtppkgfcobnknfaaGreatDoorM7
import Derived.Deep.RegionHeld3
/- code.Good: which program may be (the program's). -/
namespace Go.Proofs.YtppkgfcobnknfaaGreatDoor
open Go.RowKit
set_option maxHeartbeats 8000000
set_option maxRecDepth 100000
/-- a program as it lies -/
structure PgI where
  funcs : List FnI
  strs : List ByteArray
  forms : List FoI
  vf : Value
  vs : Value
  vo : Value
def PgI.p (x : PgI) : Pg := ⟨x.funcs.map (·.f), x.strs, x.forms.map (·.f)⟩
def stC (s : ByteArray) : List Value := [.string s]
structure PgP (w : World) (x : PgI) : Prop where
  pf : RowsP w x.vf 3 (x.funcs.map fnC)
  ps : RowsP w x.vs 1 (x.strs.map stC)
  po : RowsP w x.vo 4 (x.forms.map foC)
  hf : ∀ y ∈ x.funcs, FnP w y
  ho : ∀ y ∈ x.forms, FoP w y
theorem PgP.ext {w w' : World} {x : PgI} (h : PgP w x) (e : Ext w w') : PgP w' x := ⟨h.pf.ext e, h.ps.ext e, h.po.ext e, fun y hy => (h.hf y hy).ext e, fun y hy => (h.ho y hy).ext e⟩
def PgI.val (x : PgI) : Value := .agg #[x.vf, x.vs, x.vo]
theorem fns_drop {F : List FnI} {k : Nat} {x : FnI} (b : Bool) (h : F[k]? = some x) : goodFns ((F.drop k).map (·.f)) b = (goodFn x.f b && goodFns ((F.drop (k + 1)).map (·.f)) false) := by
  obtain ⟨hk, e⟩ := List.getElem?_eq_some_iff.1 h
  rw [List.drop_eq_getElem_cons hk, e, List.map_cons, goodFns]
theorem goodP_parts (x : PgI) : goodP x.p = (inB x.funcs.length 1 60 && decide (x.strs.length ≤ 40) && decide (x.forms.length ≤ 40) && goodFns (x.funcs.map (·.f)) true && x.strs.all (fun s => decide (s.size ≤ 60)) && x.forms.all fun f => goodFo f.f x.forms.length) := by
  unfold goodP PgI.p
  simp only [List.length_map, List.all_map]
  rfl
theorem code_good {w : World} (hk : OpLie w) (x : PgI) (hx : PgP w x) : Calls Tryz.prog 52 #[.agg #[x.vf, x.vs, x.vo]] w fun e w' => e = .returned (.bool (goodP x.p)) ∧ Ext w w' := by
  rw [goodP_parts]
  obtain ⟨F, S, O, vf, vs, vo⟩ := x
  obtain ⟨pf, ps, po, hf, ho⟩ := hx
  dsimp only at pf ps po hf ho ⊢
  obtain ⟨qf, cf, rfl, hf1, hf2, hcf⟩ := pf.at
  obtain ⟨qs, cs, rfl, hs1, hs2, hcs⟩ := ps.at
  obtain ⟨qo, co, rfl, ho1, ho2, hco⟩ := po.at
  rw [List.length_map] at hf1 hs1 ho1 ⊢
  rw [List.length_map, List.length_map]
  have HCF := Lib.hid hcf; have HCS := Lib.hid hcs; have HCO := Lib.hid hco; have HK := Lib.hid hk
  have HF := Lib.hid hf; have HO := Lib.hid ho
  clear pf ps po hcf hcs hco hk hf ho
  unfold maxLen at hf2 hs2 ho2
  have hA := fun W => betw_is F.length 1 60 W
  obtain ⟨A, hAe⟩ : ∃ A, inB F.length 1 60 = A := ⟨_, rfl⟩
  rw [hAe] at hA ⊢
  cases A with
  | false =>
    clear hAe
    go_enter Tryz.func52, Tryz.ntmps52
    go_wp2_with fail
    refine (hA _).mono ?_; rintro e w2 ⟨rfl, rfl⟩
    go_wp2_with fail
    go_ret
    exact ⟨rfl, Ext.alloc _ _⟩
  | true =>
    by_cases hS : S.length ≤ 40
    rotate_left
    · have b1 : (40 : Int) < (S.length : Int) := by omega
      rw [decide_eq_false hS]
      clear hS hAe
      go_enter Tryz.func52, Tryz.ntmps52
      go_wp2_with fail
      refine (hA _).mono ?_; rintro e w2 ⟨rfl, rfl⟩
      go_wp2_with fail
      go_ret
      exact ⟨rfl, Ext.alloc _ _⟩
    by_cases hO : O.length ≤ 40
    rotate_left
    · have b1 : decide (40 < S.length) = false := decide_eq_false (by omega)
      have b1' : ¬ (40 : Int) < (S.length : Int) := by omega
      have b2 : decide (40 < O.length) = true := decide_eq_true (by omega)
      have b3 : (40 : Int) < (O.length : Int) := by omega
      have b4 : 40 < O.length := by omega
      rw [decide_eq_true hS, decide_eq_false hO]
      clear hS hAe hO
      go_enter Tryz.func52, Tryz.ntmps52
      go_wp2_with fail
      refine (hA _).mono ?_; rintro e w2 ⟨rfl, rfl⟩
      go_wp2_with fail
      go_ret
      exact ⟨rfl, Ext.alloc _ _⟩
    have b1 : decide (40 < S.length) = false := decide_eq_false (by omega)
    have b1' : ¬ (40 : Int) < (S.length : Int) := by omega
    have b2 : decide (40 < O.length) = false := decide_eq_false (by omega)
    have b2' : ¬ (40 : Int) < (O.length : Int) := by omega
    have HS := Lib.hid (decide_eq_true hS)
    have HO40 := Lib.hid (decide_eq_true hO)
    have HO4 := Lib.hid hO
    clear hAe hS hO
    go_enter Tryz.func52, Tryz.ntmps52
    go_upto_region 1 with fail
    refine wp_alloc1 fun W hE hS b0 => ?_
    have f0 : W.cell? ⟨w.heap.size, 0, none⟩ = some (.slice qf F.length cf) := cell_at b0 rfl
    have f1 : W.cell? ⟨w.heap.size, 1, none⟩ = some (.slice qs S.length cs) := cell_at b0 rfl
    have f2 : W.cell? ⟨w.heap.size, 2, none⟩ = some (.slice qo O.length co) := cell_at b0 rfl
    have HE := Lib.hid hE
    have q0 : w.heap.size < W.heap.size := by omega
    have HQ0 := Lib.hid q0
    clear hE hS b0 q0
    go_wp2_with fail
    refine (hA _).mono ?_; rintro e w2 ⟨rfl, rfl⟩
    go_wp2_with fail
    go_loopw [29] (fun i wr => ∃ j : Nat, j ≤ F.length ∧ i = .int .i64 j ∧ goodFns (F.map (·.f)) true = goodFns ((F.drop j).map (·.f)) (decide (j = 0)) ∧ Ext W wr) (fun i _ => F.length - (Go.RowKit.intOf i).toNat)
    case atStart => exact ⟨0, by omega, rfl, rfl, Ext.refl _⟩
    case round =>
      obtain ⟨j, hj, rfl, ha, hx⟩ := hrel
      have HA := Lib.hid ha
      replace f0 := hx.cell f0; replace f1 := hx.cell f1; replace f2 := hx.cell f2
      have HX := Lib.hid (HE.out.trans hx)
      have HX1 := Lib.hid hx
      clear ha hx HE hA
      by_cases hlt : j < F.length
      · have hxk := List.getElem?_eq_getElem hlt
        generalize F[j] = x at hxk
        have HM := Lib.hid (HF.out x (List.mem_of_getElem? hxk))
        obtain ⟨b, off, rfl, hcell⟩ := HCF.out j (fnC x) (by rw [List.getElem?_map, hxk]; rfl)
        have y0 := HX.out.cell (hcell 0 _ rfl); have y1 := HX.out.cell (hcell 1 _ rfl); have y2 := HX.out.cell (hcell 2 _ rfl)
        rw [Nat.add_zero] at y0
        have HD := Lib.hid (HA.out.trans (fns_drop (decide (j = 0)) hxk))
        have i1 : (j : Int) < (F.length : Int) := by omega
        have tj : ((j : Int) == 0) = decide (j = 0) := by
          rw [Bool.eq_iff_iff]; simp
        clear hcell hxk HA
        have HG := Lib.hid (fun W' (e : Ext wr W') => function_is (HK.out.ext (HX.out.trans e)) x (HM.out.ext (HX.out.trans e)) (decide (j = 0)))
        obtain ⟨qx, nx, cx, hv⟩ : ∃ q n c, x.v = .slice q n c := by obtain ⟨q, c, hv, -⟩ := RowsP.at HM.out; exact ⟨q, _, c, hv⟩
        obtain ⟨⟨lo, fr, code⟩, v⟩ := x
        dsimp only at y0 y1 y2 HG HD hv
        subst hv
        generalize goodFn ⟨lo, fr, code⟩ (decide (j = 0)) = g at HD HG
        rw [← tj] at HG
        clear HM tj
        cases g with
        | true =>
          go_wp2_with fail
          refine (HG.out _ (Ext.alloc _ _)).mono ?_
          rintro e w1 ⟨rfl, hx1⟩
          have HX2 := Lib.hid (HX1.out.trans ((Ext.alloc _ _).trans hx1))
          clear hx1
          go_wp2_with fail
          exact ⟨⟨j + 1, by omega, by go_num, by rw [HD.out, Bool.true_and, decide_eq_false (by omega)], HX2.out⟩, by simp [Go.RowKit.intOf]; omega⟩
        | false =>
          go_wp2_with fail
          refine (HG.out _ (Ext.alloc _ _)).mono ?_
          rintro e w1 ⟨rfl, hx1⟩
          have HX2 := Lib.hid (HX.out.trans ((Ext.alloc _ _).trans hx1))
          clear hx1
          go_wp2_with fail
          go_ret
          exact ⟨by rw [HS.out, HO40.out, HD.out, Bool.false_and]; rfl, HX2.out⟩
      · obtain rfl : j = F.length := by omega
        have HD1 := Lib.hid (show goodFns (F.map (·.f)) true = true by rw [HA.out, List.drop_length]; rfl)
        have HQ1 := Lib.hid HX1.out.size
        clear HA HCF HX1 HF f0 hlt hj
        go_wp2_with fail
        generalize hwo : wr = wo at *
        clear hwo
        go_loopw [43] (fun i wr => ∃ j : Nat, j ≤ S.length ∧ i = .int .i64 j ∧ S.all (fun s => decide (s.size ≤ 60)) = (S.drop j).all (fun s => decide (s.size ≤ 60)) ∧ Ext wo wr) (fun i _ => S.length - (Go.RowKit.intOf i).toNat)
        case atStart => exact ⟨0, by omega, rfl, rfl, Ext.refl _⟩
        case round =>
          obtain ⟨j, hj, rfl, ha, hx⟩ := hrel
          have HA := Lib.hid ha
          have HXo := HX
          replace f1 := hx.cell f1; replace f2 := hx.cell f2
          clear HX
          have HX := Lib.hid (HXo.out.trans hx)
          have HX1 := Lib.hid hx
          clear ha hx
          by_cases hlt : j < S.length
          · have hxk := List.getElem?_eq_getElem hlt
            generalize S[j] = x at hxk
            obtain ⟨b, off, rfl, hcell⟩ := HCS.out j (stC x) (by rw [List.getElem?_map, hxk]; rfl)
            have y0 := HX.out.cell (hcell 0 _ rfl)
            rw [Nat.add_zero, Nat.mul_one] at y0
            have HD := Lib.hid (HA.out.trans (all_drop (p := fun s : ByteArray => decide (s.size ≤ 60)) hxk))
            have i1 : (j : Int) < (S.length : Int) := by omega
            clear hcell hxk HA
            by_cases hg : x.size ≤ 60
            · have g1 : decide (60 < x.size) = false := decide_eq_false (by omega)
              have g2 : (x.size : Int) ≤ 60 := by omega
              have g3 : ¬ (60 : Int) < (x.size : Int) := by omega
              have HG := Lib.hid (decide_eq_true hg)
              clear hg
              go_wp2_with fail
              exact ⟨⟨j + 1, by omega, by go_num, by rw [HD.out, HG.out, Bool.true_and], HX1.out⟩, by simp [Go.RowKit.intOf]; omega⟩
            · have g1 : decide (60 < x.size) = true := decide_eq_true (by omega)
              have g2 : ¬ (x.size : Int) ≤ 60 := by omega
              have HG := Lib.hid (decide_eq_false hg)
              clear hg
              go_wp2_with fail
              go_ret
              exact ⟨by rw [HS.out, HO40.out, HD1.out, HD.out, HG.out, Bool.false_and]; rfl, HX.out⟩
          · obtain rfl : j = S.length := by omega
            have HD2 := Lib.hid (show S.all (fun s => decide (s.size ≤ 60)) = true by rw [HA.out, List.drop_length]; rfl)
            have HQ2 := Lib.hid HX1.out.size
            clear HA HCS HX1 HXo f1 hlt hj
            go_wp2_with fail
            generalize hwp : wr = wp at *
            clear hwp
            obtain ⟨P, hP⟩ : ∃ P : FoI → Bool, P = fun f => goodFo f.f O.length := ⟨_, rfl⟩
            go_loopw [54] (fun i wr => ∃ j : Nat, j ≤ O.length ∧ i = .int .i64 j ∧ O.all P = (O.drop j).all P ∧ Ext wp wr) (fun i _ => O.length - (Go.RowKit.intOf i).toNat)
            case atStart => exact ⟨0, by omega, rfl, rfl, Ext.refl _⟩
            case round =>
              obtain ⟨j, hj, rfl, ha, hx⟩ := hrel
              have HA := Lib.hid ha
              have HXo := HX
              replace f2 := hx.cell f2
              clear HX
              have HX := Lib.hid (HXo.out.trans hx)
              have HX1 := Lib.hid hx
              have hxs := hx.size
              clear ha hx
              by_cases hlt : j < O.length
              · have hxk := List.getElem?_eq_getElem hlt
                generalize O[j] = x at hxk
                have HM := Lib.hid (HO.out x (List.mem_of_getElem? hxk))
                obtain ⟨b, off, rfl, hcell⟩ := HCO.out j (foC x) (by rw [List.getElem?_map, hxk]; rfl)
                have y0 := HX.out.cell (hcell 0 _ rfl); have y1 := HX.out.cell (hcell 1 _ rfl); have y2 := HX.out.cell (hcell 2 _ rfl); have y3 := HX.out.cell (hcell 3 _ rfl)
                rw [Nat.add_zero] at y0
                have HD := Lib.hid (HA.out.trans (all_drop (p := P) hxk))
                have i1 : (j : Int) < (O.length : Int) := by omega
                clear hcell hxk HA
                have q0 : w.heap.size < wr.heap.size := Nat.lt_of_lt_of_le HQ0.out (Nat.le_trans HQ1.out (Nat.le_trans HQ2.out hxs))
                have HG := Lib.hid (fun W' (e : Ext wr W') => form_is x (HM.out.ext (HX.out.trans e)) O.length (by have := HO4.out; omega))
                have hPx : P x = goodFo x.f O.length := by rw [hP]
                rw [hPx] at HD
                clear hPx
                obtain ⟨qx, nx, cx, hv⟩ : ∃ q n c, x.v = .slice q n c := by obtain ⟨q, c, hv, -⟩ := RowsP.at HM.out; exact ⟨q, _, c, hv⟩
                obtain ⟨⟨kd, fa, fb, cons⟩, v⟩ := x
                dsimp only at y0 y1 y2 y3 HG HD hv
                subst hv
                generalize goodFo ⟨kd, fa, fb, cons⟩ O.length = g at HD HG
                clear HM
                cases g with
                | true =>
                  go_wp2_with fail
                  refine (HG.out _ (Ext.alloc _ _)).mono ?_
                  rintro e w1 ⟨rfl, hx1⟩
                  have HX2 := Lib.hid (HX1.out.trans ((Ext.alloc _ _).trans hx1))
                  clear hx1
                  go_wp2_with fail
                  exact ⟨⟨j + 1, by omega, by go_num, by rw [HD.out, Bool.true_and], HX2.out⟩, by simp [Go.RowKit.intOf]; omega⟩
                | false =>
                  go_wp2_with fail
                  refine (HG.out _ (Ext.alloc _ _)).mono ?_
                  rintro e w1 ⟨rfl, hx1⟩
                  have HX2 := Lib.hid (HX.out.trans ((Ext.alloc _ _).trans hx1))
                  clear hx1
                  go_wp2_with fail
                  go_ret
                  exact ⟨by rw [HS.out, HO40.out, HD1.out, HD2.out, ← hP, HD.out, Bool.false_and]; rfl, HX2.out⟩
              · obtain rfl : j = O.length := by omega
                have HD := Lib.hid (show O.all P = true by rw [HA.out, List.drop_length]; rfl)
                clear HA HCO HX1 HXo
                go_wp2_with fail
                go_ret
                exact ⟨by rw [HS.out, HO40.out, HD1.out, HD2.out, ← hP, HD.out]; rfl, HX.out⟩
end Go.Proofs.YtppkgfcobnknfaaGreatDoor
/- data.fitter: is, block; a whole held against a form. -/
namespace Go.Proofs.YtppkgfcobnknfaaGreatDoor
open Go.RowKit Go.Maps Arena
set_option maxHeartbeats 8000000
set_option maxRecDepth 100000
/-- a fitter, its forms and its message -/
structure FitAt (w : World) (xb : Nat) (qf : Option Addr) (cf : Nat) (X : List FoI) (qm : Option Addr) (cm : Nat) (M : List Cl) : Prop where
  blk : w.heap[xb]? = some (.cells #[.slice qf X.length cf, .slice qm M.length cm] 112 (0, 0))
  forms : RowsP w (.slice qf X.length cf) 4 (X.map foC)
  msg : RowsP w (.slice qm M.length cm) 4 (M.map celC)
  cons : ∀ y ∈ X, FoP w y
theorem FitAt.ext {w w' : World} {xb : Nat} {qf : Option Addr} {cf : Nat} {X : List FoI} {qm : Option Addr} {cm : Nat} {M : List Cl} (h : FitAt w xb qf cf X qm cm M) (e : Ext w w') : FitAt w' xb qf cf X qm cm M :=
  ⟨(Below.block e xb (Array.getElem?_eq_some_iff.1 h.blk).1).trans h.blk, h.forms.ext e, h.msg.ext e, fun y hy => (h.cons y hy).ext e⟩
theorem FitAt.form {w : World} {xb : Nat} {qf : Option Addr} {cf : Nat} {X : List FoI} {qm : Option Addr} {cm : Nat} {M : List Cl} (h : FitAt w xb qf cf X qm cm M) {k : Nat} {y : FoI} (hy : X[k]? = some y) :
    ∃ b off, qf = some ⟨b, off, none⟩ ∧ w.cell? ⟨b, off + k * 4, none⟩ = some (.int .i64 y.f.kind) ∧ w.cell? ⟨b, off + k * 4 + 1, none⟩ = some (.int .i64 y.f.a) ∧ w.cell? ⟨b, off + k * 4 + 2, none⟩ = some (.int .i64 y.f.b) ∧ w.cell? ⟨b, off + k * 4 + 3, none⟩ = some y.v := by
  obtain ⟨q, c', hv, -, -, hcell⟩ := h.forms.at
  obtain ⟨b, off, hq, hcc⟩ := hcell k (foC y) (by rw [List.getElem?_map, hy]; rfl)
  obtain ⟨e, -, -⟩ := Value.slice.inj hv
  exact ⟨b, off, by rw [e, hq], hcc 0 _ rfl, hcc 1 _ rfl, hcc 2 _ rfl, hcc 3 _ rfl⟩
theorem fis_is {w : World} {xb : Nat} {qf : Option Addr} {cf : Nat} {X : List FoI} {qm : Option Addr} {cm : Nat} {M : List Cl} (h : FitAt w xb qf cf X qm cm M) {k : Nat} {c : Cl} (hc : M[k]? = some c) (lo hi : Int) :
    Calls Tryz.prog 69 #[.pointer (some ⟨xb, 0, none⟩), .int .i64 k, .int .i64 lo, .int .i64 hi] w fun e w' => e = .returned (.bool (decide (c.kind = 0) && decide (lo ≤ c.n) && decide (c.n ≤ hi))) ∧ Ext w w' := by
  obtain ⟨b, off, rfl, y0, y1, y2, y3⟩ := MsgP.cells h.msg hc
  obtain ⟨l0, l1⟩ := cells2 h.blk
  have i1 : (k : Int) < (M.length : Int) := by have := (List.getElem?_eq_some_iff.1 hc).1; omega
  clear h hc
  obtain ⟨kd, tg, n, tx⟩ := c
  dsimp only at *
  by_cases h0 : kd = 0
  · have t0 : (kd == 0) = true := beq_iff_eq.2 h0
    by_cases h1 : lo ≤ n
    · have t1 : decide (lo ≤ n) = true := decide_eq_true h1
      by_cases h2 : n ≤ hi
      · have t2 : decide (n ≤ hi) = true := decide_eq_true h2
        go_enter Tryz.func69, Tryz.ntmps69
        go_wp2
        go_ret
        exact ⟨by simp_all, Ext.alloc _ _⟩
      · have t2 : decide (n ≤ hi) = false := decide_eq_false h2
        go_enter Tryz.func69, Tryz.ntmps69
        go_wp2
        go_ret
        exact ⟨by simp_all, Ext.alloc _ _⟩
    · have t1 : decide (lo ≤ n) = false := decide_eq_false h1
      go_enter Tryz.func69, Tryz.ntmps69
      go_wp2
      go_ret
      exact ⟨by simp_all, Ext.alloc _ _⟩
  · have t0 : (kd == 0) = false := beq_false_of_ne h0
    go_enter Tryz.func69, Tryz.ntmps69
    go_wp2
    go_ret
    exact ⟨by simp_all, Ext.alloc _ _⟩
theorem fblock_is {w : World} {xb : Nat} {qf : Option Addr} {cf : Nat} {X : List FoI} {qm : Option Addr} {cm : Nat} {M : List Cl} (h : FitAt w xb qf cf X qm cm M) {k : Nat} {c : Cl} (hc : M[k]? = some c) (tag num : Int) :
    Calls Tryz.prog 70 #[.pointer (some ⟨xb, 0, none⟩), .int .i64 k, .int .i64 tag, .int .i64 num] w fun e w' => e = .returned (.bool (decide (c.kind = 1) && decide (c.tag = tag) && decide (c.n = num))) ∧ Ext w w' := by
  obtain ⟨b, off, rfl, y0, y1, y2, y3⟩ := MsgP.cells h.msg hc
  obtain ⟨l0, l1⟩ := cells2 h.blk
  have i1 : (k : Int) < (M.length : Int) := by have := (List.getElem?_eq_some_iff.1 hc).1; omega
  clear h hc
  obtain ⟨kd, tg, n, tx⟩ := c
  dsimp only at *
  by_cases h0 : kd = 1
  · have t0 : (kd == 1) = true := beq_iff_eq.2 h0
    by_cases h1 : tg = tag
    · have t1 : (tg == tag) = true := beq_iff_eq.2 h1
      by_cases h2 : n = num
      · have t2 : (n == num) = true := beq_iff_eq.2 h2
        go_enter Tryz.func70, Tryz.ntmps70
        go_wp2
        go_ret
        exact ⟨by simp_all, Ext.alloc _ _⟩
      · have t2 : (n == num) = false := beq_false_of_ne h2
        go_enter Tryz.func70, Tryz.ntmps70
        go_wp2
        go_ret
        exact ⟨by simp_all, Ext.alloc _ _⟩
    · have t1 : (tg == tag) = false := beq_false_of_ne h1
      go_enter Tryz.func70, Tryz.ntmps70
      go_wp2
      go_ret
      exact ⟨by simp_all, Ext.alloc _ _⟩
  · have t0 : (kd == 1) = false := beq_false_of_ne h0
    go_enter Tryz.func70, Tryz.ntmps70
    go_wp2
    go_ret
    exact ⟨by simp_all, Ext.alloc _ _⟩
def oneN (at_ : Nat) (b : Bool) : Nat := if b then at_ + 1 else 0
theorem fN1 {F : List Fo} {M : List Cl} {s k at_ : Nat} {x : Fo} {c : Cl} (hk : F[k]? = some x) (hc : M[at_]? = some c) (h : x.kind = 1) : fitsN F M (s + 1) k at_ = oneN at_ (decide (c.kind = 0)) := by
  rw [fitsN, hk, hc]; dsimp only; rw [if_pos h]; rfl
theorem fN2 {F : List Fo} {M : List Cl} {s k at_ : Nat} {x : Fo} {c : Cl} (hk : F[k]? = some x) (hc : M[at_]? = some c) (h : x.kind = 2) : fitsN F M (s + 1) k at_ = oneN at_ (decide (c.kind = 0) && decide (0 ≤ c.n) && decide (c.n ≤ 1)) := by
  rw [fitsN, hk, hc]; dsimp only; rw [if_neg (by omega), if_pos h]; rfl
theorem fN3 {F : List Fo} {M : List Cl} {s k at_ : Nat} {x : Fo} {c : Cl} (hk : F[k]? = some x) (hc : M[at_]? = some c) (h : x.kind = 3) : fitsN F M (s + 1) k at_ = oneN at_ (decide (c.kind = 0) && decide (0 ≤ c.n) && decide (c.n ≤ 0)) := by
  rw [fitsN, hk, hc]; dsimp only; rw [if_neg (by omega), if_neg (by omega), if_pos h]; rfl
theorem fN4 {F : List Fo} {M : List Cl} {s k at_ : Nat} {x : Fo} {c : Cl} (hk : F[k]? = some x) (hc : M[at_]? = some c) (h : x.kind = 4) : fitsN F M (s + 1) k at_ = oneN at_ (decide (c.kind = 2)) := by
  rw [fitsN, hk, hc]; dsimp only; rw [if_neg (by omega), if_neg (by omega), if_neg (by omega), if_pos h]; rfl
/-- two wholes, one behind the other -/
def twoN (F : List Fo) (M : List Cl) (s a b at_ : Nat) : Nat := match fitsN F M s a at_ with | 0 => 0 | n + 1 => fitsN F M s b (n + 1)
theorem fN5 {F : List Fo} {M : List Cl} {s k at_ : Nat} {x : Fo} {c : Cl} (hk : F[k]? = some x) (hc : M[at_]? = some c) (h : x.kind = 5) : fitsN F M (s + 1) k at_ = if (decide (c.kind = 1) && decide (c.tag = 0) && decide (c.n = 2)) = true then twoN F M s x.a.toNat x.b.toNat (at_ + 1) else 0 := by
  rw [fitsN, hk, hc]; dsimp only; rw [if_neg (by omega), if_neg (by omega), if_neg (by omega), if_neg (by omega), if_pos h]
  simp only [Bool.and_eq_true, decide_eq_true_eq, and_assoc]; rfl
theorem fN6 {F : List Fo} {M : List Cl} {s k at_ : Nat} {x : Fo} {c : Cl} (hk : F[k]? = some x) (hc : M[at_]? = some c) (h : x.kind = 6) : fitsN F M (s + 1) k at_ = if (decide (c.kind = 1) && decide (c.tag = 1) && decide (c.n = 2)) = true then twoN F M s x.a.toNat k (at_ + 1) else oneN at_ (decide (c.kind = 0) && decide (0 ≤ c.n) && decide (c.n ≤ 0)) := by
  rw [fitsN, hk, hc]; dsimp only; rw [if_neg (by omega), if_neg (by omega), if_neg (by omega), if_neg (by omega), if_neg (by omega), if_pos h]
  simp only [Bool.and_eq_true, decide_eq_true_eq, and_assoc, oneN]; rfl
theorem fN7 {F : List Fo} {M : List Cl} {s k at_ : Nat} {x : Fo} {c : Cl} (hk : F[k]? = some x) (hc : M[at_]? = some c) (h : x.kind = 7) : fitsN F M (s + 1) k at_ = if c.kind = 1 ∧ c.n = 1 ∧ c.tag < x.cons.length ∧ 0 ≤ x.cons.getD c.tag.toNat 0 then fitsN F M s (x.cons.getD c.tag.toNat 0).toNat (at_ + 1) else oneN at_ (decide (c.kind = 0) && decide (0 ≤ c.n) && decide (c.n ≤ x.cons.length - 1) && decide (x.cons.getD c.n.toNat 0 < 0)) := by
  rw [fitsN, hk, hc]; dsimp only; rw [if_neg (by omega), if_neg (by omega), if_neg (by omega), if_neg (by omega), if_neg (by omega), if_neg (by omega)]; rfl
/-- what whole tells -/
def FitW (w : World) (n : Nat) (e : Ending) (w' : World) : Prop := e = .returned (.int .i64 n) ∧ Ext w w'
theorem ftwo_is {xb : Nat} {qf : Option Addr} {cf : Nat} {X : List FoI} {qm : Option Addr} {cm : Nat} {M : List Cl} (hF : ∀ y ∈ X.map (·.f), goodFo y (X.map (·.f)).length = true) {s : Nat}
    (IH : ∀ (k at_ o : Nat) (w : World), At M at_ (o + 1) → M.length ≤ at_ + s → k < X.length → FitAt w xb qf cf X qm cm M → Calls Tryz.prog 53 #[.pointer (some ⟨xb, 0, none⟩), .int .i64 k, .int .i64 at_] w (FitW w (fitsN (X.map (·.f)) M s k at_)))
    (a b at_ o : Nat) (w : World) (hA : At M at_ (o + 2)) (hs : M.length ≤ at_ + s) (ha : a < X.length) (hb : b < X.length) (h : FitAt w xb qf cf X qm cm M) :
    Calls Tryz.prog 71 #[.pointer (some ⟨xb, 0, none⟩), .int .i64 a, .int .i64 b, .int .i64 at_] w (FitW w (twoN (X.map (·.f)) M s a b at_)) := by
  have h1 := fitsN_is hF s a at_ (o + 1) hA (by rw [List.length_map]; exact ha)
  have hn := At.next (o := o + 1) hA
  have HC := Lib.hid (IH a at_ (o + 1) w hA hs ha h)
  have HD := Lib.hid (fun W (e : Ext w W) => IH b (nxt M at_) o W hn.1 (by have := hn.2.1; omega) hb (h.ext e))
  have hpos : 0 < nxt M at_ := by have := hn.2.1; omega
  clear hA hs ha hb h IH hF hn
  unfold twoN
  generalize fitsN (X.map (·.f)) M s b = g at *
  generalize nxt M at_ = m at *
  generalize fitsN (X.map (·.f)) M s a at_ = n at *
  obtain ⟨m, rfl⟩ : ∃ d, m = d + 1 := ⟨m - 1, by omega⟩
  cases hB : fitsB (X.map (·.f)) M s a at_ with
  | false =>
    rw [hB, if_neg (by decide)] at h1
    subst h1
    clear hB HD
    go_enter Tryz.func71, Tryz.ntmps71
    go_wp2_with fail
    refine HC.out.mono ?_
    rintro e w1 ⟨rfl, hx⟩
    have HX := Lib.hid hx
    clear hx
    go_wp2_with fail
    go_ret
    exact ⟨rfl, HX.out⟩
  | true =>
    rw [hB, if_pos rfl] at h1
    subst h1
    clear hB
    dsimp only
    generalize g (m + 1) = gm at *
    have t0 : ((m : Int) + 1 == 0) = false := beq_false_of_ne (by omega)
    go_enter Tryz.func71, Tryz.ntmps71
    go_wp2_with fail
    refine HC.out.mono ?_
    rintro e w1 ⟨rfl, hx⟩
    have HX := Lib.hid hx
    clear hx
    go_wp2_with fail
    refine (HD.out _ HX.out).mono ?_
    rintro e w2 ⟨rfl, hx⟩
    have HX2 := Lib.hid (HX.out.trans hx)
    clear hx
    go_wp2_with fail
    go_ret
    exact ⟨rfl, HX2.out⟩
theorem kk_gen {K : World → Prop} {w : World} (F : World → Prop) (hF : F w) (h : ∀ W, F W → K W) : K w := h w hF
theorem one_t {w w' : World} {at_ : Nat} {b : Bool} (h : b = true) (e : Ext w w') : FitW w (oneN at_ b) (.returned (.int .i64 ((at_ : Int) + 1))) w' := ⟨by subst h; rfl, e⟩
theorem one_f {w w' : World} {at_ : Nat} {b : Bool} (h : b = false) (e : Ext w w') : FitW w (oneN at_ b) (.returned (.int .i64 0)) w' := ⟨by subst h; rfl, e⟩
theorem fwhole_is {xb : Nat} {qf : Option Addr} {cf : Nat} {X : List FoI} {qm : Option Addr} {cm : Nat} {M : List Cl} (hML : M.length ≤ 100) (hF : ∀ y ∈ X.map (·.f), goodFo y (X.map (·.f)).length = true) : ∀ (s k at_ o : Nat) (w : World), At M at_ (o + 1) → M.length ≤ at_ + s → k < X.length → FitAt w xb qf cf X qm cm M →
    Calls Tryz.prog 53 #[.pointer (some ⟨xb, 0, none⟩), .int .i64 k, .int .i64 at_] w (FitW w (fitsN (X.map (·.f)) M s k at_)) := by
  intro s
  induction s with
  | zero =>
    intro k at_ o w hA hs
    obtain ⟨x, hx, _⟩ := hA.cell
    have := (List.getElem?_eq_some_iff.1 hx).1
    omega
  | succ s ih =>
    intro k at_ o w hA hs hk h
    have IH := Lib.hid ih
    have HTWO := Lib.hid (ftwo_is hF ih)
    obtain ⟨c, hc, hg, hN⟩ := hA.cell
    have hy := List.getElem?_eq_getElem hk
    generalize X[k] = y at hy
    have hym := List.mem_of_getElem? hy
    have hyF : (X.map (·.f))[k]? = some y.f := by rw [List.getElem?_map, hy]; rfl
    have hgo := hF y.f (List.mem_of_getElem? hyF)
    have hab := goodFo_ab hgo
    rw [List.length_map] at hgo
    have HIS := Lib.hid (fun W (e : Ext w W) lo hi => fis_is (h.ext e) hc lo hi)
    have HBL := Lib.hid (fun W (e : Ext w W) t n => fblock_is (h.ext e) hc t n)
    have HH := Lib.hid h
    obtain ⟨b, off, hqf, z0, z1, z2, z3⟩ := h.form hy
    obtain ⟨b', off', hqm, y0, y1, y2, y3⟩ := MsgP.cells h.msg hc
    obtain ⟨l0, l1⟩ := cells2 h.blk
    have i1 : (at_ : Int) < (M.length : Int) := by have := (List.getElem?_eq_some_iff.1 hc).1; omega
    have i2 : (k : Int) < (X.length : Int) := by omega
    obtain ⟨qn, kn, hyv, hn1, hn2, hcons⟩ := RowsP.at (h.cons y hym)
    rw [List.length_map] at hn1 hyv
    have HCons := Lib.hid hcons
    have HCN := Lib.hid hc; have HYF := Lib.hid hyF; have HAB := Lib.hid hab; have HNN := Lib.hid hN; have HGO := Lib.hid hgo; have HG := Lib.hid hg; have HS := Lib.hid hs
    have hwt : c.kind = 1 → wt c = c.n.toNat := wt_block
    have HWT := Lib.hid hwt
    subst hqf
    subst hqm
    clear ih hF hA hs h hy hym hyF hgo hab hcons hc hN hg hwt
    obtain ⟨⟨kd, fa, fb', cons⟩, yv⟩ := y
    obtain ⟨ck, ct, cn, cx⟩ := c
    dsimp only at *
    subst hyv
    generalize hfn : fitsN (X.map (·.f)) M (s + 1) k at_ = res
    have HFN := Lib.hid hfn
    clear hfn
    go_enter Tryz.func53, Tryz.ntmps53
    go_upto_region 1 with fail
    go_cut [7, 8] from 10 to 23 (fun v7 v8 wx => ∃ fb cb, v7 = .pointer (some ⟨fb, 0, none⟩) ∧ v8 = .pointer (some ⟨cb, 0, none⟩) ∧ wx.heap[fb]? = some (.cells #[.int .i64 kd, .int .i64 fa, .int .i64 fb', .slice qn cons.length kn] 61 (0, 0)) ∧ wx.heap[cb]? = some (.cells #[.int .i64 ck, .int .i64 ct, .int .i64 cn, .string cx] 51 (0, 0)) ∧ Ext w wx)
    case first =>
      refine wp_region_noPanic ?_
      refine wp_region_last 17 (S := (fun w' => (w'.cell? ⟨xb, 0, none⟩ = some (.slice (some ⟨b, off, none⟩) X.length cf) ∧ w'.cell? ⟨xb, 1, none⟩ = some (.slice (some ⟨b', off', none⟩) M.length cm)) ∧ (w'.cell? ⟨b, off + k * 4, none⟩ = some (.int .i64 kd) ∧ w'.cell? ⟨b, off + k * 4 + 1, none⟩ = some (.int .i64 fa) ∧ w'.cell? ⟨b, off + k * 4 + 2, none⟩ = some (.int .i64 fb') ∧ w'.cell? ⟨b, off + k * 4 + 3, none⟩ = some (.slice qn cons.length kn)) ∧ (w'.cell? ⟨b', off' + at_ * 4, none⟩ = some (.int .i64 ck) ∧ w'.cell? ⟨b', off' + at_ * 4 + 1, none⟩ = some (.int .i64 ct) ∧ w'.cell? ⟨b', off' + at_ * 4 + 2, none⟩ = some (.int .i64 cn) ∧ w'.cell? ⟨b', off' + at_ * 4 + 3, none⟩ = some (.string cx)))) (by kernel_rfl) (by kernel_rfl) _ rfl ?_ (fun hHeld => ?_)
      · skip
        have hX := Ext.drew w
        generalize w.drew = V at *
        (exact ⟨⟨hX.cell l0, hX.cell l1⟩, ⟨hX.cell z0, hX.cell z1, hX.cell z2, hX.cell z3⟩, ⟨hX.cell y0, hX.cell y1, hX.cell y2, hX.cell y3⟩⟩)
      have hX := Ext.drew w
      generalize w.drew = V at *
      simp only [List.take_succ_cons, List.take_zero]
      refine wpAnyH_take (i := 0) (v := ?v1) rfl (by kernel_rfl) (by kernel_rfl) (by kernel_rfl) (fun _ _ _ h => h) (Or.inl ⟨by rfl, ?y1⟩) (by assumption) ?r1
      case y1 => intro w hSw; (try dsimp only at hSw); go_simp; (try with_reducible rfl)
      (try simp only [Act.put, List.setIfInBounds_toArray, List.set_cons_zero, List.set_cons_succ, List.getElem_toArray, List.getElem_cons_zero, List.getElem_cons_succ])
      refine wpAnyH_take (i := 1) (v := ?v2) rfl (by kernel_rfl) (by kernel_rfl) (by kernel_rfl) (fun _ _ _ h => h) (Or.inl ⟨by rfl, ?y2⟩) (by assumption) ?r2
      case y2 => intro w hSw; (try dsimp only at hSw); go_simp; (try with_reducible rfl)
      (try simp only [Act.put, List.setIfInBounds_toArray, List.set_cons_zero, List.set_cons_succ, List.getElem_toArray, List.getElem_cons_zero, List.getElem_cons_succ])
      refine wpAnyH_take (i := 2) (v := ?v3) rfl (by kernel_rfl) (by kernel_rfl) (by kernel_rfl) (fun _ _ _ h => h) (Or.inl ⟨by rfl, ?y3⟩) (by assumption) ?r3
      case y3 => intro w hSw; (try dsimp only at hSw); go_simp; (try with_reducible rfl)
      (try simp only [Act.put, List.setIfInBounds_toArray, List.set_cons_zero, List.set_cons_succ, List.getElem_toArray, List.getElem_cons_zero, List.getElem_cons_succ])
      refine wpAnyH_take (i := 3) (v := ?v4) rfl (by kernel_rfl) (by kernel_rfl) (by kernel_rfl) (fun _ _ _ h => h) (Or.inl ⟨by rfl, ?y4⟩) (by assumption) ?r4
      case y4 => intro w hSw; (try dsimp only at hSw); go_simp; (try with_reducible rfl)
      (try simp only [Act.put, List.setIfInBounds_toArray, List.set_cons_zero, List.set_cons_succ, List.getElem_toArray, List.getElem_cons_zero, List.getElem_cons_succ])
      refine wpAnyH_take (i := 4) (v := ?v5) rfl (by kernel_rfl) (by kernel_rfl) (by kernel_rfl) (fun _ _ _ h => h) (Or.inl ⟨by rfl, ?y5⟩) (by assumption) ?r5
      case y5 => intro w hSw; (try dsimp only at hSw); go_simp; (try with_reducible rfl)
      (try simp only [Act.put, List.setIfInBounds_toArray, List.set_cons_zero, List.set_cons_succ, List.getElem_toArray, List.getElem_cons_zero, List.getElem_cons_succ])
      refine wpAnyH_take (i := 5) (v := ?v6) rfl (by kernel_rfl) (by kernel_rfl) (by kernel_rfl) (fun _ _ _ h => h) (Or.inl ⟨by rfl, ?y6⟩) (by assumption) ?r6
      case y6 => intro w hSw; (try dsimp only at hSw); go_simp; (try with_reducible rfl)
      (try simp only [Act.put, List.setIfInBounds_toArray, List.set_cons_zero, List.set_cons_succ, List.getElem_toArray, List.getElem_cons_zero, List.getElem_cons_succ])
      refine wpAnyH_take (i := 6) (v := ?v7) rfl (by kernel_rfl) (by kernel_rfl) (by kernel_rfl) (fun _ _ _ h => h) (Or.inl ⟨by rfl, ?y7⟩) (by assumption) ?r7
      case y7 => intro w hSw; (try dsimp only at hSw); go_simp; (try with_reducible rfl)
      (try simp only [Act.put, List.setIfInBounds_toArray, List.set_cons_zero, List.set_cons_succ, List.getElem_toArray, List.getElem_cons_zero, List.getElem_cons_succ])
      refine wpAnyH_take (i := 7) (v := ?v8) rfl (by kernel_rfl) (by kernel_rfl) (by kernel_rfl) (fun _ _ _ h => h) (Or.inl ⟨by rfl, ?y8⟩) (by assumption) ?r8
      case y8 => intro w hSw; (try dsimp only at hSw); go_simp; (try with_reducible rfl)
      (try simp only [Act.put, List.setIfInBounds_toArray, List.set_cons_zero, List.set_cons_succ, List.getElem_toArray, List.getElem_cons_zero, List.getElem_cons_succ])
      refine wpAnyH_take (i := 8) (v := ?v9) rfl (by kernel_rfl) (by kernel_rfl) (by kernel_rfl) (fun _ _ _ h => h) (Or.inl ⟨by rfl, ?y9⟩) (by assumption) ?r9
      case y9 => intro w hSw; (try dsimp only at hSw); go_simp; (try with_reducible rfl)
      (try simp only [Act.put, List.setIfInBounds_toArray, List.set_cons_zero, List.set_cons_succ, List.getElem_toArray, List.getElem_cons_zero, List.getElem_cons_succ])
      refine wpAnyH_take (i := 9) (v := ?v10) rfl (by kernel_rfl) (by kernel_rfl) (by kernel_rfl) (fun _ _ _ h => h) (Or.inl ⟨by rfl, ?y10⟩) (by assumption) ?r10
      case y10 => intro w hSw; (try dsimp only at hSw); go_simp; (try with_reducible rfl)
      (try simp only [Act.put, List.setIfInBounds_toArray, List.set_cons_zero, List.set_cons_succ, List.getElem_toArray, List.getElem_cons_zero, List.getElem_cons_succ])
      refine wpAnyH_take (i := 10) (v := ?v11) rfl (by kernel_rfl) (by kernel_rfl) (by kernel_rfl) (fun _ _ _ h => h) (Or.inl ⟨by rfl, ?y11⟩) (by assumption) ?r11
      case y11 => intro w hSw; (try dsimp only at hSw); go_simp; (try with_reducible rfl)
      (try simp only [Act.put, List.setIfInBounds_toArray, List.set_cons_zero, List.set_cons_succ, List.getElem_toArray, List.getElem_cons_zero, List.getElem_cons_succ])
      refine wpAnyH_take (i := 11) (v := ?v12) rfl (by kernel_rfl) (by kernel_rfl) (by kernel_rfl) (fun _ _ _ h => h) (Or.inl ⟨by rfl, ?y12⟩) (by assumption) ?r12
      case y12 => intro w hSw; (try dsimp only at hSw); go_simp; (try with_reducible rfl)
      (try simp only [Act.put, List.setIfInBounds_toArray, List.set_cons_zero, List.set_cons_succ, List.getElem_toArray, List.getElem_cons_zero, List.getElem_cons_succ])
      refine wpAnyH_take (i := 12) (v := ?v13) rfl (by kernel_rfl) (by kernel_rfl) (by kernel_rfl) (fun _ _ _ h => h) (Or.inl ⟨by rfl, ?y13⟩) (by assumption) ?r13
      case y13 => intro w hSw; (try dsimp only at hSw); go_simp; (try with_reducible rfl)
      (try simp only [Act.put, List.setIfInBounds_toArray, List.set_cons_zero, List.set_cons_succ, List.getElem_toArray, List.getElem_cons_zero, List.getElem_cons_succ])
      refine wpAnyH_take (i := 13) (v := ?v14) rfl (by kernel_rfl) (by kernel_rfl) (by kernel_rfl) (fun _ _ _ h => h) (Or.inl ⟨by rfl, ?y14⟩) (by assumption) ?r14
      case y14 => intro w hSw; (try dsimp only at hSw); go_simp; (try with_reducible rfl)
      (try simp only [Act.put, List.setIfInBounds_toArray, List.set_cons_zero, List.set_cons_succ, List.getElem_toArray, List.getElem_cons_zero, List.getElem_cons_succ])
      refine wpAnyH_ready (rs := [14, 15]) (by kernel_rfl) (by simp) ?_
      refine AllReadyH.cons rfl (fun K hK => ?_) (AllReadyH.cons rfl (fun K hK => ?_) (AllReadyH.nil))
      · skip
        go_simp
        refine kk_gen (fun W' => Ext V W' ∧ W'.heap[V.heap.size]? = some (.cells #[.int .i64 0, .int .i64 0, .int .i64 0, .slice none 0 0] 61 (0, 0))) ⟨Ext.alloc _ _, heap_alloc_new _ _⟩ fun V2 hV2 => ?_
        obtain ⟨e1, hfb⟩ := hV2
        have hfge := Below.size hX
        (try have hlt2 := (Array.getElem?_eq_some_iff.1 hcb).1)
        (try replace hcb := (Below.block e1 _ (Array.getElem?_eq_some_iff.1 hcb).1).trans hcb)
        replace hX := hX.trans e1
        clear e1
        generalize V.heap.size = fb at *
        generalize V2 = V at *
        refine hK.out _ _ ?s15 (fun hHeld => ?k15)
        case s15 => ((try dsimp only); (exact ⟨⟨hX.cell l0, hX.cell l1⟩, ⟨hX.cell z0, hX.cell z1, hX.cell z2, hX.cell z3⟩, ⟨hX.cell y0, hX.cell y1, hX.cell y2, hX.cell y3⟩⟩))
        clear hK K
        (try simp only [Act.put, List.setIfInBounds_toArray, List.set_cons_zero, List.set_cons_succ, List.getElem_toArray, List.getElem_cons_zero, List.getElem_cons_succ])
        refine wpAnyH_ready (rs := [15]) (by kernel_rfl) (by simp) ?_
        refine AllReadyH.cons rfl (fun K hK => ?_) AllReadyH.nil
        go_simp
        refine kk_gen (fun W' => Ext V W' ∧ W'.heap[V.heap.size]? = some (.cells #[.int .i64 0, .int .i64 0, .int .i64 0, .string ByteArray.empty] 51 (0, 0))) ⟨Ext.alloc _ _, heap_alloc_new _ _⟩ fun V2 hV2 => ?_
        obtain ⟨e1, hcb⟩ := hV2
        have hcge := Below.size hX
        (try have hlt2 := (Array.getElem?_eq_some_iff.1 hfb).1)
        (try replace hfb := (Below.block e1 _ (Array.getElem?_eq_some_iff.1 hfb).1).trans hfb)
        replace hX := hX.trans e1
        clear e1
        generalize V.heap.size = cb at *
        generalize V2 = V at *
        refine hK.out _ _ ?s16 (fun hHeld => ?k16)
        case s16 => ((try dsimp only); (exact ⟨⟨hX.cell l0, hX.cell l1⟩, ⟨hX.cell z0, hX.cell z1, hX.cell z2, hX.cell z3⟩, ⟨hX.cell y0, hX.cell y1, hX.cell y2, hX.cell y3⟩⟩))
        clear hK K
        (try simp only [Act.put, List.setIfInBounds_toArray, List.set_cons_zero, List.set_cons_succ, List.getElem_toArray, List.getElem_cons_zero, List.getElem_cons_succ])
        refine wpAnyH_ready (rs := [16]) (by kernel_rfl) (by simp) ?_
        refine AllReadyH.cons rfl (fun K hK => ?_) AllReadyH.nil
        have f0 := free_at hfb (i := 0)
        have f1 := free_at hfb (i := 1)
        have f2 := free_at hfb (i := 2)
        have f3 := free_at hfb (i := 3)
        obtain ⟨u0, u1, u2, u3⟩ := cells4 hfb
        have HFB := Lib.hid hfb; have HCB := Lib.hid hcb; have HXV := Lib.hid hX
        clear hfb hcb hX
        go_simp
        refine kk_gen (fun W' => W'.heap[fb]? = some (.cells #[.int .i64 kd, .int .i64 fa, .int .i64 fb', .slice qn cons.length kn] 61 (0, 0)) ∧ Turn [fb] V W') ⟨(fill4 HFB.out _ _ _ _).1, (fill4 HFB.out _ _ _ _).2.1⟩ fun V2 hV2 => ?_
        clear u0 u1 u2 u3 f0 f1 f2 f3
        obtain ⟨hfb, hT⟩ := hV2
        have hcb := (hT.block cb (Array.getElem?_eq_some_iff.1 HCB.out).1 (by simp; omega)).trans HCB.out
        have hX : Ext w V2 := Below.trans HXV.out (hT.below (Below.size HXV.out) (by simp; omega))
        clear HFB HCB hT HXV
        generalize V2 = V at *
        refine hK.out _ _ ?s17 (fun hHeld => ?k17)
        case s17 => ((try dsimp only); (exact ⟨⟨hX.cell l0, hX.cell l1⟩, ⟨hX.cell z0, hX.cell z1, hX.cell z2, hX.cell z3⟩, ⟨hX.cell y0, hX.cell y1, hX.cell y2, hX.cell y3⟩⟩))
        clear hK K
        (try simp only [Act.put, List.setIfInBounds_toArray, List.set_cons_zero, List.set_cons_succ, List.getElem_toArray, List.getElem_cons_zero, List.getElem_cons_succ])
        refine wpAnyH_done (by kernel_rfl) ?_ _
        show wpList _ _ _ _ _ _
        have f0 := free_at hcb (i := 0)
        have f1 := free_at hcb (i := 1)
        have f2 := free_at hcb (i := 2)
        have f3 := free_at hcb (i := 3)
        obtain ⟨u0, u1, u2, u3⟩ := cells4 hcb
        have HFB := Lib.hid hfb; have HCB := Lib.hid hcb; have HXV := Lib.hid hX
        clear hfb hcb hX hHeld
        go_wp2
        refine NoPanic.normal ?_
        go_wp2
        go_meet
        have hT := fill4 HCB.out (.int .i64 ck) (.int .i64 ct) (.int .i64 cn) (.string cx)
        exact ⟨fb, cb, rfl, rfl, (hT.2.1.block fb (Array.getElem?_eq_some_iff.1 HFB.out).1 (by simp; omega)).trans HFB.out, hT.1, Below.trans HXV.out (hT.2.1.below (Below.size HXV.out) (by simp; omega))⟩
      · skip
        go_simp
        refine kk_gen (fun W' => Ext V W' ∧ W'.heap[V.heap.size]? = some (.cells #[.int .i64 0, .int .i64 0, .int .i64 0, .string ByteArray.empty] 51 (0, 0))) ⟨Ext.alloc _ _, heap_alloc_new _ _⟩ fun V2 hV2 => ?_
        obtain ⟨e1, hcb⟩ := hV2
        have hcge := Below.size hX
        (try have hlt2 := (Array.getElem?_eq_some_iff.1 hfb).1)
        (try replace hfb := (Below.block e1 _ (Array.getElem?_eq_some_iff.1 hfb).1).trans hfb)
        replace hX := hX.trans e1
        clear e1
        generalize V.heap.size = cb at *
        generalize V2 = V at *
        refine hK.out _ _ ?s18 (fun hHeld => ?k18)
        case s18 => ((try dsimp only); (exact ⟨⟨hX.cell l0, hX.cell l1⟩, ⟨hX.cell z0, hX.cell z1, hX.cell z2, hX.cell z3⟩, ⟨hX.cell y0, hX.cell y1, hX.cell y2, hX.cell y3⟩⟩))
        clear hK K
        (try simp only [Act.put, List.setIfInBounds_toArray, List.set_cons_zero, List.set_cons_succ, List.getElem_toArray, List.getElem_cons_zero, List.getElem_cons_succ])
        refine wpAnyH_ready (rs := [14]) (by kernel_rfl) (by simp) ?_
        refine AllReadyH.cons rfl (fun K hK => ?_) AllReadyH.nil
        go_simp
        refine kk_gen (fun W' => Ext V W' ∧ W'.heap[V.heap.size]? = some (.cells #[.int .i64 0, .int .i64 0, .int .i64 0, .slice none 0 0] 61 (0, 0))) ⟨Ext.alloc _ _, heap_alloc_new _ _⟩ fun V2 hV2 => ?_
        obtain ⟨e1, hfb⟩ := hV2
        have hfge := Below.size hX
        (try have hlt2 := (Array.getElem?_eq_some_iff.1 hcb).1)
        (try replace hcb := (Below.block e1 _ (Array.getElem?_eq_some_iff.1 hcb).1).trans hcb)
        replace hX := hX.trans e1
        clear e1
        generalize V.heap.size = fb at *
        generalize V2 = V at *
        refine hK.out _ _ ?s19 (fun hHeld => ?k19)
        case s19 => ((try dsimp only); (exact ⟨⟨hX.cell l0, hX.cell l1⟩, ⟨hX.cell z0, hX.cell z1, hX.cell z2, hX.cell z3⟩, ⟨hX.cell y0, hX.cell y1, hX.cell y2, hX.cell y3⟩⟩))
        clear hK K
        (try simp only [Act.put, List.setIfInBounds_toArray, List.set_cons_zero, List.set_cons_succ, List.getElem_toArray, List.getElem_cons_zero, List.getElem_cons_succ])
        refine wpAnyH_ready (rs := [16]) (by kernel_rfl) (by simp) ?_
        refine AllReadyH.cons rfl (fun K hK => ?_) AllReadyH.nil
        have f0 := free_at hfb (i := 0)
        have f1 := free_at hfb (i := 1)
        have f2 := free_at hfb (i := 2)
        have f3 := free_at hfb (i := 3)
        obtain ⟨u0, u1, u2, u3⟩ := cells4 hfb
        have HFB := Lib.hid hfb; have HCB := Lib.hid hcb; have HXV := Lib.hid hX
        clear hfb hcb hX
        go_simp
        refine kk_gen (fun W' => W'.heap[fb]? = some (.cells #[.int .i64 kd, .int .i64 fa, .int .i64 fb', .slice qn cons.length kn] 61 (0, 0)) ∧ Turn [fb] V W') ⟨(fill4 HFB.out _ _ _ _).1, (fill4 HFB.out _ _ _ _).2.1⟩ fun V2 hV2 => ?_
        clear u0 u1 u2 u3 f0 f1 f2 f3
        obtain ⟨hfb, hT⟩ := hV2
        have hcb := (hT.block cb (Array.getElem?_eq_some_iff.1 HCB.out).1 (by simp; omega)).trans HCB.out
        have hX : Ext w V2 := Below.trans HXV.out (hT.below (Below.size HXV.out) (by simp; omega))
        clear HFB HCB hT HXV
        generalize V2 = V at *
        refine hK.out _ _ ?s20 (fun hHeld => ?k20)
        case s20 => ((try dsimp only); (exact ⟨⟨hX.cell l0, hX.cell l1⟩, ⟨hX.cell z0, hX.cell z1, hX.cell z2, hX.cell z3⟩, ⟨hX.cell y0, hX.cell y1, hX.cell y2, hX.cell y3⟩⟩))
        clear hK K
        (try simp only [Act.put, List.setIfInBounds_toArray, List.set_cons_zero, List.set_cons_succ, List.getElem_toArray, List.getElem_cons_zero, List.getElem_cons_succ])
        refine wpAnyH_done (by kernel_rfl) ?_ _
        show wpList _ _ _ _ _ _
        have f0 := free_at hcb (i := 0)
        have f1 := free_at hcb (i := 1)
        have f2 := free_at hcb (i := 2)
        have f3 := free_at hcb (i := 3)
        obtain ⟨u0, u1, u2, u3⟩ := cells4 hcb
        have HFB := Lib.hid hfb; have HCB := Lib.hid hcb; have HXV := Lib.hid hX
        clear hfb hcb hX hHeld
        go_wp2
        refine NoPanic.normal ?_
        go_wp2
        go_meet
        have hT := fill4 HCB.out (.int .i64 ck) (.int .i64 ct) (.int .i64 cn) (.string cx)
        exact ⟨fb, cb, rfl, rfl, (hT.2.1.block fb (Array.getElem?_eq_some_iff.1 HFB.out).1 (by simp; omega)).trans HFB.out, hT.1, Below.trans HXV.out (hT.2.1.below (Below.size HXV.out) (by simp; omega))⟩
    case rest =>
      obtain ⟨fb, cb, rfl, rfl, hfb, hcb, hx⟩ := hcut
      have HX := Lib.hid hx
      clear hx l0 l1 z0 z1 z2 z3 y0 y1 y2 y3
      obtain ⟨z0, z1, z2, z3⟩ := cells4 hfb
      obtain ⟨y0, y1, y2, y3⟩ := cells4 hcb
      clear hfb hcb
      have hg5 : 1 ≤ kd ∧ kd ≤ 7 ∧ 0 ≤ fa ∧ 0 ≤ fb' := by
        have := HGO.out
        unfold goodFo inB at this
        simp only [Bool.and_eq_true, decide_eq_true_eq] at this
        obtain ⟨⟨⟨⟨_, h2⟩, h3⟩, h4⟩, h5⟩ := this
        exact ⟨h2.1, h2.2, h3.1, h4.1⟩
      obtain ⟨hk1, hk7, ha0, hb0⟩ := hg5
      rcases (show kd = 1 ∨ kd = 2 ∨ kd = 3 ∨ kd = 4 ∨ kd = 5 ∨ kd = 6 ∨ kd = 7 by omega) with rfl | rfl | rfl | rfl | rfl | rfl | rfl
      · obtain rfl := (fN1 (s := s) HYF.out HCN.out rfl).symm.trans HFN.out
        clear hk1 hk7 ha0 hb0
        by_cases h0 : ck = 0
        · have t0 : (ck == 0) = true := beq_iff_eq.2 h0
          go_wp2_with fail
          go_ret
          exact one_t rfl HX.out
        · have t0 : (ck == 0) = false := beq_false_of_ne h0
          go_wp2_with fail
          go_ret
          exact one_f rfl HX.out
      · obtain rfl := (fN2 (s := s) HYF.out HCN.out rfl).symm.trans HFN.out
        clear hk1 hk7 ha0 hb0
        go_wp2_with fail
        (with_reducible refine (HIS.out _ HX.out _ _).mono ?_)
        rintro e w1 ⟨rfl, hx⟩
        have HX1 := Lib.hid (HX.out.trans hx)
        clear hx z0 z1 z2 z3 y0 y1 y2 y3
        generalize hB : (decide (ck = 0) && decide (0 ≤ cn) && decide (cn ≤ 1)) = B
        have HBB := Lib.hid hB
        clear hB
        cases B with
        | true =>
          go_wp2_with fail
          go_ret
          exact one_t HBB.out HX1.out
        | false =>
          go_wp2_with fail
          go_ret
          exact one_f HBB.out HX1.out
      · obtain rfl := (fN3 (s := s) HYF.out HCN.out rfl).symm.trans HFN.out
        clear hk1 hk7 ha0 hb0
        go_wp2_with fail
        (with_reducible refine (HIS.out _ HX.out _ _).mono ?_)
        rintro e w1 ⟨rfl, hx⟩
        have HX1 := Lib.hid (HX.out.trans hx)
        clear hx z0 z1 z2 z3 y0 y1 y2 y3
        generalize hB : (decide (ck = 0) && decide (0 ≤ cn) && decide (cn ≤ 0)) = B
        have HBB := Lib.hid hB
        clear hB
        cases B with
        | true =>
          go_wp2_with fail
          go_ret
          exact one_t HBB.out HX1.out
        | false =>
          go_wp2_with fail
          go_ret
          exact one_f HBB.out HX1.out
      · obtain rfl := (fN4 (s := s) HYF.out HCN.out rfl).symm.trans HFN.out
        clear hk1 hk7 ha0 hb0
        by_cases h0 : ck = 2
        · have t0 : (ck == 2) = true := beq_iff_eq.2 h0
          go_wp2_with fail
          go_ret
          exact one_t rfl HX.out
        · have t0 : (ck == 2) = false := beq_false_of_ne h0
          go_wp2_with fail
          go_ret
          exact one_f rfl HX.out
      · have hr := (fN5 (s := s) HYF.out HCN.out rfl).symm.trans HFN.out
        dsimp only at hr
        have hab5 := HAB.out.1 rfl
        obtain ⟨na, rfl⟩ := Int.eq_ofNat_of_zero_le ha0
        obtain ⟨nb, rfl⟩ := Int.eq_ofNat_of_zero_le hb0
        simp only [Int.toNat_natCast, List.length_map] at hab5 hr
        have HR := Lib.hid hr; have HA5 := Lib.hid hab5
        clear hk1 hk7 ha0 hb0 hr hab5
        go_wp2_with fail
        (with_reducible refine (HBL.out _ HX.out _ _).mono ?_)
        rintro e w1 ⟨rfl, hx⟩
        have HX1 := Lib.hid (HX.out.trans hx)
        have z1' := hx.cell z1; have z2' := hx.cell z2
        clear hx
        generalize hB : (decide (ck = 1) && decide (ct = 0) && decide (cn = 2)) = B at HR
        have HBB := Lib.hid hB
        clear hB
        cases B with
        | true =>
          have hw2 : wt ⟨ck, ct, cn, cx⟩ = 2 := by
            have := HBB.out
            simp only [Bool.and_eq_true, decide_eq_true_eq] at this
            rw [HWT.out this.1.1, this.2]; rfl
          have hA2 : At M (at_ + 1) (o + 2) := by have := HNN.out; rwa [hw2] at this
          have hcc := HTWO.out na nb (at_ + 1) o w1 hA2 (by have := HS.out; omega) HA5.out.1 HA5.out.2 (HH.out.ext HX1.out)
          rw [show ((at_ + 1 : Nat) : Int) = (at_ : Int) + 1 by omega] at hcc
          have HC := Lib.hid hcc
          clear hcc
          obtain rfl : res = twoN (X.map (·.f)) M s na nb (at_ + 1) := by have := HR.out; rw [if_pos rfl] at this; exact this.symm
          clear hw2 hA2 HR z0 z1 z2 z3 y0 y1 y2 y3
          go_wp2_with fail
          (with_reducible refine HC.out.mono ?_)
          rintro e w2 ⟨rfl, hx⟩
          have HX2 := Lib.hid (HX1.out.trans hx)
          clear hx z1' z2'
          go_wp2_with fail
          go_ret
          exact ⟨rfl, HX2.out⟩
        | false =>
          obtain rfl : res = 0 := by have := HR.out; rw [if_neg (by decide)] at this; exact this.symm
          clear HR z0 z1 z2 z3 y0 y1 y2 y3 z1' z2'
          go_wp2_with fail
          go_ret
          exact ⟨rfl, HX1.out⟩
      · have hr := (fN6 (s := s) HYF.out HCN.out rfl).symm.trans HFN.out
        dsimp only at hr
        have hab6 := HAB.out.2.1 rfl
        obtain ⟨na, rfl⟩ := Int.eq_ofNat_of_zero_le ha0
        simp only [Int.toNat_natCast, List.length_map] at hab6 hr
        have HR := Lib.hid hr; have HA6 := Lib.hid hab6
        have hkX : k < X.length := by omega
        clear hk1 hk7 ha0 hb0 hr hab6
        go_wp2_with fail
        (with_reducible refine (HBL.out _ HX.out _ _).mono ?_)
        rintro e w1 ⟨rfl, hx⟩
        have HX1 := Lib.hid (HX.out.trans hx)
        have z1' := hx.cell z1
        clear hx
        generalize hB : (decide (ck = 1) && decide (ct = 1) && decide (cn = 2)) = B at HR
        have HBB := Lib.hid hB
        clear hB
        cases B with
        | true =>
          have hw2 : wt ⟨ck, ct, cn, cx⟩ = 2 := by
            have := HBB.out
            simp only [Bool.and_eq_true, decide_eq_true_eq] at this
            rw [HWT.out this.1.1, this.2]; rfl
          have hA2 : At M (at_ + 1) (o + 2) := by have := HNN.out; rwa [hw2] at this
          have hcc := HTWO.out na k (at_ + 1) o w1 hA2 (by have := HS.out; omega) HA6.out hkX (HH.out.ext HX1.out)
          rw [show ((at_ + 1 : Nat) : Int) = (at_ : Int) + 1 by omega] at hcc
          have HC := Lib.hid hcc
          clear hcc
          obtain rfl : res = twoN (X.map (·.f)) M s na k (at_ + 1) := by have := HR.out; rw [if_pos rfl] at this; exact this.symm
          clear hw2 hA2 HR z0 z1 z2 z3 y0 y1 y2 y3
          go_wp2_with fail
          (with_reducible refine HC.out.mono ?_)
          rintro e w2 ⟨rfl, hx⟩
          have HX2 := Lib.hid (HX1.out.trans hx)
          clear hx z1'
          go_wp2_with fail
          go_ret
          exact ⟨rfl, HX2.out⟩
        | false =>
          obtain rfl : res = oneN at_ (decide (ck = 0) && decide (0 ≤ cn) && decide (cn ≤ 0)) := by have := HR.out; rw [if_neg (by decide)] at this; exact this.symm
          clear HR z0 z1 z2 z3 y0 y1 y2 y3 z1'
          go_wp2_with fail
          (with_reducible refine (HIS.out _ HX1.out _ _).mono ?_)
          rintro e w2 ⟨rfl, hx⟩
          have HX2 := Lib.hid (HX1.out.trans hx)
          clear hx
          generalize hB : (decide (ck = 0) && decide (0 ≤ cn) && decide (cn ≤ 0)) = B
          have HB2 := Lib.hid hB
          clear hB
          cases B with
          | true =>
            go_wp2_with fail
            go_ret
            exact one_t HB2.out HX2.out
          | false =>
            go_wp2_with fail
            go_ret
            exact one_f HB2.out HX2.out
      · have hr := (fN7 (s := s) HYF.out HCN.out rfl).symm.trans HFN.out
        dsimp only at hr
        have hab7 := HAB.out.2.2
        simp only [List.length_map] at hab7
        have HR := Lib.hid hr; have HA7 := Lib.hid hab7
        have hcl : 1 ≤ cons.length ∧ cons.length ≤ 20 := by
          have := HGO.out
          unfold goodFo inB at this
          simp only [Bool.and_eq_true, decide_eq_true_eq] at this
          have h5 := this.2
          simp at h5
          omega
        obtain ⟨bn, offn, hqn, -⟩ := HCons.out 0 (ncC cons[0]) (by rw [List.getElem?_map, List.getElem?_eq_getElem (by omega)]; rfl)
        subst hqn
        have hcons : ∀ (i : Nat) (v : Int), cons[i]? = some v → w.cell? ⟨bn, offn + i, none⟩ = some (.int .i64 v) := fun i v hi => by
          obtain ⟨b2, o2, hq, hcc⟩ := HCons.out i (ncC v) (by rw [List.getElem?_map, hi]; rfl)
          obtain ⟨rfl⟩ := Addr.mk.inj (Option.some.inj hq)
          have := hcc 0 _ rfl
          rename_i h2
          obtain ⟨rfl, -⟩ := h2
          rwa [Nat.mul_one, Nat.add_zero] at this
        have HCO := Lib.hid hcons
        clear hk1 hk7 ha0 hb0 hr hab7 hn1 hn2 hcons HCons
        by_cases c1 : ck = 1
        · have t1 : (ck == 1) = true := beq_iff_eq.2 c1
          obtain ⟨-, hct0, -, -, -⟩ := goodC_one HG.out c1
          dsimp only at hct0
          obtain ⟨nt, hnt⟩ := Int.eq_ofNat_of_zero_le hct0
          by_cases c2 : cn = 1
          · have t2 : (cn == 1) = true := beq_iff_eq.2 c2
            by_cases c3 : nt < cons.length
            · have i3 : (nt : Int) < (cons.length : Int) := by omega
              have hcx := List.getElem?_eq_getElem c3
              generalize cons[nt] = cv at hcx
              have zt := HX.out.cell (HCO.out nt cv hcx)
              have hgd : cons.getD ct.toNat 0 = cv := by rw [hnt, Int.toNat_natCast, List.getD_eq_getElem?_getD, hcx]; rfl
              have hr2 := HR.out
              rw [hgd] at hr2
              by_cases c4 : 0 ≤ cv
              · have t4 : decide (0 ≤ cv) = true := decide_eq_true c4
                rw [if_pos ⟨c1, c2, by omega, c4⟩] at hr2
                have hw1 : wt ⟨ck, ct, cn, cx⟩ = 1 := by rw [HWT.out c1, c2]; rfl
                have hA2 : At M (at_ + 1) (o + 1) := by have := HNN.out; rwa [hw1] at this
                have hlt := HA7.out nt c3 (by have := hgd; rw [hnt, Int.toNat_natCast] at this; omega)
                rw [show cons.getD nt 0 = cv by have := hgd; rwa [hnt, Int.toNat_natCast] at this] at hlt
                have hcc := IH.out cv.toNat (at_ + 1) o wc hA2 (by have := HS.out; omega) hlt (HH.out.ext HX.out)
                rw [show ((at_ + 1 : Nat) : Int) = (at_ : Int) + 1 by omega, Int.toNat_of_nonneg c4] at hcc
                have HC := Lib.hid hcc
                have HR2 := Lib.hid hr2
                rw [hnt] at y1
                clear hcc hr2 hw1 hA2 hlt hgd hcx c1 c2 c4 HR hnt hct0
                go_wp2_with fail
                (with_reducible refine HC.out.mono ?_)
                rintro e w2 ⟨rfl, hx⟩
                have HX2 := Lib.hid (HX.out.trans hx)
                clear hx z0 z1 z2 z3 y0 y1 y2 y3 zt
                go_wp2_with fail
                go_ret
                rw [← HR2.out]
                exact ⟨rfl, HX2.out⟩
              · have t4 : decide (0 ≤ cv) = false := decide_eq_false c4
                rw [if_neg (fun hc => c4 hc.2.2.2)] at hr2
                have HR := Lib.hid hr2
                rw [hnt] at y1
                clear hr2 hgd hcx c1 c2 c4 hnt hct0
                go_wp2_with fail
                (with_reducible refine (HIS.out _ HX.out _ _).mono ?_)
                rintro e w1 ⟨rfl, hx⟩
                have HX1 := Lib.hid (HX.out.trans hx)
                have z3' := hx.cell z3; have y2' := hx.cell y2
                clear hx z0 z1 z2 z3 y0 y1 y2 y3
                generalize hB : (decide (ck = 0) && decide (0 ≤ cn) && decide (cn ≤ (cons.length : Int) - 1)) = B at HR
                have HBB := Lib.hid hB
                clear hB
                cases B with
                | false =>
                  clear z3' y2'
                  go_wp2_with fail
                  go_ret
                  rw [← HR.out]
                  exact one_f (Bool.false_and _) HX1.out
                | true =>
                  have hb := HBB.out
                  simp only [Bool.and_eq_true, decide_eq_true_eq] at hb
                  obtain ⟨nn, hnn⟩ := Int.eq_ofNat_of_zero_le hb.1.2
                  have i5 : (nn : Int) < (cons.length : Int) := by omega
                  have hcx := List.getElem?_eq_getElem (show nn < cons.length by omega)
                  generalize cons[nn] = cv at hcx
                  have zc := HX1.out.cell (HCO.out nn cv hcx)
                  have hgd : cons.getD cn.toNat 0 = cv := by rw [hnn, Int.toNat_natCast, List.getD_eq_getElem?_getD, hcx]; rfl
                  have hr3 := HR.out
                  rw [hgd, Bool.true_and] at hr3
                  have HR3 := Lib.hid hr3
                  rw [hnn] at y2'
                  clear hb hnn hcx hgd hr3 HR HBB
                  by_cases c5 : cv < 0
                  · have t5 : decide (cv < 0) = true := decide_eq_true c5
                    go_wp2_with fail
                    go_ret
                    rw [← HR3.out]
                    exact one_t (decide_eq_true c5) HX1.out
                  · have t5 : decide (cv < 0) = false := decide_eq_false c5
                    go_wp2_with fail
                    go_ret
                    rw [← HR3.out]
                    exact one_f (decide_eq_false (by omega)) HX1.out
            · have i3 : ¬ (nt : Int) < (cons.length : Int) := by omega
              have hr2 := HR.out
              rw [if_neg (fun hc => c3 (by have := hc.2.2.1; omega))] at hr2
              have HR := Lib.hid hr2
              rw [hnt] at y1
              clear hr2 c1 c2 c3 hnt hct0
              go_wp2_with fail
              (with_reducible refine (HIS.out _ HX.out _ _).mono ?_)
              rintro e w1 ⟨rfl, hx⟩
              have HX1 := Lib.hid (HX.out.trans hx)
              have z3' := hx.cell z3; have y2' := hx.cell y2
              clear hx z0 z1 z2 z3 y0 y1 y2 y3
              generalize hB : (decide (ck = 0) && decide (0 ≤ cn) && decide (cn ≤ (cons.length : Int) - 1)) = B at HR
              have HBB := Lib.hid hB
              clear hB
              cases B with
              | false =>
                clear z3' y2'
                go_wp2_with fail
                go_ret
                rw [← HR.out]
                exact one_f (Bool.false_and _) HX1.out
              | true =>
                have hb := HBB.out
                simp only [Bool.and_eq_true, decide_eq_true_eq] at hb
                obtain ⟨nn, hnn⟩ := Int.eq_ofNat_of_zero_le hb.1.2
                have i5 : (nn : Int) < (cons.length : Int) := by omega
                have hcx := List.getElem?_eq_getElem (show nn < cons.length by omega)
                generalize cons[nn] = cv at hcx
                have zc := HX1.out.cell (HCO.out nn cv hcx)
                have hgd : cons.getD cn.toNat 0 = cv := by rw [hnn, Int.toNat_natCast, List.getD_eq_getElem?_getD, hcx]; rfl
                have hr3 := HR.out
                rw [hgd, Bool.true_and] at hr3
                have HR3 := Lib.hid hr3
                rw [hnn] at y2'
                clear hb hnn hcx hgd hr3 HR HBB
                by_cases c5 : cv < 0
                · have t5 : decide (cv < 0) = true := decide_eq_true c5
                  go_wp2_with fail
                  go_ret
                  rw [← HR3.out]
                  exact one_t (decide_eq_true c5) HX1.out
                · have t5 : decide (cv < 0) = false := decide_eq_false c5
                  go_wp2_with fail
                  go_ret
                  rw [← HR3.out]
                  exact one_f (decide_eq_false (by omega)) HX1.out
          · have t2 : (cn == 1) = false := beq_false_of_ne c2
            have hr2 := HR.out
            rw [if_neg (fun hc => c2 hc.2.1)] at hr2
            have HR := Lib.hid hr2
            clear hr2 c1 c2
            go_wp2_with fail
            (with_reducible refine (HIS.out _ HX.out _ _).mono ?_)
            rintro e w1 ⟨rfl, hx⟩
            have HX1 := Lib.hid (HX.out.trans hx)
            have z3' := hx.cell z3; have y2' := hx.cell y2
            clear hx z0 z1 z2 z3 y0 y1 y2 y3
            generalize hB : (decide (ck = 0) && decide (0 ≤ cn) && decide (cn ≤ (cons.length : Int) - 1)) = B at HR
            have HBB := Lib.hid hB
            clear hB
            cases B with
            | false =>
              clear z3' y2'
              go_wp2_with fail
              go_ret
              rw [← HR.out]
              exact one_f (Bool.false_and _) HX1.out
            | true =>
              have hb := HBB.out
              simp only [Bool.and_eq_true, decide_eq_true_eq] at hb
              obtain ⟨nn, hnn⟩ := Int.eq_ofNat_of_zero_le hb.1.2
              have i5 : (nn : Int) < (cons.length : Int) := by omega
              have hcx := List.getElem?_eq_getElem (show nn < cons.length by omega)
              generalize cons[nn] = cv at hcx
              have zc := HX1.out.cell (HCO.out nn cv hcx)
              have hgd : cons.getD cn.toNat 0 = cv := by rw [hnn, Int.toNat_natCast, List.getD_eq_getElem?_getD, hcx]; rfl
              have hr3 := HR.out
              rw [hgd, Bool.true_and] at hr3
              have HR3 := Lib.hid hr3
              rw [hnn] at y2'
              clear hb hnn hcx hgd hr3 HR HBB
              by_cases c5 : cv < 0
              · have t5 : decide (cv < 0) = true := decide_eq_true c5
                go_wp2_with fail
                go_ret
                rw [← HR3.out]
                exact one_t (decide_eq_true c5) HX1.out
              · have t5 : decide (cv < 0) = false := decide_eq_false c5
                go_wp2_with fail
                go_ret
                rw [← HR3.out]
                exact one_f (decide_eq_false (by omega)) HX1.out
        · have t1 : (ck == 1) = false := beq_false_of_ne c1
          have hr2 := HR.out
          rw [if_neg (fun hc => c1 hc.1)] at hr2
          have HR := Lib.hid hr2
          clear hr2 c1
          go_wp2_with fail
          (with_reducible refine (HIS.out _ HX.out _ _).mono ?_)
          rintro e w1 ⟨rfl, hx⟩
          have HX1 := Lib.hid (HX.out.trans hx)
          have z3' := hx.cell z3; have y2' := hx.cell y2
          clear hx z0 z1 z2 z3 y0 y1 y2 y3
          generalize hB : (decide (ck = 0) && decide (0 ≤ cn) && decide (cn ≤ (cons.length : Int) - 1)) = B at HR
          have HBB := Lib.hid hB
          clear hB
          cases B with
          | false =>
            clear z3' y2'
            go_wp2_with fail
            go_ret
            rw [← HR.out]
            exact one_f (Bool.false_and _) HX1.out
          | true =>
            have hb := HBB.out
            simp only [Bool.and_eq_true, decide_eq_true_eq] at hb
            obtain ⟨nn, hnn⟩ := Int.eq_ofNat_of_zero_le hb.1.2
            have i5 : (nn : Int) < (cons.length : Int) := by omega
            have hcx := List.getElem?_eq_getElem (show nn < cons.length by omega)
            generalize cons[nn] = cv at hcx
            have zc := HX1.out.cell (HCO.out nn cv hcx)
            have hgd : cons.getD cn.toNat 0 = cv := by rw [hnn, Int.toNat_natCast, List.getD_eq_getElem?_getD, hcx]; rfl
            have hr3 := HR.out
            rw [hgd, Bool.true_and] at hr3
            have HR3 := Lib.hid hr3
            rw [hnn] at y2'
            clear hb hnn hcx hgd hr3 HR HBB
            by_cases c5 : cv < 0
            · have t5 : decide (cv < 0) = true := decide_eq_true c5
              go_wp2_with fail
              go_ret
              rw [← HR3.out]
              exact one_t (decide_eq_true c5) HX1.out
            · have t5 : decide (cv < 0) = false := decide_eq_false c5
              go_wp2_with fail
              go_ret
              rw [← HR3.out]
              exact one_f (decide_eq_false (by omega)) HX1.out
end Go.Proofs.YtppkgfcobnknfaaGreatDoor
/- data.Fits. -/
namespace Go.Proofs.YtppkgfcobnknfaaGreatDoor
open Go.RowKit Go.Maps Arena
set_option maxHeartbeats 8000000
set_option maxRecDepth 100000
theorem goodP_ret (F : List Fo) : goodP ⟨[⟨0, 0, [⟨9, 0, 0⟩]⟩], [], F⟩ = formsB F := by
  unfold goodP formsB
  have h1 : goodFns [⟨0, 0, [⟨9, 0, 0⟩]⟩] true = true := by decide +kernel
  dsimp only
  rw [h1]
  simp [inB]
theorem fits_is {w : World} (hO : OpLie w) {X : List FoI} {qf : Option Addr} {cf : Nat} (hX : RowsP w (.slice qf X.length cf) 4 (X.map foC)) (hc : ∀ y ∈ X, FoP w y) {qm : Option Addr} {cm : Nat} {M : List Cl} (hm : RowsP w (.slice qm M.length cm) 4 (M.map celC)) (k : Int) :
    Calls Tryz.prog 23 #[.slice qf X.length cf, .int .i64 k, .slice qm M.length cm] w fun e w' => e = .returned (.bool (fitD (X.map (·.f)) k M)) ∧ Ext w w' := by
  have HX := Lib.hid hX; have HC := Lib.hid hc; have HM := Lib.hid hm; have HO := Lib.hid hO
  have HG := Lib.hid (fun W (e : Ext w W) => good_msg (show MsgP W (.slice qm M.length cm) M from hm.ext e))
  clear hX hc hm hO
  generalize hr : fitD (X.map (·.f)) k M = res
  have HR := Lib.hid hr
  clear hr
  by_cases h0 : k < 0
  · have t0 : decide (k < 0) = true := decide_eq_true h0
    go_enter Tryz.func23, Tryz.ntmps23
    go_upto_region 2 with fail
    refine wp_alloc2 fun W hE hS b0 b1 => ?_
    obtain ⟨x0, x1, x2⟩ := cells3 b1
    have HE := Lib.hid hE
    have HB0 := Lib.hid b0; have HB1 := Lib.hid b1
    clear b0 b1 hE
    go_wp2_with fail
    go_ret
    exact ⟨by rw [← HR.out]; unfold fitD; rw [decide_eq_false (by omega)]; rfl, HE.out⟩
  have t0 : decide (k < 0) = false := decide_eq_false h0
  obtain ⟨n, rfl⟩ := Int.eq_ofNat_of_zero_le (show 0 ≤ k by omega)
  by_cases h1 : X.length ≤ n
  · have t1 : decide (X.length ≤ n) = true := decide_eq_true h1
    go_enter Tryz.func23, Tryz.ntmps23
    go_upto_region 2 with fail
    refine wp_alloc2 fun W hE hS b0 b1 => ?_
    obtain ⟨x0, x1, x2⟩ := cells3 b1
    have HE := Lib.hid hE
    have HB0 := Lib.hid b0; have HB1 := Lib.hid b1
    clear b0 b1 hE
    go_wp2_with fail
    go_ret
    exact ⟨by rw [← HR.out]; unfold fitD; rw [List.length_map, decide_eq_true (show (0 : Int) ≤ n by omega), decide_eq_false (show ¬ (n : Int) < X.length by omega)]; rfl, HE.out⟩
  have t1 : decide (X.length ≤ n) = false := decide_eq_false h1
  rcases hg : goodM M with _ | _
  · rw [hg] at HG
    go_enter Tryz.func23, Tryz.ntmps23
    go_upto_region 2 with fail
    refine wp_alloc2 fun W hE hS b0 b1 => ?_
    obtain ⟨x0, x1, x2⟩ := cells3 b1
    have HE := Lib.hid hE
    have HB0 := Lib.hid b0; have HB1 := Lib.hid b1
    clear b0 b1 hE
    go_wp2_with fail
    (with_reducible refine (HG.out _ HE.out).mono ?_)
    rintro e w1 ⟨rfl, hx⟩
    have HX1 := Lib.hid (HE.out.trans hx)
    clear hx
    go_wp2_with fail
    go_ret
    obtain rfl : res = false := by rw [← HR.out]; unfold fitD; rw [hg]; simp
    exact ⟨rfl, HX1.out⟩
  rw [hg] at HG
  have HGM := Lib.hid hg
  clear hg
  go_enter Tryz.func23, Tryz.ntmps23
  go_upto_region 2 with fail
  refine wp_alloc2 fun W hE hS b0 b1 => ?_
  obtain ⟨x0, x1, x2⟩ := cells3 b1
  have HE := Lib.hid hE
  have HB0 := Lib.hid b0; have HB1 := Lib.hid b1
  clear b0 b1 hE
  go_wp2_with fail
  (with_reducible refine (HG.out _ HE.out).mono ?_)
  rintro e w1 ⟨rfl, hx⟩
  have HX1 := Lib.hid (HE.out.trans hx)
  have b0 := (Below.block hx w.heap.size (by omega)).trans HB0.out
  replace x0 := hx.cell x0; replace x1 := hx.cell x1; replace x2 := hx.cell x2
  have HB0 := Lib.hid b0
  have hs1 := Below.size hx
  clear hx b0 HB1
  go_upto_region 3 with fail
  have hE5 := Ext.alloc w1 (.cells #[.int .i64 0, .int .i64 0, .slice (some ⟨w.heap.size, 0, none⟩) 1 1] 104)
  have hp : PgP (w1.alloc (.cells #[.int .i64 0, .int .i64 0, .slice (some ⟨w.heap.size, 0, none⟩) 1 1] 104)) ⟨[⟨⟨0, 0, [⟨9, 0, 0⟩]⟩, .slice (some ⟨w.heap.size, 0, none⟩) 1 1⟩], [], X, .slice (some ⟨w1.heap.size, 0, none⟩) 1 1, .slice none 0 0, .slice qf X.length cf⟩ := by
    refine ⟨rows_of_block (cs := #[.int .i64 0, .int .i64 0, .slice (some ⟨w.heap.size, 0, none⟩) 1 1]) (heap_alloc_new _ _) rfl (by intro u hu; simp at hu; rcases hu with rfl | rfl <;> rfl), RowsP.nil _ _, HX.out.ext (HX1.out.trans hE5), fun y hy => ?_, fun y hy => (HC.out y hy).ext (HX1.out.trans hE5)⟩
    simp only [List.mem_singleton] at hy
    subst hy
    exact rows_of_block (cs := #[.int .i64 9, .int .i64 0, .int .i64 0]) ((Below.block hE5 w.heap.size (by omega)).trans HB0.out) rfl (by intro u hu; simp at hu; rcases hu with rfl | rfl <;> rfl)
  have hcg := code_good (HO.out.ext (HX1.out.trans hE5)) _ hp
  simp only [PgI.p, List.map_cons, List.map_nil] at hcg
  rw [goodP_ret] at hcg
  generalize hf : formsB (List.map (fun x => x.f) X) = fb at hcg
  have HCG := Lib.hid hcg
  have HX5 := Lib.hid (HX1.out.trans hE5)
  clear hcg hp hE5
  clear x0 x1 x2 HB0 HX1
  have HF0 := Lib.hid hf
  clear hf
  cases fb
  · (with_reducible refine HCG.out.mono ?_)
    rintro e w2 ⟨rfl, hx⟩
    have HX2 := Lib.hid (HX5.out.trans hx)
    clear hx HX5 HCG
    obtain rfl : res = false := by rw [← HR.out]; unfold fitD; rw [HF0.out]; simp
    go_wp2_with fail
    go_ret
    exact ⟨rfl, HX2.out⟩
  (with_reducible refine HCG.out.mono ?_)
  rintro e w2 ⟨rfl, hx⟩
  have HX2 := Lib.hid (HX5.out.trans hx)
  have hf := HF0.out
  clear hx HX5 HCG
  have hre : (fitsN (X.map (·.f)) M M.length n 0 == M.length) = res := by
    rw [← HR.out]; unfold fitD
    rw [List.length_map, decide_eq_true (show (0 : Int) ≤ n by omega), decide_eq_true (show (n : Int) < X.length by omega), HGM.out, hf, Int.toNat_natCast]; rfl
  have HRE := Lib.hid hre
  have HFB := Lib.hid (formsB_all hf)
  clear hre hf HR
  go_upto_region 5 with fail
  have hE6 := Ext.alloc w2 (.cells #[.slice qf X.length cf, .slice qm M.length cm] 112)
  have hx6 := HX2.out.trans hE6
  have hcall := fwhole_is (goodM_len HGM.out).2 HFB.out.2 M.length n 0 0 (w2.alloc (.cells #[.slice qf X.length cf, .slice qm M.length cm] 112)) (At.first HGM.out) (by omega) (by omega) ⟨heap_alloc_new _ _, HX.out.ext hx6, HM.out.ext hx6, fun y hy => (HC.out y hy).ext hx6⟩
  rw [show ((0 : Nat) : Int) = 0 from rfl] at hcall
  generalize fitsN (X.map (·.f)) M M.length n 0 = a at *
  have HCALL := Lib.hid hcall; have HX6 := Lib.hid hx6
  clear hcall hx6 hE6
  have ht : ((a : Int) == (M.length : Int)) = res := by
    rw [← HRE.out, Bool.eq_iff_iff]; simp only [beq_iff_eq]; omega
  cases res with
  | true =>
    go_wp2_with fail
    (with_reducible refine HCALL.out.mono ?_)
    rintro e w3 ⟨rfl, hx⟩
    have HX7 := Lib.hid (HX6.out.trans hx)
    clear hx
    go_wp2_with fail
    go_ret
    exact ⟨rfl, HX7.out⟩
  | false =>
    go_wp2_with fail
    (with_reducible refine HCALL.out.mono ?_)
    rintro e w3 ⟨rfl, hx⟩
    have HX7 := Lib.hid (HX6.out.trans hx)
    clear hx
    go_wp2_with fail
    go_ret
    exact ⟨rfl, HX7.out⟩
end Go.Proofs.YtppkgfcobnknfaaGreatDoor
/- wakes of package data's statements: what it asks. -/
namespace Go.Proofs.YtppkgfcobnknfaaGreatDoor
open Go.RowKit Go.Maps Arena
set_option maxHeartbeats 8000000
set_option maxRecDepth 100000
theorem run_drop1 {P : Program} {ST T : TypeId} {s bytes : Nat} (E : ElemT P ST T s bytes) (w : World) (b off n c : Nat) (hn : 1 ≤ n) (_hc : n ≤ c) (h2 : 2 ≤ c) : (Instr.slice ST (.slice (some ⟨b, off, none⟩) n c) (some (.int .i64 1)) none none).run P w = .ok (.slice (some ⟨b, off + s, none⟩) (n - 1) (c - 1)) w := by
  obtain ⟨z, hinfo, _⟩ := E.info
  obtain ⟨i0, hi, hz0, hz1, hz2⟩ := info_parts hinfo
  have hel : P.elem ST = T := by simp [Program.elem, E.under]
  have hsz : (sizeOf (P.elem ST)).run P w = .ok s w := by rw [hel]; simp [sizeOf, typeInfo, hi, hz1]
  rw [run_slice_l w ST (some ⟨b, off, none⟩) n c (by rw [hel]; exact E.under) .i64 1 (by omega) (by omega), hsz]
  have h : c ≠ 1 := by omega
  simp [sliced, h, Addr.add]
theorem flat_drop1 {s : Nat} {l : List (List Value)} (h : Rows1 s l) : (l.drop 1).flatten = l.flatten.drop s := by
  cases l with
  | nil => simp
  | cons c l =>
    have h1 := (h c (.head _)).1
    rw [List.drop_succ_cons, List.drop_zero, List.flatten_cons, List.drop_append, h1, List.drop_of_length_le (by omega), Nat.sub_self]
    simp
theorem RowsP.drop1 {w : World} {b off n c s : Nat} {l : List (List Value)} (h : RowsP w (.slice (some ⟨b, off, none⟩) n c) s l) (h1 : 1 ≤ n) : RowsP w (.slice (some ⟨b, off + s, none⟩) (n - 1) (c - 1)) s (l.drop 1) := by
  obtain ⟨hr, h2⟩ := h
  refine ⟨hr.drop 1, ?_⟩
  rcases h2 with ⟨h3, rfl⟩ | ⟨b', off', c', h3, h4, h5, h6⟩
  · rcases h3 with h3 | ⟨a, c', h3, _⟩
    · cases h3
    · obtain ⟨_, h4, _⟩ := Value.slice.inj h3; omega
  · obtain ⟨e1, rfl, rfl⟩ := Value.slice.inj h3
    obtain ⟨rfl⟩ := Addr.mk.inj (Option.some.inj e1)
    rename_i e2
    obtain ⟨rfl, -⟩ := e2
    refine .inr ⟨b, off + s, c - 1, by rw [List.length_drop], by rw [List.length_drop]; omega, by omega, fun j u hu => ?_⟩
    rw [flat_drop1 hr, List.getElem?_drop] at hu
    have := h6 (s + j) u hu
    rwa [← Nat.add_assoc] at this
def oneM : List Cl := [⟨1, 1, 2, ByteArray.empty⟩, ⟨0, 0, 1, ByteArray.empty⟩, ⟨1, 1, 2, ByteArray.empty⟩, ⟨2, 0, 0, ⟨#[97, 98]⟩⟩, ⟨0, 0, 0, ByteArray.empty⟩]
def d0ws : List Int := rigW (List.replicate 20 0) 20
def d0H : Hp := ⟨3, 10, 0, 0⟩
def d1H : Hp := ⟨3, 10, 0, 8⟩
theorem d0_64 : ∀ x ∈ d0ws, W64 x := rigW_mem (by intro x hx; rw [(List.mem_replicate.1 hx).2]; exact w64_zero) _
theorem oneM_good : goodM oneM = true := by first | rfl | decide +kernel
theorem oneM_sum : wsum oneM = 8 := by first | rfl | decide +kernel
theorem oneM_cut : goodM (oneM.drop 1) = false := by first | rfl | decide +kernel
theorem d0_in : inB' d0ws (rigR 20) d0H oneM = true := by first | rfl | kernel_rfl
theorem d0_wd : wdC oneM (topN d0H) 0 = 0 := by first | rfl | decide +kernel
def d1ws : List Int := inWs d0ws (rigR 20) d0H oneM
def w64B (x : Int) : Bool := decide (0 ≤ x) && decide (x < 18446744073709551616)
theorem w64B_all {l : List Int} (h : l.all w64B = true) : ∀ x ∈ l, W64 x := fun x hx => by
  have := List.all_eq_true.1 h x hx
  unfold w64B at this
  simp only [Bool.and_eq_true, decide_eq_true_eq] at this
  exact ⟨this.1, by have := this.2; omega⟩
theorem d1_64 : ∀ x ∈ d1ws, W64 x := w64B_all (l := d1ws) (by kernel_rfl)
theorem d1_in : inB' d1ws (rigR 20) d1H oneM = false := by first | rfl | kernel_rfl
theorem d1_out : outH d1ws (rigR 20) d1H 0 = some oneM := by first | rfl | kernel_rfl
def dF : List Fo := [⟨6, 1, 0, []⟩, ⟨1, 0, 0, []⟩]
def dL : List Cl := [⟨1, 1, 2, ByteArray.empty⟩, ⟨0, 0, 1, ByteArray.empty⟩, ⟨0, 0, 0, ByteArray.empty⟩]
theorem dF_1 : fitD dF 0 dL = true := by first | rfl | kernel_rfl
theorem dF_2 : fitD dF 0 oneM = false := by first | rfl | kernel_rfl
theorem dF_3 : fitD dF 2 dL = false := by first | rfl | kernel_rfl
end Go.Proofs.YtppkgfcobnknfaaGreatDoor
/- stockpotrig.Lay: the walk. -/
namespace Go.Proofs.YtppkgfcobnknfaaGreatDoor
open Go.RowKit Go.Maps Arena
set_option maxHeartbeats 8000000
set_option maxRecDepth 100000
attribute [local go_sem ↓] Go.wp_at_zero Go.wp_at_succ
theorem new_at {w : World} {n : Nat} {x : Int} (hx : x = (n : Int)) (h1 : 1 ≤ n) (h2 : n ≤ 20000) : Calls Tryz.prog 24 #[.int .i64 x] w fun e w' =>
    ∃ p g bm, e = .returned (.tuple #[.pointer (some ⟨p, 0, none⟩), .bool true]) ∧ ArenaAt w' p g bm n (List.replicate n 0) [] ∧ Ext w w' ∧ w.heap.size ≤ p ∧ w.heap.size ≤ g ∧ w.heap.size ≤ bm := by subst hx; exact new_is h1 h2
theorem refnew_at {w : World} {n : Nat} {x : Int} (hx : x = (n : Int)) (h1 : 1 ≤ n) (h2 : n ≤ 20000) : Calls Tryz.prog 25 #[.int .i64 x] w fun e w' =>
    ∃ q gq, e = .returned (.pointer (some ⟨q, 0, none⟩)) ∧ RefAt w' q gq w'.heap.size n (List.replicate n 0) (.slice none 0 0) [] ∧ Ext w w' ∧ w.heap.size ≤ q ∧ w.heap.size ≤ gq := by subst hx; exact refnew_is h1 h2
theorem Both.base {w0 w1 w : World} {p g bm q gq B n : Nat} {ws : List Int} {R : List (Nat × Nat)} (h : Both w1 w p g bm q gq B n ws R) (e : Ext w0 w1) : Both w0 w p g bm q gq B n ws R := by
  have := Below.size e
  obtain ⟨g1, g2, g3⟩ := h.ge
  exact ⟨h.a, h.r, h.lt, ⟨by omega, by omega, by omega⟩, h.size, e.trans h.ext⟩
/-- the program's region is cut -/
theorem Both.cutA {w0 w : World} {p g bm q gq B n : Nat} {ws : List Int} {R R' : List (Nat × Nat)} {k a : Nat} (h : Both w0 w p g bm q gq B n ws R) (hk : 1 ≤ k) (hk2 : k ≤ 9223372036854775807) (hs : scan k 0 R = a) (hfit : a + k ≤ n) (hR : ins (a, k) R = R') (hz : setMany ws a (List.replicate k 0) = ws) :
    Calls Tryz.prog 26 #[.pointer (some ⟨p, 0, none⟩), .int .i64 k] w fun e w' => e = .returned (.tuple #[.int .i64 a, .bool true]) ∧ ArenaAt w' p g bm n ws R' ∧ Turn [g, bm] w w' := by
  have := cut_yes h.a hk hk2 hs hfit hR
  rw [hz] at this
  exact this
theorem refcut_yes {w : World} {q gq B n : Nat} {ws : List Int} {R R' : List (Nat × Nat)} {k a : Nat} (h : ∃ v, RefAt w q gq B n ws v R) (hB : B ≤ w.heap.size) (hk : 1 ≤ k) (hk2 : k ≤ 9223372036854775807) (hs : scan k 0 R = a) (hfit : a + k ≤ n) (hR : ins (a, k) R = R') (hz : setMany ws a (List.replicate k 0) = ws) :
    Calls Tryz.prog 27 #[.pointer (some ⟨q, 0, none⟩), .int .i64 k] w fun e w' => e = .returned (.int .i64 a) ∧ (∃ v, RefAt w' q gq B n ws v R') ∧ Turn [q, gq] w w' := by
  obtain ⟨v, hr⟩ := h
  refine (refcut_is hr hB hk hk2).mono ?_
  subst hs
  rintro e w' (⟨_, h1, h2, h3⟩ | ⟨h1, _⟩)
  · rw [hz, hR] at h2
    exact ⟨h1, h2, h3⟩
  · exact absurd hfit h1
/-- another block of what is new is written -/
theorem Both.other {w0 w w' : World} {p g bm q gq B n : Nat} {ws : List Int} {R : List (Nat × Nat)} (h : Both w0 w p g bm q gq B n ws R) {bs : List Nat} (t : Turn bs w w') (hb : ∀ b ∈ bs, w0.heap.size ≤ b ∧ b < p ∧ b < g ∧ b < bm) : Both w0 w' p g bm q gq B n ws R := by
  obtain ⟨l1, l2, l3, l4, l5, l6⟩ := h.lt
  obtain ⟨v, hr⟩ := h.r
  have hqB := hr.qB
  refine ⟨h.a.turn t (fun hm => ?_) (fun hm => ?_) (fun hm => ?_), ⟨v, hr.turn t (fun hm => ?_) (fun hm => ?_) (fun b hm => ?_)⟩, h.lt, h.ge, Nat.le_trans h.size t.size, Below.trans h.ext (t.below h.ext.size fun b hm => (hb b hm).1)⟩
  · have := hb _ hm; omega
  · have := hb _ hm; omega
  · have := hb _ hm; omega
  · have := hb _ hm; omega
  · have := hb _ hm; omega
  · have := hb _ hm; omega
theorem ztwo {w : World} {p g bm n N : Nat} {R R' : List (Nat × Nat)} {k a : Nat} (h : ArenaAt w p g bm n (List.replicate N 0) R) (hk : 1 ≤ k) (hk2 : k ≤ 9223372036854775807) (hs : scan k 0 R = a) (hfit : a + k ≤ n) (hR : ins (a, k) R = R') :
    Calls Tryz.prog 26 #[.pointer (some ⟨p, 0, none⟩), .int .i64 k] w fun e w' => e = .returned (.tuple #[.int .i64 a, .bool true]) ∧ ArenaAt w' p g bm n (List.replicate N 0) R' ∧ Turn [g, bm] w w' := by
  have := cut_yes h hk hk2 hs hfit hR
  rw [setMany_zero] at this
  exact this
theorem lay_words {w : World} {v : Value} {l : List Int} (hv : WordSl w v l) (hl : l.length ≤ 1000) : Calls Tryz.prog 7 #[v] w fun e w' => ∃ p g bm q gq B, e = .returned (.tuple #[.agg #[.pointer (some ⟨p, 0, none⟩), .pointer (some ⟨q, 0, none⟩)], .int .i64 3, .bool true]) ∧ Both w w' p g bm q gq B (l.length + 10) (rigW l l.length) (rigR (max 1 l.length)) := by
  obtain ⟨qv, cv, rfl, hd1, hd2, hcell⟩ := hv
  have HL := Lib.hid hcell
  unfold maxLen at hd2
  clear hcell
  obtain ⟨m, hm⟩ : ∃ m : Nat, m = max 1 l.length := ⟨_, rfl⟩
  have hmi : max (1 : Int) (l.length : Int) = (m : Int) := by omega
  have hm1 : 1 ≤ m := by omega
  have hm2 : l.length ≤ m := by omega
  have hm3 : m ≤ l.length + 1 := by omega
  rw [← hm]
  have HM := Lib.hid hm
  clear hm
  go_enter Tryz.func7, Tryz.ntmps7
  go_wp2_with fail
  refine at_alloc1 fun W hE hS b0 => ?_
  have HE := Lib.hid hE
  have hBW : w.heap.size < W.heap.size := by omega
  clear hE hS
  generalize hbk : w.heap.size = bk at b0 hBW ⊢
  have HBK := Lib.hid hbk
  clear hbk
  refine (new_at (n := l.length + 10) (by omega) (by omega) (by omega)).mono ?_; rintro e w1 ⟨p, g, bm, rfl, h1, hx1, hp, hg, hbm⟩
  have HX1 := Lib.hid hx1; have H1 := Lib.hid h1
  have hlt1 := h1.lt
  clear h1 hx1
  go_wp2_with fail
  refine (refnew_at (n := l.length + 10) (by omega) (by omega) (by omega)).mono ?_; rintro e w2 ⟨q, gq, rfl, h2, hx2, hq, hgq⟩
  have hsz2 := h2.qB
  have HB := Lib.hid (show Both W w2 p g bm q gq w2.heap.size (l.length + 10) (List.replicate (l.length + 10) 0) [] from ⟨H1.out.ext hx2, ⟨_, h2⟩, by omega, ⟨hp, hg, hbm⟩, Nat.le_refl _, HX1.out.trans hx2⟩)
  clear h2 hx2 hsz2 hlt1 HX1 H1
  generalize w2.heap.size = BB at *
  go_wp2_with fail
  refine (HB.out.cutA (k := 3) (a := 0) (R' := [(0, 3)]) (by omega) (by omega) rfl (by omega) rfl (setMany_zero _ _ _)).mono ?_; rintro e w3 ⟨rfl, hA3, hT3⟩
  have HA3 := Lib.hid hA3; have HT3 := Lib.hid hT3
  clear hA3 hT3
  go_wp2_with fail
  refine (ztwo HA3.out hm1 (by omega) (rig_scan hm1) (by omega) (rig_ins m)).mono ?_; rintro e w4 ⟨rfl, hA4, hT4⟩
  have HA4 := Lib.hid hA4; have HT4 := Lib.hid (HT3.out.trans hT4)
  have HR4 := Lib.hid (HB.out.turnA HT4.out (by simp))
  clear hA4 hT4 HA3 HT3
  go_wp2_with fail
  refine (refcut_yes (k := 3) (a := 0) (R' := [(0, 3)]) HR4.out.1 HR4.out.2.1 (by omega) (by omega) rfl (by omega) rfl (setMany_zero _ _ _)).mono ?_; rintro e w5 ⟨rfl, hR5, hT5⟩
  have HR5 := Lib.hid hR5; have HT5 := Lib.hid hT5
  have HB5 := Lib.hid (Nat.le_trans HR4.out.2.1 hT5.size)
  clear hR5 hT5
  go_wp2_with fail
  refine (refcut_yes (k := m) (a := 3) (R' := rigR m) HR5.out HB5.out hm1 (by omega) (rig_scan hm1) (by omega) (rig_ins m) (setMany_zero _ _ _)).mono ?_; rintro e w6 ⟨rfl, hR6, hT6⟩
  have HC := Lib.hid (show Both W w6 p g bm q gq BB (l.length + 10) (rigW l 0) (rigR m) by
    rw [rigW_zero]
    exact HB.out.mk1 HA4.out HT4.out (by simp) hR6 (HT5.out.trans hT6) (by simp))
  clear hR6 hT6 HR5 HT5 HB5 HR4 HA4 HT4 HB
  go_wp2_with fail
  go_loopw [14] (fun i wr => ∃ j : Nat, j ≤ l.length ∧ i = .int .i64 j ∧ Both W wr p g bm q gq BB (l.length + 10) (rigW l j) (rigR m)) (fun i _ => l.length - (Go.RowKit.intOf i).toNat)
  case atStart => exact ⟨0, by omega, rfl, HC.out⟩
  case round =>
    obtain ⟨j, hj, rfl, hB⟩ := hrel
    have HD := Lib.hid hB
    clear hB HC
    by_cases hlt : j < l.length
    · obtain ⟨b1, o1, rfl, p0⟩ := HL.out j l[j] (List.getElem?_eq_getElem hlt)
      have P0 := HD.out.ext.cell (HE.out.cell p0)
      have hS1 := rigW_step hlt hm2
      have HS1 := Lib.hid hS1
      clear hS1
      generalize l[j] = x at *
      have i1 : (j : Int) < (l.length : Int) := by omega
      have hw3 : (Lit.int .i64 3).wf = true := by decide
      have HWi := Lib.hid (rig_within (show j < m by omega))
      go_wp2_with fail
      refine (setA_said (x := 3) (a := (j : Int)) (v := x) HD.out.a hw3).mono ?_; rintro e w7 ⟨rfl, hA7, hT7⟩
      rw [HWi.out]
      rw [HS1.out] at hA7
      have HA7 := Lib.hid hA7; have HT7 := Lib.hid hT7
      have HR7 := Lib.hid (HD.out.turnA hT7 (by simp))
      have P1 := HR7.out.2.2.cell (HE.out.cell p0)
      clear hA7 hT7
      go_wp2_with fail
      obtain ⟨vR, hr7⟩ := HR7.out.1
      refine (setR_said (x := 3) (a := (j : Int)) (v := x) hr7).mono ?_; rintro e w8 ⟨rfl, hR8, hT8⟩
      rw [HS1.out] at hR8
      have HB8 := Lib.hid (HD.out.mk1 HA7.out HT7.out (by simp) ⟨vR, hR8⟩ hT8 (by simp))
      clear hr7 hR8 hT8
      go_wp2_with fail
      exact ⟨⟨j + 1, by omega, by go_num, HB8.out⟩, by simp [Go.RowKit.intOf]; omega⟩
    · obtain rfl : j = l.length := by omega
      have hrow : wr.heap[bk]? = some (Obj.cells #[Value.pointer none, Value.pointer none] 33 (0, 0)) := by rw [Below.block HD.out.ext bk hBW]; exact b0
      have c0 : wr.cell? ⟨bk, 0, none⟩ = some (.pointer none) := by simp [World.cell?, hrow]
      have c1 : wr.cell? ⟨bk, 1, none⟩ = some (.pointer none) := by simp [World.cell?, hrow]
      have f0 : wr.frozen? ⟨bk, 0, none⟩ = false := by simp [World.frozen?, hrow]
      have f1 : wr.frozen? ⟨bk, 1, none⟩ = false := by simp [World.frozen?, hrow]
      clear b0
      go_wp2_with fail
      have g0 : ((wr.setCell ⟨bk, 0, none⟩ (.pointer (some ⟨p, 0, none⟩))).setCell ⟨bk, 1, none⟩ (.pointer (some ⟨q, 0, none⟩))).heap[bk]? = some (Obj.cells #[.pointer (some ⟨p, 0, none⟩), .pointer (some ⟨q, 0, none⟩)] 33 (0, 0)) := by
        simp [World.setCell, Array.getElem?_modify, hrow]
      have e0 := (show ((wr.setCell ⟨bk, 0, none⟩ (.pointer (some ⟨p, 0, none⟩))).setCell ⟨bk, 1, none⟩ (.pointer (some ⟨q, 0, none⟩))).cell? ⟨bk, 0, none⟩ = some (.pointer (some ⟨p, 0, none⟩)) by simp [World.cell?, g0])
      have e1 := (show ((wr.setCell ⟨bk, 0, none⟩ (.pointer (some ⟨p, 0, none⟩))).setCell ⟨bk, 1, none⟩ (.pointer (some ⟨q, 0, none⟩))).cell? ⟨bk, 1, none⟩ = some (.pointer (some ⟨q, 0, none⟩)) by simp [World.cell?, g0])
      have ht : Turn [bk] wr ((wr.setCell ⟨bk, 0, none⟩ (.pointer (some ⟨p, 0, none⟩))).setCell ⟨bk, 1, none⟩ (.pointer (some ⟨q, 0, none⟩))) := ((Turn.refl _ _).setCell (.inl (by simp)) _).setCell (.inl (by simp)) _
      have HT := Lib.hid ht
      generalize (wr.setCell ⟨bk, 0, none⟩ (.pointer (some ⟨p, 0, none⟩))).setCell ⟨bk, 1, none⟩ (.pointer (some ⟨q, 0, none⟩)) = wz at *
      clear ht g0 hrow
      have hfin : Both w wz p g bm q gq BB (l.length + 10) (rigW l l.length) (rigR m) := (HD.out.base HE.out).other HT.out (by intro b hb; simp at hb; subst hb; exact ⟨Nat.le_of_eq HBK.out, by omega, by omega, by omega⟩)
      refine bodyPost_ret (v := .tuple #[.agg #[.pointer (some ⟨p, 0, none⟩), .pointer (some ⟨q, 0, none⟩)], .int .i64 3, .bool true]) (by simp [results, Tryz.results7, go_sem, e0, e1]) rfl ⟨p, g, bm, q, gq, BB, rfl, hfin⟩
end Go.Proofs.YtppkgfcobnknfaaGreatDoor
/- wakes of package data's statements: the walk. -/
namespace Go.Proofs.YtppkgfcobnknfaaGreatDoor
open Go.RowKit Go.Maps Arena
set_option maxHeartbeats 8000000
set_option maxRecDepth 100000
theorem made_words (w : World) (n : Nat) (hn : n ≤ 1000) (T : TypeId) : WordSl (w.alloc (.cells (madeCells #[.int .u64 0] n) T)) (.slice (some ⟨w.heap.size, 0, none⟩) n n) (List.replicate n 0) := by
  refine ⟨_, n, by rw [List.length_replicate], by simp, by unfold maxLen; omega, fun i x hx => ⟨_, 0, rfl, ?_⟩⟩
  rw [List.getElem?_replicate] at hx
  split at hx
  · cases hx
    have h0 := heap_alloc_new w (.cells (madeCells #[Value.int .u64 0] n) T)
    rw [made_zeros] at h0 ⊢
    unfold World.cell?
    rw [h0]
    simp [*]
  · cases hx
/-- an arena beside the pair that holds it -/
structure D10 (w V : World) (p g bm t0 q n : Nat) (ws : List Int) (R : List (Nat × Nat)) : Prop where
  a : ArenaAt V p g bm n ws R
  two : V.heap[t0]? = some (.cells #[.pointer (some ⟨p, 0, none⟩), .pointer (some ⟨q, 0, none⟩)] 33 (0, 0))
  x : Ext w V
  ge : w.heap.size ≤ g ∧ p < t0 ∧ g < t0 ∧ bm < t0
theorem D10.lt {w V : World} {p g bm t0 q n : Nat} {ws : List Int} {R : List (Nat × Nat)} (h : D10 w V p g bm t0 q n ws R) : t0 < V.heap.size := (Array.getElem?_eq_some_iff.1 h.two).1
theorem D10.ext {w V V' : World} {p g bm t0 q n : Nat} {ws : List Int} {R : List (Nat × Nat)} (h : D10 w V p g bm t0 q n ws R) (e : Ext V V') : D10 w V' p g bm t0 q n ws R :=
  ⟨h.a.ext e, (Below.block e t0 h.lt).trans h.two, h.x.trans e, h.ge⟩
theorem D10.put {w V V' : World} {p g bm t0 q n : Nat} {ws ws' : List Int} {R : List (Nat × Nat)} (h : D10 w V p g bm t0 q n ws R) (a : ArenaAt V' p g bm n ws' R) (t : Turn [g] V V') : D10 w V' p g bm t0 q n ws' R := by
  obtain ⟨h1, h2, h3, h4⟩ := h.ge
  exact ⟨a, (t.block t0 h.lt (by simp; omega)).trans h.two, Below.trans h.x (t.below (Below.size h.x) (by simp; omega)), h.ge⟩
theorem D10.turn {w V V' : World} {p g bm t0 q n b : Nat} {ws : List Int} {R : List (Nat × Nat)} (h : D10 w V p g bm t0 q n ws R) (t : Turn [b] V V') (hb : t0 < b) : D10 w V' p g bm t0 q n ws R := by
  obtain ⟨h1, h2, h3, h4⟩ := h.ge
  have h5 := h.x.size
  have h6 := h.lt
  exact ⟨h.a.turn t (by simp; omega) (by simp; omega) (by simp; omega), (t.block t0 h.lt (by simp; omega)).trans h.two, Below.trans h.x (t.below (Below.size h.x) (by simp; omega)), h.ge⟩
theorem din_10 {V : World} {p g bm : Nat} (H : ArenaAt V p g bm 30 d0ws (rigR 20)) {q : Option Addr} {c : Nat} (hm : ∀ W, Turn [g] V W → RowsP W (.slice q 5 c) 4 (oneM.map celC)) :
    Calls Tryz.prog 11 #[.pointer (some ⟨p, 0, none⟩), .agg #[.int .i64 3, .int .i64 10, .int .i64 0, .int .i64 0], .slice q 5 c] V fun e w' =>
      e = .returned (.tuple #[.agg #[.int .i64 3, .int .i64 10, .int .i64 0, .int .i64 8], .int .u64 0, .bool true]) ∧ ArenaAt w' p g bm 30 d1ws (rigR 20) ∧ Turn [g] V w' := by
  have h := din_yes (M := oneM) H d0H (by decide) d0_64 (qm := q) (cm := c) (hm V (Turn.refl _ _)) hm d0_in
  rw [d0_wd, oneM_sum] at h
  exact h
theorem dre_10 {V : World} {p g bm : Nat} (H : ArenaAt V p g bm 30 d1ws (rigR 20)) {q : Option Addr} {c : Nat} (hm : RowsP V (.slice q 5 c) 4 (oneM.map celC)) :
    Calls Tryz.prog 11 #[.pointer (some ⟨p, 0, none⟩), .agg #[.int .i64 3, .int .i64 10, .int .i64 0, .int .i64 8], .slice q 5 c] V fun e w' =>
      e = .returned (.tuple #[.agg #[.int .i64 0, .int .i64 0, .int .i64 0, .int .i64 0], .int .u64 0, .bool false]) ∧ Ext V w' := din_no H d1H (by decide) d1_64 (v := .slice q 5 c) hm d1_in
theorem out_10 {V : World} {p g bm : Nat} (H : ArenaAt V p g bm 30 d1ws (rigR 20)) :
    Calls Tryz.prog 15 #[.pointer (some ⟨p, 0, none⟩), .agg #[.int .i64 3, .int .i64 10, .int .i64 0, .int .i64 8], .int .u64 0] V fun e w' =>
      ∃ q c, e = .returned (.tuple #[.slice q 5 c, .bool true]) ∧ OwnP w' V.heap.size 51 (.slice q 5 c) 4 (oneM.map celC) ∧ Ext V w' := by
  have h := out_is H d1H (by decide) d1_64 (x := 0) w64_zero
  rw [d1_out] at h
  exact h
theorem one_10 (w : World) : Calls Tryz.prog 21 #[] w fun e w' => ∃ q c, e = .returned (.slice q 5 c) ∧ OwnP w' w.heap.size 51 (.slice q 5 c) 4 (oneM.map celC) ∧ Ext w w' := by
  refine (bone_is w).mono ?_
  rintro e w' ⟨v, rfl, ho, hx⟩
  obtain ⟨q, c, rfl, _, _⟩ := ho.len
  exact ⟨q, c, rfl, ho, hx⟩
def dX : List FoI := [⟨⟨6, 1, 0, []⟩, .slice none 0 0⟩, ⟨⟨1, 0, 0, []⟩, .slice none 0 0⟩]
theorem dX_f : dX.map (·.f) = dF := rfl
theorem dX_c (V : World) : ∀ y ∈ dX, FoP V y := fun y hy => by
  simp only [dX, List.mem_cons, List.not_mem_nil, or_false] at hy
  rcases hy with rfl | rfl <;> exact RowsP.nil _ _
theorem fit_10 {V : World} (hO : OpLie V) {qf : Option Addr} {cf : Nat} (hf : RowsP V (.slice qf 2 cf) 4 (dX.map foC)) {qm : Option Addr} {cm : Nat} (hl : RowsP V (.slice qm 3 cm) 4 (dL.map celC)) :
    Calls Tryz.prog 23 #[.slice qf 2 cf, .int .i64 0, .slice qm 3 cm] V fun e w' => e = .returned (.bool true) ∧ Ext V w' := by
  have h := fits_is hO (X := dX) hf (dX_c V) (M := dL) hl 0
  rw [dX_f, dF_1] at h
  exact h
theorem fit_11 {V : World} (hO : OpLie V) {qf : Option Addr} {cf : Nat} (hf : RowsP V (.slice qf 2 cf) 4 (dX.map foC)) {qm : Option Addr} {cm : Nat} (hl : RowsP V (.slice qm 5 cm) 4 (oneM.map celC)) :
    Calls Tryz.prog 23 #[.slice qf 2 cf, .int .i64 0, .slice qm 5 cm] V fun e w' => e = .returned (.bool false) ∧ Ext V w' := by
  have h := fits_is hO (X := dX) hf (dX_c V) (M := oneM) hl 0
  rw [dX_f, dF_2] at h
  exact h
theorem fit_12 {V : World} (hO : OpLie V) {qf : Option Addr} {cf : Nat} (hf : RowsP V (.slice qf 2 cf) 4 (dX.map foC)) {qm : Option Addr} {cm : Nat} (hl : RowsP V (.slice qm 3 cm) 4 (dL.map celC)) :
    Calls Tryz.prog 23 #[.slice qf 2 cf, .int .i64 2, .slice qm 3 cm] V fun e w' => e = .returned (.bool false) ∧ Ext V w' := by
  have h := fits_is hO (X := dX) hf (dX_c V) (M := dL) hl 2
  rw [dX_f, dF_3] at h
  exact h
theorem good_10 {V : World} {q : Option Addr} {c : Nat} (hm : RowsP V (.slice q 5 c) 4 (oneM.map celC)) : Calls Tryz.prog 22 #[.slice q 5 c] V fun e w' => e = .returned (.bool true) ∧ Ext V w' := by
  have h := good_msg (w := V) (v := .slice q 5 c) (M := oneM) hm
  rw [oneM_good] at h
  exact h
theorem words_10 {V : World} {q : Option Addr} {c : Nat} (hm : RowsP V (.slice q 5 c) 4 (oneM.map celC)) : Calls Tryz.prog 14 #[.slice q 5 c] V fun e w' => e = .returned (.int .i64 8) ∧ Ext V w' := by
  have h := words_msg (w := V) (v := .slice q 5 c) (M := oneM) hm oneM_good
  rw [oneM_sum] at h
  exact h
theorem good_11 {V : World} {q : Option Addr} {c : Nat} (hm : RowsP V (.slice q 4 c) 4 ((oneM.map celC).drop 1)) : Calls Tryz.prog 22 #[.slice q 4 c] V fun e w' => e = .returned (.bool false) ∧ Ext V w' := by
  have h := good_msg (w := V) (v := .slice q 4 c) (M := oneM.drop 1) hm
  rw [oneM_cut] at h
  exact h
theorem wakes10 (w : World) (hO : OpLie w) : Calls Tryz.prog 6 #[] w fun e w' => e = .returned (.bool true) ∧ Ext w w' := by
  have hmk := run_make_row' (P := Tryz.prog) 22 42 (.int .u64 0) 8 Tryz.underlying22 info_u64 rfl .i64 .i64 20 (by omega) (by omega)
  simp only [Int.cast_ofNat_Int] at hmk
  have HOP := Lib.hid hO
  clear hO
  go_enter Tryz.func6, Tryz.ntmps6
  go_wp2_with fail
  refine (lay_words (made_words w 20 (by omega) _) (by simp)).mono ?_; rintro e w1 ⟨p, g, bm, q, gq, B, rfl, hB⟩
  have HB := Lib.hid hB
  clear hB hmk
  go_upto_region 4 with fail
  refine wp_alloc1 fun W hE hS b0 => ?_
  have hlt := HB.out.a.lt
  have hA0 : ArenaAt w1 p g bm 30 d0ws (rigR 20) := HB.out.a
  have K := Lib.hid (show D10 w W p g bm w1.heap.size q 30 d0ws (rigR 20) from ⟨hA0.ext hE, b0, ((Ext.alloc w (Obj.cells (madeCells #[Value.int IntKind.u64 0] 20) 42)).trans HB.out.ext).trans hE, by have h1 := HB.out.ge.2.1; have h2 := Below.size (Ext.alloc w (Obj.cells (madeCells #[Value.int IntKind.u64 0] 20) 42)); omega, by omega, by omega, by omega⟩)
  clear hE hS b0 hlt HB hA0
  generalize w1.heap.size = t0 at *
  go_cut [4, 5, 6] from 22 to 31 (fun v4 v5 v6 wx => ∃ nA, v4 = .pointer (some ⟨nA, 0, none⟩) ∧ v5 = .int .u64 0 ∧ v6 = .bool true ∧ D10 w wx p g bm t0 q 30 d1ws (rigR 20) ∧ wx.heap[nA]? = some (.cells #[.int .i64 3, .int .i64 10, .int .i64 0, .int .i64 8] 24 (0, 0)) ∧ t0 < nA)
  case first =>
    refine wp_region_noPanic ?_
    refine wp_region_last 13 (S := (fun w' => w'.cell? ⟨t0, 0, none⟩ = some (.pointer (some ⟨p, 0, none⟩)))) (by kernel_rfl) (by kernel_rfl) _ rfl ?_ (fun hHeld => ?_)
    · skip
      have kA := K.out.ext (Ext.drew W)
      generalize W.drew = V at *
      (exact (cells2 kA.two).1)
    have kA := K.out.ext (Ext.drew W)
    generalize W.drew = V at *
    simp only [List.take_succ_cons, List.take_zero]
    refine wpAnyH_take (i := 0) (v := ?v1) rfl (by kernel_rfl) (by kernel_rfl) (by kernel_rfl) (fun _ _ _ h => h) (Or.inl ⟨by rfl, ?y1⟩) (by assumption) ?r1
    case y1 => intro w hSw; (try dsimp only at hSw); go_simp; (try with_reducible rfl)
    (try simp only [Act.put, List.setIfInBounds_toArray, List.set_cons_zero, List.set_cons_succ, List.getElem_toArray, List.getElem_cons_zero, List.getElem_cons_succ])
    refine wpAnyH_take (i := 1) (v := ?v2) rfl (by kernel_rfl) (by kernel_rfl) (by kernel_rfl) (fun _ _ _ h => h) (Or.inl ⟨by rfl, ?y2⟩) (by assumption) ?r2
    case y2 => intro w hSw; (try dsimp only at hSw); go_simp; (try with_reducible rfl)
    (try simp only [Act.put, List.setIfInBounds_toArray, List.set_cons_zero, List.set_cons_succ, List.getElem_toArray, List.getElem_cons_zero, List.getElem_cons_succ])
    refine wpAnyH_take (i := 2) (v := ?v3) rfl (by kernel_rfl) (by kernel_rfl) (by kernel_rfl) (fun _ _ _ h => h) (Or.inl ⟨by rfl, ?y3⟩) (by assumption) ?r3
    case y3 => intro w hSw; (try dsimp only at hSw); go_simp; (try with_reducible rfl)
    (try simp only [Act.put, List.setIfInBounds_toArray, List.set_cons_zero, List.set_cons_succ, List.getElem_toArray, List.getElem_cons_zero, List.getElem_cons_succ])
    refine wpAnyH_take (i := 3) (v := ?v4) rfl (by kernel_rfl) (by kernel_rfl) (by kernel_rfl) (fun _ _ _ h => h) (Or.inl ⟨by rfl, ?y4⟩) (by assumption) ?r4
    case y4 => intro w hSw; (try dsimp only at hSw); go_simp; (try with_reducible rfl)
    (try simp only [Act.put, List.setIfInBounds_toArray, List.set_cons_zero, List.set_cons_succ, List.getElem_toArray, List.getElem_cons_zero, List.getElem_cons_succ])
    refine wpAnyH_ready (rs := [4, 10]) (by kernel_rfl) (by simp) ?_
    refine AllReadyH.cons rfl (fun K hK => ?_) (AllReadyH.cons rfl (fun K hK => ?_) (AllReadyH.nil))
    · skip
      go_simp
      refine (one_10 V).mono ?_
      rintro e w2 ⟨q2, c2, rfl, ho1, hx⟩
      have ho := ho1.mono (Nat.zero_le _)
      have hne : ∀ b, (Value.slice q2 5 c2).ownBlock = some b → b ≠ g := fun b hb => by have h1 := (ho1.own b hb).1; have h2 := kA.lt; have h3 := kA.ge; omega
      (try replace hAl := (Below.block hx _ (Array.getElem?_eq_some_iff.1 hAl).1).trans hAl)
      replace kA := kA.ext hx
      clear hx ho1
      generalize w2 = V at *
      refine hK.out _ _ ?s5 (fun hHeld => ?k5)
      case s5 => ((try dsimp only); (exact (cells2 kA.two).1))
      clear hK K
      (try simp only [Act.put, List.setIfInBounds_toArray, List.set_cons_zero, List.set_cons_succ, List.getElem_toArray, List.getElem_cons_zero, List.getElem_cons_succ])
      refine wpAnyH_ready (rs := [5, 10]) (by kernel_rfl) (by simp) ?_
      refine AllReadyH.cons rfl (fun K hK => ?_) (AllReadyH.cons rfl (fun K hK => ?_) (AllReadyH.nil))
      · skip
        go_simp
        refine (din_10 kA.a (fun W t => (ho.turn t (fun b hb hm => hne b hb (by simpa using hm))).p)).mono ?_
        rintro e w3 ⟨rfl, ha, ht⟩
        (try replace hAl := (ht.block _ (Array.getElem?_eq_some_iff.1 hAl).1 (by have h3 := kA.ge; simp; omega)).trans hAl)
        replace kA := kA.put ha ht
        clear ha ht ho hne
        generalize w3 = V at *
        refine hK.out _ _ ?s6 (fun hHeld => ?k6)
        case s6 => ((try dsimp only); (exact (cells2 kA.two).1))
        clear hK K
        (try simp only [Act.put, List.setIfInBounds_toArray, List.set_cons_zero, List.set_cons_succ, List.getElem_toArray, List.getElem_cons_zero, List.getElem_cons_succ])
        refine wpAnyH_take (i := 6) (v := ?v7) rfl (by kernel_rfl) (by kernel_rfl) (by kernel_rfl) (fun _ _ _ h => h) (Or.inl ⟨by rfl, ?y7⟩) (by assumption) ?r7
        case y7 => intro w hSw; (try dsimp only at hSw); go_simp; (try with_reducible rfl)
        (try simp only [Act.put, List.setIfInBounds_toArray, List.set_cons_zero, List.set_cons_succ, List.getElem_toArray, List.getElem_cons_zero, List.getElem_cons_succ])
        refine wpAnyH_take (i := 7) (v := ?v8) rfl (by kernel_rfl) (by kernel_rfl) (by kernel_rfl) (fun _ _ _ h => h) (Or.inl ⟨by rfl, ?y8⟩) (by assumption) ?r8
        case y8 => intro w hSw; (try dsimp only at hSw); go_simp; (try with_reducible rfl)
        (try simp only [Act.put, List.setIfInBounds_toArray, List.set_cons_zero, List.set_cons_succ, List.getElem_toArray, List.getElem_cons_zero, List.getElem_cons_succ])
        refine wpAnyH_take (i := 8) (v := ?v9) rfl (by kernel_rfl) (by kernel_rfl) (by kernel_rfl) (fun _ _ _ h => h) (Or.inl ⟨by rfl, ?y9⟩) (by assumption) ?r9
        case y9 => intro w hSw; (try dsimp only at hSw); go_simp; (try with_reducible rfl)
        (try simp only [Act.put, List.setIfInBounds_toArray, List.set_cons_zero, List.set_cons_succ, List.getElem_toArray, List.getElem_cons_zero, List.getElem_cons_succ])
        refine wpAnyH_take (i := 9) (v := ?v10) rfl (by kernel_rfl) (by kernel_rfl) (by kernel_rfl) (fun _ _ _ h => h) (Or.inl ⟨by rfl, ?y10⟩) (by assumption) ?r10
        case y10 => intro w hSw; (try dsimp only at hSw); go_simp; (try with_reducible rfl)
        (try simp only [Act.put, List.setIfInBounds_toArray, List.set_cons_zero, List.set_cons_succ, List.getElem_toArray, List.getElem_cons_zero, List.getElem_cons_succ])
        refine wpAnyH_ready (rs := [10]) (by kernel_rfl) (by simp) ?_
        refine AllReadyH.cons rfl (fun K hK => ?_) AllReadyH.nil
        go_simp
        refine kk_gen (fun W' => Ext V W' ∧ W'.heap[V.heap.size]? = some (.cells #[.int .i64 0, .int .i64 0, .int .i64 0, .int .i64 0] 24 (0, 0))) ⟨Ext.alloc _ _, heap_alloc_new _ _⟩ fun V2 hV2 => ?_
        obtain ⟨e1, hAl⟩ := hV2
        have hgn := kA.lt
        replace kA := kA.ext e1
        (try replace ho := ho.ext e1)
        clear e1
        generalize V.heap.size = nA at *
        generalize V2 = V at *
        refine hK.out _ _ ?s11 (fun hHeld => ?k11)
        case s11 => ((try dsimp only); (exact (cells2 kA.two).1))
        clear hK K
        (try simp only [Act.put, List.setIfInBounds_toArray, List.set_cons_zero, List.set_cons_succ, List.getElem_toArray, List.getElem_cons_zero, List.getElem_cons_succ])
        refine wpAnyH_ready (rs := [11]) (by kernel_rfl) (by simp) ?_
        refine AllReadyH.cons rfl (fun K hK => ?_) AllReadyH.nil
        have f0 := free_at hAl (i := 0)
        have f1 := free_at hAl (i := 1)
        have f2 := free_at hAl (i := 2)
        have f3 := free_at hAl (i := 3)
        obtain ⟨u0, u1, u2, u3⟩ := cells4 hAl
        have HAL := Lib.hid hAl; have HKA := Lib.hid kA
        clear hAl kA
        go_simp
        refine kk_gen (fun W' => W'.heap[nA]? = some (.cells #[.int .i64 3, .int .i64 10, .int .i64 0, .int .i64 8] 24 (0, 0)) ∧ Turn [nA] V W') ⟨(fill4 HAL.out _ _ _ _).1, (fill4 HAL.out _ _ _ _).2.1⟩ fun V2 hV2 => ?_
        clear u0 u1 u2 u3 f0 f1 f2 f3
        obtain ⟨hAl, hT⟩ := hV2
        have kA := HKA.out.turn hT hgn
        clear HAL HKA hT
        generalize V2 = V at *
        refine hK.out _ _ ?s12 (fun hHeld => ?k12)
        case s12 => ((try dsimp only); (exact (cells2 kA.two).1))
        clear hK K
        (try simp only [Act.put, List.setIfInBounds_toArray, List.set_cons_zero, List.set_cons_succ, List.getElem_toArray, List.getElem_cons_zero, List.getElem_cons_succ])
        refine wpAnyH_take (i := 12) (v := ?v13) rfl (by kernel_rfl) (by kernel_rfl) (by kernel_rfl) (fun _ _ _ h => h) (Or.inl ⟨by rfl, ?y13⟩) (by assumption) ?r13
        case y13 => intro w hSw; (try dsimp only at hSw); go_simp; (try with_reducible rfl)
        (try simp only [Act.put, List.setIfInBounds_toArray, List.set_cons_zero, List.set_cons_succ, List.getElem_toArray, List.getElem_cons_zero, List.getElem_cons_succ])
        refine wpAnyH_done (by kernel_rfl) ?_ _
        show wpList _ _ _ _ _ _
        have HAL := Lib.hid hAl; have HKA := Lib.hid kA
        clear hAl kA hHeld
        go_wp2
        refine NoPanic.normal ?_
        go_wp2
        go_meet
        exact ⟨nA, rfl, rfl, rfl, HKA.out, HAL.out, hgn⟩
      · skip
        go_simp
        refine kk_gen (fun W' => Ext V W' ∧ W'.heap[V.heap.size]? = some (.cells #[.int .i64 0, .int .i64 0, .int .i64 0, .int .i64 0] 24 (0, 0))) ⟨Ext.alloc _ _, heap_alloc_new _ _⟩ fun V2 hV2 => ?_
        obtain ⟨e1, hAl⟩ := hV2
        have hgn := kA.lt
        replace kA := kA.ext e1
        (try replace ho := ho.ext e1)
        clear e1
        generalize V.heap.size = nA at *
        generalize V2 = V at *
        refine hK.out _ _ ?s14 (fun hHeld => ?k14)
        case s14 => ((try dsimp only); (exact (cells2 kA.two).1))
        clear hK K
        (try simp only [Act.put, List.setIfInBounds_toArray, List.set_cons_zero, List.set_cons_succ, List.getElem_toArray, List.getElem_cons_zero, List.getElem_cons_succ])
        refine wpAnyH_ready (rs := [5]) (by kernel_rfl) (by simp) ?_
        refine AllReadyH.cons rfl (fun K hK => ?_) AllReadyH.nil
        go_simp
        refine (din_10 kA.a (fun W t => (ho.turn t (fun b hb hm => hne b hb (by simpa using hm))).p)).mono ?_
        rintro e w3 ⟨rfl, ha, ht⟩
        (try replace hAl := (ht.block _ (Array.getElem?_eq_some_iff.1 hAl).1 (by have h3 := kA.ge; simp; omega)).trans hAl)
        replace kA := kA.put ha ht
        clear ha ht ho hne
        generalize w3 = V at *
        refine hK.out _ _ ?s15 (fun hHeld => ?k15)
        case s15 => ((try dsimp only); (exact (cells2 kA.two).1))
        clear hK K
        (try simp only [Act.put, List.setIfInBounds_toArray, List.set_cons_zero, List.set_cons_succ, List.getElem_toArray, List.getElem_cons_zero, List.getElem_cons_succ])
        refine wpAnyH_take (i := 6) (v := ?v16) rfl (by kernel_rfl) (by kernel_rfl) (by kernel_rfl) (fun _ _ _ h => h) (Or.inl ⟨by rfl, ?y16⟩) (by assumption) ?r16
        case y16 => intro w hSw; (try dsimp only at hSw); go_simp; (try with_reducible rfl)
        (try simp only [Act.put, List.setIfInBounds_toArray, List.set_cons_zero, List.set_cons_succ, List.getElem_toArray, List.getElem_cons_zero, List.getElem_cons_succ])
        refine wpAnyH_take (i := 7) (v := ?v17) rfl (by kernel_rfl) (by kernel_rfl) (by kernel_rfl) (fun _ _ _ h => h) (Or.inl ⟨by rfl, ?y17⟩) (by assumption) ?r17
        case y17 => intro w hSw; (try dsimp only at hSw); go_simp; (try with_reducible rfl)
        (try simp only [Act.put, List.setIfInBounds_toArray, List.set_cons_zero, List.set_cons_succ, List.getElem_toArray, List.getElem_cons_zero, List.getElem_cons_succ])
        refine wpAnyH_take (i := 8) (v := ?v18) rfl (by kernel_rfl) (by kernel_rfl) (by kernel_rfl) (fun _ _ _ h => h) (Or.inl ⟨by rfl, ?y18⟩) (by assumption) ?r18
        case y18 => intro w hSw; (try dsimp only at hSw); go_simp; (try with_reducible rfl)
        (try simp only [Act.put, List.setIfInBounds_toArray, List.set_cons_zero, List.set_cons_succ, List.getElem_toArray, List.getElem_cons_zero, List.getElem_cons_succ])
        refine wpAnyH_take (i := 9) (v := ?v19) rfl (by kernel_rfl) (by kernel_rfl) (by kernel_rfl) (fun _ _ _ h => h) (Or.inl ⟨by rfl, ?y19⟩) (by assumption) ?r19
        case y19 => intro w hSw; (try dsimp only at hSw); go_simp; (try with_reducible rfl)
        (try simp only [Act.put, List.setIfInBounds_toArray, List.set_cons_zero, List.set_cons_succ, List.getElem_toArray, List.getElem_cons_zero, List.getElem_cons_succ])
        refine wpAnyH_ready (rs := [11]) (by kernel_rfl) (by simp) ?_
        refine AllReadyH.cons rfl (fun K hK => ?_) AllReadyH.nil
        have f0 := free_at hAl (i := 0)
        have f1 := free_at hAl (i := 1)
        have f2 := free_at hAl (i := 2)
        have f3 := free_at hAl (i := 3)
        obtain ⟨u0, u1, u2, u3⟩ := cells4 hAl
        have HAL := Lib.hid hAl; have HKA := Lib.hid kA
        clear hAl kA
        go_simp
        refine kk_gen (fun W' => W'.heap[nA]? = some (.cells #[.int .i64 3, .int .i64 10, .int .i64 0, .int .i64 8] 24 (0, 0)) ∧ Turn [nA] V W') ⟨(fill4 HAL.out _ _ _ _).1, (fill4 HAL.out _ _ _ _).2.1⟩ fun V2 hV2 => ?_
        clear u0 u1 u2 u3 f0 f1 f2 f3
        obtain ⟨hAl, hT⟩ := hV2
        have kA := HKA.out.turn hT hgn
        clear HAL HKA hT
        generalize V2 = V at *
        refine hK.out _ _ ?s20 (fun hHeld => ?k20)
        case s20 => ((try dsimp only); (exact (cells2 kA.two).1))
        clear hK K
        (try simp only [Act.put, List.setIfInBounds_toArray, List.set_cons_zero, List.set_cons_succ, List.getElem_toArray, List.getElem_cons_zero, List.getElem_cons_succ])
        refine wpAnyH_take (i := 12) (v := ?v21) rfl (by kernel_rfl) (by kernel_rfl) (by kernel_rfl) (fun _ _ _ h => h) (Or.inl ⟨by rfl, ?y21⟩) (by assumption) ?r21
        case y21 => intro w hSw; (try dsimp only at hSw); go_simp; (try with_reducible rfl)
        (try simp only [Act.put, List.setIfInBounds_toArray, List.set_cons_zero, List.set_cons_succ, List.getElem_toArray, List.getElem_cons_zero, List.getElem_cons_succ])
        refine wpAnyH_done (by kernel_rfl) ?_ _
        show wpList _ _ _ _ _ _
        have HAL := Lib.hid hAl; have HKA := Lib.hid kA
        clear hAl kA hHeld
        go_wp2
        refine NoPanic.normal ?_
        go_wp2
        go_meet
        exact ⟨nA, rfl, rfl, rfl, HKA.out, HAL.out, hgn⟩
    · skip
      go_simp
      refine kk_gen (fun W' => Ext V W' ∧ W'.heap[V.heap.size]? = some (.cells #[.int .i64 0, .int .i64 0, .int .i64 0, .int .i64 0] 24 (0, 0))) ⟨Ext.alloc _ _, heap_alloc_new _ _⟩ fun V2 hV2 => ?_
      obtain ⟨e1, hAl⟩ := hV2
      have hgn := kA.lt
      replace kA := kA.ext e1
      (try replace ho := ho.ext e1)
      clear e1
      generalize V.heap.size = nA at *
      generalize V2 = V at *
      refine hK.out _ _ ?s22 (fun hHeld => ?k22)
      case s22 => ((try dsimp only); (exact (cells2 kA.two).1))
      clear hK K
      (try simp only [Act.put, List.setIfInBounds_toArray, List.set_cons_zero, List.set_cons_succ, List.getElem_toArray, List.getElem_cons_zero, List.getElem_cons_succ])
      refine wpAnyH_ready (rs := [4]) (by kernel_rfl) (by simp) ?_
      refine AllReadyH.cons rfl (fun K hK => ?_) AllReadyH.nil
      go_simp
      refine (one_10 V).mono ?_
      rintro e w2 ⟨q2, c2, rfl, ho1, hx⟩
      have ho := ho1.mono (Nat.zero_le _)
      have hne : ∀ b, (Value.slice q2 5 c2).ownBlock = some b → b ≠ g := fun b hb => by have h1 := (ho1.own b hb).1; have h2 := kA.lt; have h3 := kA.ge; omega
      (try replace hAl := (Below.block hx _ (Array.getElem?_eq_some_iff.1 hAl).1).trans hAl)
      replace kA := kA.ext hx
      clear hx ho1
      generalize w2 = V at *
      refine hK.out _ _ ?s23 (fun hHeld => ?k23)
      case s23 => ((try dsimp only); (exact (cells2 kA.two).1))
      clear hK K
      (try simp only [Act.put, List.setIfInBounds_toArray, List.set_cons_zero, List.set_cons_succ, List.getElem_toArray, List.getElem_cons_zero, List.getElem_cons_succ])
      refine wpAnyH_ready (rs := [5]) (by kernel_rfl) (by simp) ?_
      refine AllReadyH.cons rfl (fun K hK => ?_) AllReadyH.nil
      go_simp
      refine (din_10 kA.a (fun W t => (ho.turn t (fun b hb hm => hne b hb (by simpa using hm))).p)).mono ?_
      rintro e w3 ⟨rfl, ha, ht⟩
      (try replace hAl := (ht.block _ (Array.getElem?_eq_some_iff.1 hAl).1 (by have h3 := kA.ge; simp; omega)).trans hAl)
      replace kA := kA.put ha ht
      clear ha ht ho hne
      generalize w3 = V at *
      refine hK.out _ _ ?s24 (fun hHeld => ?k24)
      case s24 => ((try dsimp only); (exact (cells2 kA.two).1))
      clear hK K
      (try simp only [Act.put, List.setIfInBounds_toArray, List.set_cons_zero, List.set_cons_succ, List.getElem_toArray, List.getElem_cons_zero, List.getElem_cons_succ])
      refine wpAnyH_take (i := 6) (v := ?v25) rfl (by kernel_rfl) (by kernel_rfl) (by kernel_rfl) (fun _ _ _ h => h) (Or.inl ⟨by rfl, ?y25⟩) (by assumption) ?r25
      case y25 => intro w hSw; (try dsimp only at hSw); go_simp; (try with_reducible rfl)
      (try simp only [Act.put, List.setIfInBounds_toArray, List.set_cons_zero, List.set_cons_succ, List.getElem_toArray, List.getElem_cons_zero, List.getElem_cons_succ])
      refine wpAnyH_take (i := 7) (v := ?v26) rfl (by kernel_rfl) (by kernel_rfl) (by kernel_rfl) (fun _ _ _ h => h) (Or.inl ⟨by rfl, ?y26⟩) (by assumption) ?r26
      case y26 => intro w hSw; (try dsimp only at hSw); go_simp; (try with_reducible rfl)
      (try simp only [Act.put, List.setIfInBounds_toArray, List.set_cons_zero, List.set_cons_succ, List.getElem_toArray, List.getElem_cons_zero, List.getElem_cons_succ])
      refine wpAnyH_take (i := 8) (v := ?v27) rfl (by kernel_rfl) (by kernel_rfl) (by kernel_rfl) (fun _ _ _ h => h) (Or.inl ⟨by rfl, ?y27⟩) (by assumption) ?r27
      case y27 => intro w hSw; (try dsimp only at hSw); go_simp; (try with_reducible rfl)
      (try simp only [Act.put, List.setIfInBounds_toArray, List.set_cons_zero, List.set_cons_succ, List.getElem_toArray, List.getElem_cons_zero, List.getElem_cons_succ])
      refine wpAnyH_take (i := 9) (v := ?v28) rfl (by kernel_rfl) (by kernel_rfl) (by kernel_rfl) (fun _ _ _ h => h) (Or.inl ⟨by rfl, ?y28⟩) (by assumption) ?r28
      case y28 => intro w hSw; (try dsimp only at hSw); go_simp; (try with_reducible rfl)
      (try simp only [Act.put, List.setIfInBounds_toArray, List.set_cons_zero, List.set_cons_succ, List.getElem_toArray, List.getElem_cons_zero, List.getElem_cons_succ])
      refine wpAnyH_ready (rs := [11]) (by kernel_rfl) (by simp) ?_
      refine AllReadyH.cons rfl (fun K hK => ?_) AllReadyH.nil
      have f0 := free_at hAl (i := 0)
      have f1 := free_at hAl (i := 1)
      have f2 := free_at hAl (i := 2)
      have f3 := free_at hAl (i := 3)
      obtain ⟨u0, u1, u2, u3⟩ := cells4 hAl
      have HAL := Lib.hid hAl; have HKA := Lib.hid kA
      clear hAl kA
      go_simp
      refine kk_gen (fun W' => W'.heap[nA]? = some (.cells #[.int .i64 3, .int .i64 10, .int .i64 0, .int .i64 8] 24 (0, 0)) ∧ Turn [nA] V W') ⟨(fill4 HAL.out _ _ _ _).1, (fill4 HAL.out _ _ _ _).2.1⟩ fun V2 hV2 => ?_
      clear u0 u1 u2 u3 f0 f1 f2 f3
      obtain ⟨hAl, hT⟩ := hV2
      have kA := HKA.out.turn hT hgn
      clear HAL HKA hT
      generalize V2 = V at *
      refine hK.out _ _ ?s29 (fun hHeld => ?k29)
      case s29 => ((try dsimp only); (exact (cells2 kA.two).1))
      clear hK K
      (try simp only [Act.put, List.setIfInBounds_toArray, List.set_cons_zero, List.set_cons_succ, List.getElem_toArray, List.getElem_cons_zero, List.getElem_cons_succ])
      refine wpAnyH_take (i := 12) (v := ?v30) rfl (by kernel_rfl) (by kernel_rfl) (by kernel_rfl) (fun _ _ _ h => h) (Or.inl ⟨by rfl, ?y30⟩) (by assumption) ?r30
      case y30 => intro w hSw; (try dsimp only at hSw); go_simp; (try with_reducible rfl)
      (try simp only [Act.put, List.setIfInBounds_toArray, List.set_cons_zero, List.set_cons_succ, List.getElem_toArray, List.getElem_cons_zero, List.getElem_cons_succ])
      refine wpAnyH_done (by kernel_rfl) ?_ _
      show wpList _ _ _ _ _ _
      have HAL := Lib.hid hAl; have HKA := Lib.hid kA
      clear hAl kA hHeld
      go_wp2
      refine NoPanic.normal ?_
      go_wp2
      go_meet
      exact ⟨nA, rfl, rfl, rfl, HKA.out, HAL.out, hgn⟩
  case rest =>
    obtain ⟨nA, rfl, rfl, rfl, kA, hAl, hgn⟩ := hcut
    have HKA := Lib.hid kA; have HAL := Lib.hid hAl
    clear K
    obtain ⟨x0, x1⟩ := cells2 kA.two
    obtain ⟨y0, y1, y2, y3⟩ := cells4 hAl
    clear kA hAl
    go_wp2_with fail
    refine (out_10 HKA.out.a).mono ?_
    rintro e w5 ⟨q5, c5, rfl, ho, hx⟩
    have HO5 := Lib.hid ho
    have HK5 := Lib.hid (HKA.out.ext hx)
    have HAL5 := Lib.hid ((Below.block hx nA (Array.getElem?_eq_some_iff.1 HAL.out).1).trans HAL.out)
    clear ho hx HKA HAL x0 x1 y0 y1 y2 y3
    obtain ⟨y0, y1, y2, y3⟩ := cells4 HAL5.out
    go_upto_region 6 with fail
    clear y0 y1 y2 y3
    go_cut [9, 11] from 40 to 48 (fun v9 v11 wx => ∃ nB, v9 = .pointer (some ⟨nB, 0, none⟩) ∧ v11 = .bool false ∧ Ext w wx ∧ wx.heap[nA]? = some (.cells #[.int .i64 3, .int .i64 10, .int .i64 0, .int .i64 8] 24 (0, 0)) ∧ wx.heap[nB]? = some (.cells #[.int .i64 0, .int .i64 0, .int .i64 0, .int .i64 0] 24 (0, 0)) ∧ OwnP wx 0 51 (.slice q5 5 c5) 4 (oneM.map celC))
    case first =>
      refine wp_region_noPanic ?_
      refine wp_region_last 12 (S := (fun w' => w'.cell? ⟨t0, 0, none⟩ = some (.pointer (some ⟨p, 0, none⟩)) ∧ w'.cell? ⟨nA, 0, none⟩ = some (.int .i64 3) ∧ w'.cell? ⟨nA, 1, none⟩ = some (.int .i64 10) ∧ w'.cell? ⟨nA, 2, none⟩ = some (.int .i64 0) ∧ w'.cell? ⟨nA, 3, none⟩ = some (.int .i64 8))) (by kernel_rfl) (by kernel_rfl) _ rfl ?_ (fun hHeld => ?_)
      · skip
        have kA := HK5.out.ext (Ext.drew w5)
        have kL := (Below.block (Ext.drew w5) nA (Array.getElem?_eq_some_iff.1 HAL5.out).1).trans HAL5.out
        have kO := (HO5.out.ext (Ext.drew w5)).mono (Nat.zero_le _)
        generalize w5.drew = V at *
        (exact ⟨(cells2 kA.two).1, cells4 kL⟩)
      have kA := HK5.out.ext (Ext.drew w5)
      have kL := (Below.block (Ext.drew w5) nA (Array.getElem?_eq_some_iff.1 HAL5.out).1).trans HAL5.out
      have kO := (HO5.out.ext (Ext.drew w5)).mono (Nat.zero_le _)
      generalize w5.drew = V at *
      simp only [List.take_succ_cons, List.take_zero]
      refine wpAnyH_take (i := 0) (v := ?v31) rfl (by kernel_rfl) (by kernel_rfl) (by kernel_rfl) (fun _ _ _ h => h) (Or.inl ⟨by rfl, ?y31⟩) (by assumption) ?r31
      case y31 => intro w hSw; (try dsimp only at hSw); go_simp; (try with_reducible rfl)
      (try simp only [Act.put, List.setIfInBounds_toArray, List.set_cons_zero, List.set_cons_succ, List.getElem_toArray, List.getElem_cons_zero, List.getElem_cons_succ])
      refine wpAnyH_take (i := 1) (v := ?v32) rfl (by kernel_rfl) (by kernel_rfl) (by kernel_rfl) (fun _ _ _ h => h) (Or.inl ⟨by rfl, ?y32⟩) (by assumption) ?r32
      case y32 => intro w hSw; (try dsimp only at hSw); go_simp; (try with_reducible rfl)
      (try simp only [Act.put, List.setIfInBounds_toArray, List.set_cons_zero, List.set_cons_succ, List.getElem_toArray, List.getElem_cons_zero, List.getElem_cons_succ])
      refine wpAnyH_take (i := 2) (v := ?v33) rfl (by kernel_rfl) (by kernel_rfl) (by kernel_rfl) (fun _ _ _ h => h) (Or.inl ⟨by rfl, ?y33⟩) (by assumption) ?r33
      case y33 => intro w hSw; (try dsimp only at hSw); go_simp; (try with_reducible rfl)
      (try simp only [Act.put, List.setIfInBounds_toArray, List.set_cons_zero, List.set_cons_succ, List.getElem_toArray, List.getElem_cons_zero, List.getElem_cons_succ])
      refine wpAnyH_ready (rs := [3, 9]) (by kernel_rfl) (by simp) ?_
      refine AllReadyH.cons rfl (fun K hK => ?_) (AllReadyH.cons rfl (fun K hK => ?_) (AllReadyH.nil))
      · skip
        go_simp
        refine (one_10 V).mono ?_
        rintro e w2 ⟨q2, c2, rfl, ho1, hx⟩
        have ho := ho1.mono (Nat.zero_le _)
        (try replace hAl := (Below.block hx _ (Array.getElem?_eq_some_iff.1 hAl).1).trans hAl)
        replace kA := kA.ext hx
        replace kL := (Below.block hx nA (Array.getElem?_eq_some_iff.1 kL).1).trans kL
        replace kO := kO.ext hx
        clear hx ho1
        generalize w2 = V at *
        refine hK.out _ _ ?s34 (fun hHeld => ?k34)
        case s34 => ((try dsimp only); (exact ⟨(cells2 kA.two).1, cells4 kL⟩))
        clear hK K
        (try simp only [Act.put, List.setIfInBounds_toArray, List.set_cons_zero, List.set_cons_succ, List.getElem_toArray, List.getElem_cons_zero, List.getElem_cons_succ])
        refine wpAnyH_ready (rs := [4, 9]) (by kernel_rfl) (by simp) ?_
        refine AllReadyH.cons rfl (fun K hK => ?_) (AllReadyH.cons rfl (fun K hK => ?_) (AllReadyH.nil))
        · skip
          go_simp
          refine (dre_10 kA.a ho.p).mono ?_
          rintro e w3 ⟨rfl, hx⟩
          (try replace hAl := (Below.block hx _ (Array.getElem?_eq_some_iff.1 hAl).1).trans hAl)
          replace kA := kA.ext hx
          replace kL := (Below.block hx nA (Array.getElem?_eq_some_iff.1 kL).1).trans kL
          replace kO := kO.ext hx
          clear hx ho
          generalize w3 = V at *
          refine hK.out _ _ ?s35 (fun hHeld => ?k35)
          case s35 => ((try dsimp only); (exact ⟨(cells2 kA.two).1, cells4 kL⟩))
          clear hK K
          (try simp only [Act.put, List.setIfInBounds_toArray, List.set_cons_zero, List.set_cons_succ, List.getElem_toArray, List.getElem_cons_zero, List.getElem_cons_succ])
          refine wpAnyH_take (i := 5) (v := ?v36) rfl (by kernel_rfl) (by kernel_rfl) (by kernel_rfl) (fun _ _ _ h => h) (Or.inl ⟨by rfl, ?y36⟩) (by assumption) ?r36
          case y36 => intro w hSw; (try dsimp only at hSw); go_simp; (try with_reducible rfl)
          (try simp only [Act.put, List.setIfInBounds_toArray, List.set_cons_zero, List.set_cons_succ, List.getElem_toArray, List.getElem_cons_zero, List.getElem_cons_succ])
          refine wpAnyH_take (i := 6) (v := ?v37) rfl (by kernel_rfl) (by kernel_rfl) (by kernel_rfl) (fun _ _ _ h => h) (Or.inl ⟨by rfl, ?y37⟩) (by assumption) ?r37
          case y37 => intro w hSw; (try dsimp only at hSw); go_simp; (try with_reducible rfl)
          (try simp only [Act.put, List.setIfInBounds_toArray, List.set_cons_zero, List.set_cons_succ, List.getElem_toArray, List.getElem_cons_zero, List.getElem_cons_succ])
          refine wpAnyH_take (i := 7) (v := ?v38) rfl (by kernel_rfl) (by kernel_rfl) (by kernel_rfl) (fun _ _ _ h => h) (Or.inl ⟨by rfl, ?y38⟩) (by assumption) ?r38
          case y38 => intro w hSw; (try dsimp only at hSw); go_simp; (try with_reducible rfl)
          (try simp only [Act.put, List.setIfInBounds_toArray, List.set_cons_zero, List.set_cons_succ, List.getElem_toArray, List.getElem_cons_zero, List.getElem_cons_succ])
          refine wpAnyH_take (i := 8) (v := ?v39) rfl (by kernel_rfl) (by kernel_rfl) (by kernel_rfl) (fun _ _ _ h => h) (Or.inl ⟨by rfl, ?y39⟩) (by assumption) ?r39
          case y39 => intro w hSw; (try dsimp only at hSw); go_simp; (try with_reducible rfl)
          (try simp only [Act.put, List.setIfInBounds_toArray, List.set_cons_zero, List.set_cons_succ, List.getElem_toArray, List.getElem_cons_zero, List.getElem_cons_succ])
          refine wpAnyH_ready (rs := [9]) (by kernel_rfl) (by simp) ?_
          refine AllReadyH.cons rfl (fun K hK => ?_) AllReadyH.nil
          go_simp
          refine kk_gen (fun W' => Ext V W' ∧ W'.heap[V.heap.size]? = some (.cells #[.int .i64 0, .int .i64 0, .int .i64 0, .int .i64 0] 24 (0, 0))) ⟨Ext.alloc _ _, heap_alloc_new _ _⟩ fun V2 hV2 => ?_
          obtain ⟨e1, hAl⟩ := hV2
          have hgn := kA.lt
          have hnn : nA < V.heap.size := (Array.getElem?_eq_some_iff.1 kL).1
          have hno : ∀ b, (Value.slice q5 5 c5).ownBlock = some b → b < V.heap.size := fun b hb => (kO.own b hb).2
          replace kA := kA.ext e1
          replace kL := (Below.block e1 nA (Array.getElem?_eq_some_iff.1 kL).1).trans kL
          replace kO := kO.ext e1
          (try replace ho := ho.ext e1)
          clear e1
          generalize V.heap.size = nB at *
          generalize V2 = V at *
          refine hK.out _ _ ?s40 (fun hHeld => ?k40)
          case s40 => ((try dsimp only); (exact ⟨(cells2 kA.two).1, cells4 kL⟩))
          clear hK K
          (try simp only [Act.put, List.setIfInBounds_toArray, List.set_cons_zero, List.set_cons_succ, List.getElem_toArray, List.getElem_cons_zero, List.getElem_cons_succ])
          refine wpAnyH_ready (rs := [10]) (by kernel_rfl) (by simp) ?_
          refine AllReadyH.cons rfl (fun K hK => ?_) AllReadyH.nil
          have f0 := free_at hAl (i := 0)
          have f1 := free_at hAl (i := 1)
          have f2 := free_at hAl (i := 2)
          have f3 := free_at hAl (i := 3)
          obtain ⟨u0, u1, u2, u3⟩ := cells4 hAl
          have HAL := Lib.hid hAl; have HKA := Lib.hid kA; have HKL := Lib.hid kL; have HKO := Lib.hid kO; have HNO := Lib.hid hno
          clear hAl kA kL kO hno
          go_simp
          refine kk_gen (fun W' => W'.heap[nB]? = some (.cells #[.int .i64 0, .int .i64 0, .int .i64 0, .int .i64 0] 24 (0, 0)) ∧ Turn [nB] V W') ⟨(fill4 HAL.out _ _ _ _).1, (fill4 HAL.out _ _ _ _).2.1⟩ fun V2 hV2 => ?_
          clear u0 u1 u2 u3 f0 f1 f2 f3
          obtain ⟨hAl, hT⟩ := hV2
          have kA := HKA.out.turn hT hgn
          have kL := (hT.block nA (Array.getElem?_eq_some_iff.1 HKL.out).1 (by simp; omega)).trans HKL.out
          have kO := HKO.out.turn hT (fun b hb hm => by have := HNO.out b hb; simp at hm; omega)
          clear HAL HKA HKL HKO HNO hT
          generalize V2 = V at *
          refine hK.out _ _ ?s41 (fun hHeld => ?k41)
          case s41 => ((try dsimp only); (exact ⟨(cells2 kA.two).1, cells4 kL⟩))
          clear hK K
          (try simp only [Act.put, List.setIfInBounds_toArray, List.set_cons_zero, List.set_cons_succ, List.getElem_toArray, List.getElem_cons_zero, List.getElem_cons_succ])
          refine wpAnyH_take (i := 11) (v := ?v42) rfl (by kernel_rfl) (by kernel_rfl) (by kernel_rfl) (fun _ _ _ h => h) (Or.inl ⟨by rfl, ?y42⟩) (by assumption) ?r42
          case y42 => intro w hSw; (try dsimp only at hSw); go_simp; (try with_reducible rfl)
          (try simp only [Act.put, List.setIfInBounds_toArray, List.set_cons_zero, List.set_cons_succ, List.getElem_toArray, List.getElem_cons_zero, List.getElem_cons_succ])
          refine wpAnyH_done (by kernel_rfl) ?_ _
          show wpList _ _ _ _ _ _
          have HAL := Lib.hid hAl; have HKA := Lib.hid kA; have HKL := Lib.hid kL; have HKO := Lib.hid kO
          clear hAl kA kL kO hHeld
          (try clear hno)
          go_wp2
          refine NoPanic.normal ?_
          go_wp2
          go_meet
          exact ⟨nB, rfl, rfl, HKA.out.x, HKL.out, HAL.out, HKO.out⟩
        · skip
          go_simp
          refine kk_gen (fun W' => Ext V W' ∧ W'.heap[V.heap.size]? = some (.cells #[.int .i64 0, .int .i64 0, .int .i64 0, .int .i64 0] 24 (0, 0))) ⟨Ext.alloc _ _, heap_alloc_new _ _⟩ fun V2 hV2 => ?_
          obtain ⟨e1, hAl⟩ := hV2
          have hgn := kA.lt
          have hnn : nA < V.heap.size := (Array.getElem?_eq_some_iff.1 kL).1
          have hno : ∀ b, (Value.slice q5 5 c5).ownBlock = some b → b < V.heap.size := fun b hb => (kO.own b hb).2
          replace kA := kA.ext e1
          replace kL := (Below.block e1 nA (Array.getElem?_eq_some_iff.1 kL).1).trans kL
          replace kO := kO.ext e1
          (try replace ho := ho.ext e1)
          clear e1
          generalize V.heap.size = nB at *
          generalize V2 = V at *
          refine hK.out _ _ ?s43 (fun hHeld => ?k43)
          case s43 => ((try dsimp only); (exact ⟨(cells2 kA.two).1, cells4 kL⟩))
          clear hK K
          (try simp only [Act.put, List.setIfInBounds_toArray, List.set_cons_zero, List.set_cons_succ, List.getElem_toArray, List.getElem_cons_zero, List.getElem_cons_succ])
          refine wpAnyH_ready (rs := [4]) (by kernel_rfl) (by simp) ?_
          refine AllReadyH.cons rfl (fun K hK => ?_) AllReadyH.nil
          go_simp
          refine (dre_10 kA.a ho.p).mono ?_
          rintro e w3 ⟨rfl, hx⟩
          (try replace hAl := (Below.block hx _ (Array.getElem?_eq_some_iff.1 hAl).1).trans hAl)
          replace kA := kA.ext hx
          replace kL := (Below.block hx nA (Array.getElem?_eq_some_iff.1 kL).1).trans kL
          replace kO := kO.ext hx
          clear hx ho
          generalize w3 = V at *
          refine hK.out _ _ ?s44 (fun hHeld => ?k44)
          case s44 => ((try dsimp only); (exact ⟨(cells2 kA.two).1, cells4 kL⟩))
          clear hK K
          (try simp only [Act.put, List.setIfInBounds_toArray, List.set_cons_zero, List.set_cons_succ, List.getElem_toArray, List.getElem_cons_zero, List.getElem_cons_succ])
          refine wpAnyH_take (i := 5) (v := ?v45) rfl (by kernel_rfl) (by kernel_rfl) (by kernel_rfl) (fun _ _ _ h => h) (Or.inl ⟨by rfl, ?y45⟩) (by assumption) ?r45
          case y45 => intro w hSw; (try dsimp only at hSw); go_simp; (try with_reducible rfl)
          (try simp only [Act.put, List.setIfInBounds_toArray, List.set_cons_zero, List.set_cons_succ, List.getElem_toArray, List.getElem_cons_zero, List.getElem_cons_succ])
          refine wpAnyH_take (i := 6) (v := ?v46) rfl (by kernel_rfl) (by kernel_rfl) (by kernel_rfl) (fun _ _ _ h => h) (Or.inl ⟨by rfl, ?y46⟩) (by assumption) ?r46
          case y46 => intro w hSw; (try dsimp only at hSw); go_simp; (try with_reducible rfl)
          (try simp only [Act.put, List.setIfInBounds_toArray, List.set_cons_zero, List.set_cons_succ, List.getElem_toArray, List.getElem_cons_zero, List.getElem_cons_succ])
          refine wpAnyH_take (i := 7) (v := ?v47) rfl (by kernel_rfl) (by kernel_rfl) (by kernel_rfl) (fun _ _ _ h => h) (Or.inl ⟨by rfl, ?y47⟩) (by assumption) ?r47
          case y47 => intro w hSw; (try dsimp only at hSw); go_simp; (try with_reducible rfl)
          (try simp only [Act.put, List.setIfInBounds_toArray, List.set_cons_zero, List.set_cons_succ, List.getElem_toArray, List.getElem_cons_zero, List.getElem_cons_succ])
          refine wpAnyH_take (i := 8) (v := ?v48) rfl (by kernel_rfl) (by kernel_rfl) (by kernel_rfl) (fun _ _ _ h => h) (Or.inl ⟨by rfl, ?y48⟩) (by assumption) ?r48
          case y48 => intro w hSw; (try dsimp only at hSw); go_simp; (try with_reducible rfl)
          (try simp only [Act.put, List.setIfInBounds_toArray, List.set_cons_zero, List.set_cons_succ, List.getElem_toArray, List.getElem_cons_zero, List.getElem_cons_succ])
          refine wpAnyH_ready (rs := [10]) (by kernel_rfl) (by simp) ?_
          refine AllReadyH.cons rfl (fun K hK => ?_) AllReadyH.nil
          have f0 := free_at hAl (i := 0)
          have f1 := free_at hAl (i := 1)
          have f2 := free_at hAl (i := 2)
          have f3 := free_at hAl (i := 3)
          obtain ⟨u0, u1, u2, u3⟩ := cells4 hAl
          have HAL := Lib.hid hAl; have HKA := Lib.hid kA; have HKL := Lib.hid kL; have HKO := Lib.hid kO; have HNO := Lib.hid hno
          clear hAl kA kL kO hno
          go_simp
          refine kk_gen (fun W' => W'.heap[nB]? = some (.cells #[.int .i64 0, .int .i64 0, .int .i64 0, .int .i64 0] 24 (0, 0)) ∧ Turn [nB] V W') ⟨(fill4 HAL.out _ _ _ _).1, (fill4 HAL.out _ _ _ _).2.1⟩ fun V2 hV2 => ?_
          clear u0 u1 u2 u3 f0 f1 f2 f3
          obtain ⟨hAl, hT⟩ := hV2
          have kA := HKA.out.turn hT hgn
          have kL := (hT.block nA (Array.getElem?_eq_some_iff.1 HKL.out).1 (by simp; omega)).trans HKL.out
          have kO := HKO.out.turn hT (fun b hb hm => by have := HNO.out b hb; simp at hm; omega)
          clear HAL HKA HKL HKO HNO hT
          generalize V2 = V at *
          refine hK.out _ _ ?s49 (fun hHeld => ?k49)
          case s49 => ((try dsimp only); (exact ⟨(cells2 kA.two).1, cells4 kL⟩))
          clear hK K
          (try simp only [Act.put, List.setIfInBounds_toArray, List.set_cons_zero, List.set_cons_succ, List.getElem_toArray, List.getElem_cons_zero, List.getElem_cons_succ])
          refine wpAnyH_take (i := 11) (v := ?v50) rfl (by kernel_rfl) (by kernel_rfl) (by kernel_rfl) (fun _ _ _ h => h) (Or.inl ⟨by rfl, ?y50⟩) (by assumption) ?r50
          case y50 => intro w hSw; (try dsimp only at hSw); go_simp; (try with_reducible rfl)
          (try simp only [Act.put, List.setIfInBounds_toArray, List.set_cons_zero, List.set_cons_succ, List.getElem_toArray, List.getElem_cons_zero, List.getElem_cons_succ])
          refine wpAnyH_done (by kernel_rfl) ?_ _
          show wpList _ _ _ _ _ _
          have HAL := Lib.hid hAl; have HKA := Lib.hid kA; have HKL := Lib.hid kL; have HKO := Lib.hid kO
          clear hAl kA kL kO hHeld
          (try clear hno)
          go_wp2
          refine NoPanic.normal ?_
          go_wp2
          go_meet
          exact ⟨nB, rfl, rfl, HKA.out.x, HKL.out, HAL.out, HKO.out⟩
      · skip
        go_simp
        refine kk_gen (fun W' => Ext V W' ∧ W'.heap[V.heap.size]? = some (.cells #[.int .i64 0, .int .i64 0, .int .i64 0, .int .i64 0] 24 (0, 0))) ⟨Ext.alloc _ _, heap_alloc_new _ _⟩ fun V2 hV2 => ?_
        obtain ⟨e1, hAl⟩ := hV2
        have hgn := kA.lt
        have hnn : nA < V.heap.size := (Array.getElem?_eq_some_iff.1 kL).1
        have hno : ∀ b, (Value.slice q5 5 c5).ownBlock = some b → b < V.heap.size := fun b hb => (kO.own b hb).2
        replace kA := kA.ext e1
        replace kL := (Below.block e1 nA (Array.getElem?_eq_some_iff.1 kL).1).trans kL
        replace kO := kO.ext e1
        (try replace ho := ho.ext e1)
        clear e1
        generalize V.heap.size = nB at *
        generalize V2 = V at *
        refine hK.out _ _ ?s51 (fun hHeld => ?k51)
        case s51 => ((try dsimp only); (exact ⟨(cells2 kA.two).1, cells4 kL⟩))
        clear hK K
        (try simp only [Act.put, List.setIfInBounds_toArray, List.set_cons_zero, List.set_cons_succ, List.getElem_toArray, List.getElem_cons_zero, List.getElem_cons_succ])
        refine wpAnyH_ready (rs := [3]) (by kernel_rfl) (by simp) ?_
        refine AllReadyH.cons rfl (fun K hK => ?_) AllReadyH.nil
        go_simp
        refine (one_10 V).mono ?_
        rintro e w2 ⟨q2, c2, rfl, ho1, hx⟩
        have ho := ho1.mono (Nat.zero_le _)
        (try replace hAl := (Below.block hx _ (Array.getElem?_eq_some_iff.1 hAl).1).trans hAl)
        replace kA := kA.ext hx
        replace kL := (Below.block hx nA (Array.getElem?_eq_some_iff.1 kL).1).trans kL
        replace kO := kO.ext hx
        clear hx ho1
        generalize w2 = V at *
        refine hK.out _ _ ?s52 (fun hHeld => ?k52)
        case s52 => ((try dsimp only); (exact ⟨(cells2 kA.two).1, cells4 kL⟩))
        clear hK K
        (try simp only [Act.put, List.setIfInBounds_toArray, List.set_cons_zero, List.set_cons_succ, List.getElem_toArray, List.getElem_cons_zero, List.getElem_cons_succ])
        refine wpAnyH_ready (rs := [4]) (by kernel_rfl) (by simp) ?_
        refine AllReadyH.cons rfl (fun K hK => ?_) AllReadyH.nil
        go_simp
        refine (dre_10 kA.a ho.p).mono ?_
        rintro e w3 ⟨rfl, hx⟩
        (try replace hAl := (Below.block hx _ (Array.getElem?_eq_some_iff.1 hAl).1).trans hAl)
        replace kA := kA.ext hx
        replace kL := (Below.block hx nA (Array.getElem?_eq_some_iff.1 kL).1).trans kL
        replace kO := kO.ext hx
        clear hx ho
        generalize w3 = V at *
        refine hK.out _ _ ?s53 (fun hHeld => ?k53)
        case s53 => ((try dsimp only); (exact ⟨(cells2 kA.two).1, cells4 kL⟩))
        clear hK K
        (try simp only [Act.put, List.setIfInBounds_toArray, List.set_cons_zero, List.set_cons_succ, List.getElem_toArray, List.getElem_cons_zero, List.getElem_cons_succ])
        refine wpAnyH_take (i := 5) (v := ?v54) rfl (by kernel_rfl) (by kernel_rfl) (by kernel_rfl) (fun _ _ _ h => h) (Or.inl ⟨by rfl, ?y54⟩) (by assumption) ?r54
        case y54 => intro w hSw; (try dsimp only at hSw); go_simp; (try with_reducible rfl)
        (try simp only [Act.put, List.setIfInBounds_toArray, List.set_cons_zero, List.set_cons_succ, List.getElem_toArray, List.getElem_cons_zero, List.getElem_cons_succ])
        refine wpAnyH_take (i := 6) (v := ?v55) rfl (by kernel_rfl) (by kernel_rfl) (by kernel_rfl) (fun _ _ _ h => h) (Or.inl ⟨by rfl, ?y55⟩) (by assumption) ?r55
        case y55 => intro w hSw; (try dsimp only at hSw); go_simp; (try with_reducible rfl)
        (try simp only [Act.put, List.setIfInBounds_toArray, List.set_cons_zero, List.set_cons_succ, List.getElem_toArray, List.getElem_cons_zero, List.getElem_cons_succ])
        refine wpAnyH_take (i := 7) (v := ?v56) rfl (by kernel_rfl) (by kernel_rfl) (by kernel_rfl) (fun _ _ _ h => h) (Or.inl ⟨by rfl, ?y56⟩) (by assumption) ?r56
        case y56 => intro w hSw; (try dsimp only at hSw); go_simp; (try with_reducible rfl)
        (try simp only [Act.put, List.setIfInBounds_toArray, List.set_cons_zero, List.set_cons_succ, List.getElem_toArray, List.getElem_cons_zero, List.getElem_cons_succ])
        refine wpAnyH_take (i := 8) (v := ?v57) rfl (by kernel_rfl) (by kernel_rfl) (by kernel_rfl) (fun _ _ _ h => h) (Or.inl ⟨by rfl, ?y57⟩) (by assumption) ?r57
        case y57 => intro w hSw; (try dsimp only at hSw); go_simp; (try with_reducible rfl)
        (try simp only [Act.put, List.setIfInBounds_toArray, List.set_cons_zero, List.set_cons_succ, List.getElem_toArray, List.getElem_cons_zero, List.getElem_cons_succ])
        refine wpAnyH_ready (rs := [10]) (by kernel_rfl) (by simp) ?_
        refine AllReadyH.cons rfl (fun K hK => ?_) AllReadyH.nil
        have f0 := free_at hAl (i := 0)
        have f1 := free_at hAl (i := 1)
        have f2 := free_at hAl (i := 2)
        have f3 := free_at hAl (i := 3)
        obtain ⟨u0, u1, u2, u3⟩ := cells4 hAl
        have HAL := Lib.hid hAl; have HKA := Lib.hid kA; have HKL := Lib.hid kL; have HKO := Lib.hid kO; have HNO := Lib.hid hno
        clear hAl kA kL kO hno
        go_simp
        refine kk_gen (fun W' => W'.heap[nB]? = some (.cells #[.int .i64 0, .int .i64 0, .int .i64 0, .int .i64 0] 24 (0, 0)) ∧ Turn [nB] V W') ⟨(fill4 HAL.out _ _ _ _).1, (fill4 HAL.out _ _ _ _).2.1⟩ fun V2 hV2 => ?_
        clear u0 u1 u2 u3 f0 f1 f2 f3
        obtain ⟨hAl, hT⟩ := hV2
        have kA := HKA.out.turn hT hgn
        have kL := (hT.block nA (Array.getElem?_eq_some_iff.1 HKL.out).1 (by simp; omega)).trans HKL.out
        have kO := HKO.out.turn hT (fun b hb hm => by have := HNO.out b hb; simp at hm; omega)
        clear HAL HKA HKL HKO HNO hT
        generalize V2 = V at *
        refine hK.out _ _ ?s58 (fun hHeld => ?k58)
        case s58 => ((try dsimp only); (exact ⟨(cells2 kA.two).1, cells4 kL⟩))
        clear hK K
        (try simp only [Act.put, List.setIfInBounds_toArray, List.set_cons_zero, List.set_cons_succ, List.getElem_toArray, List.getElem_cons_zero, List.getElem_cons_succ])
        refine wpAnyH_take (i := 11) (v := ?v59) rfl (by kernel_rfl) (by kernel_rfl) (by kernel_rfl) (fun _ _ _ h => h) (Or.inl ⟨by rfl, ?y59⟩) (by assumption) ?r59
        case y59 => intro w hSw; (try dsimp only at hSw); go_simp; (try with_reducible rfl)
        (try simp only [Act.put, List.setIfInBounds_toArray, List.set_cons_zero, List.set_cons_succ, List.getElem_toArray, List.getElem_cons_zero, List.getElem_cons_succ])
        refine wpAnyH_done (by kernel_rfl) ?_ _
        show wpList _ _ _ _ _ _
        have HAL := Lib.hid hAl; have HKA := Lib.hid kA; have HKL := Lib.hid kL; have HKO := Lib.hid kO
        clear hAl kA kL kO hHeld
        (try clear hno)
        go_wp2
        refine NoPanic.normal ?_
        go_wp2
        go_meet
        exact ⟨nB, rfl, rfl, HKA.out.x, HKL.out, HAL.out, HKO.out⟩
    case rest =>
      obtain ⟨nB, rfl, rfl, hx, hA, hBl, ho⟩ := hcut
      have HX := Lib.hid hx; have HA := Lib.hid hA; have HBL := Lib.hid hBl; have HO6 := Lib.hid ho
      clear hx hA hBl ho HK5 HAL5 HO5
      go_upto_region 9 with fail
      refine wp_alloc2 fun W hE hS b0 b1 => ?_
      have hA2 := (Below.block hE nA (Array.getElem?_eq_some_iff.1 HA.out).1).trans HA.out
      have hB2 := (Below.block hE nB (Array.getElem?_eq_some_iff.1 HBL.out).1).trans HBL.out
      obtain ⟨y0, y1, y2, y3⟩ := cells4 hA2
      obtain ⟨u0, u1, u2, u3⟩ := cells4 hB2
      have HXW := Lib.hid (HX.out.trans hE)
      have HM := Lib.hid (HO6.out.ext hE).p
      have hf : RowsP W (.slice (some ⟨wc.heap.size, 0, none⟩) 2 2) 4 (dX.map foC) := (OwnP.of_form (base := 0) (T := 61) (l := dX.map foC) (cap := 2) (cur := #[.int .i64 6, .int .i64 1, .int .i64 0, .slice none 0 0, .int .i64 1, .int .i64 0, .int .i64 0, .slice none 0 0]) (by intro l hl; simp only [dX, List.map_cons, List.map_nil, List.mem_cons, List.not_mem_nil, or_false] at hl; rcases hl with rfl | rfl <;> exact ⟨rfl, by intro u hu; simp [foC] at hu; rcases hu with rfl | rfl | rfl | rfl <;> rfl⟩) (Nat.zero_le _) b0 (Nat.le_refl _) (by unfold maxLen; omega) rfl rfl).p
      have hl : RowsP W (.slice (some ⟨wc.heap.size + 1, 0, none⟩) 3 3) 4 (dL.map celC) := (OwnP.of_form (base := 0) (T := 51) (l := dL.map celC) (cap := 3) (cur := #[.int .i64 1, .int .i64 1, .int .i64 2, .string ByteArray.empty, .int .i64 0, .int .i64 0, .int .i64 1, .string ByteArray.empty, .int .i64 0, .int .i64 0, .int .i64 0, .string ByteArray.empty]) (celC_rows _) (Nat.zero_le _) b1 (Nat.le_refl _) (by unfold maxLen; omega) rfl rfl).p
      have HF := Lib.hid hf; have HLl := Lib.hid hl
      clear hA2 hB2 hE hS b0 b1 HA HBL HO6 HX hf hl
      go_wp2_with fail
      refine (one_10 _).mono ?_
      rintro e w7 ⟨q7, c7, rfl, ho7, hx7⟩
      have H7 := Lib.hid hx7; have HO7 := Lib.hid ho7.p
      replace u0 := hx7.cell u0; replace u1 := hx7.cell u1; replace u2 := hx7.cell u2; replace u3 := hx7.cell u3
      clear ho7 hx7 y0 y1 y2 y3
      go_wp2_with fail
      refine (msg_true (M := oneM) (HM.out.ext H7.out) HO7.out).mono ?_
      rintro e w8 ⟨rfl, hx8⟩
      have H8 := Lib.hid (H7.out.trans hx8)
      replace u0 := hx8.cell u0; replace u1 := hx8.cell u1; replace u2 := hx8.cell u2; replace u3 := hx8.cell u3
      clear hx8 H7 HO7 HM
      go_wp2_with fail
      refine (one_10 _).mono ?_
      rintro e w9 ⟨q9, c9, rfl, ho9, hx9⟩
      have H9 := Lib.hid (H8.out.trans hx9); have HO9 := Lib.hid ho9.p
      clear ho9 hx9 u0 u1 u2 u3 H8
      go_wp2_with fail
      refine (words_10 HO9.out).mono ?_
      rintro e w10 ⟨rfl, hx⟩
      have H10 := Lib.hid (H9.out.trans hx)
      clear hx H9 HO9
      go_wp2_with fail
      refine (one_10 _).mono ?_
      rintro e w11 ⟨q11, c11, rfl, ho11, hx⟩
      have H11 := Lib.hid (H10.out.trans hx); have HO11 := Lib.hid ho11.p
      clear ho11 hx H10
      go_wp2_with fail
      refine (good_10 HO11.out).mono ?_
      rintro e w12 ⟨rfl, hx⟩
      have H12 := Lib.hid (H11.out.trans hx)
      clear hx H11 HO11
      go_wp2_with fail
      refine (one_10 _).mono ?_
      rintro e w13 ⟨q13, c13, rfl, ho13, hx⟩
      have H13 := Lib.hid (H12.out.trans hx)
      obtain ⟨g13, rfl, -, -, -⟩ := ho13.cell (i := 0) (f := 0) (cs := celC ⟨1, 1, 2, ByteArray.empty⟩) (u := .int .i64 1) rfl rfl
      obtain ⟨_, c13', hv13, hle, -⟩ := ho13.len
      obtain ⟨-, -, rfl⟩ := Value.slice.inj hv13
      have hle5 : 5 ≤ c13 := hle
      have hsl := run_drop1 ECel w13 g13 0 5 c13 (by omega) hle5 (by omega)
      have HO13 := Lib.hid (ho13.p.drop1 (by omega))
      clear ho13 hx H12 hv13 hle
      go_wp2_with fail
      refine (good_11 HO13.out).mono ?_
      rintro e w14 ⟨rfl, hx⟩
      have H14 := Lib.hid (H13.out.trans hx)
      clear hx H13 HO13 hsl
      go_wp2_with fail
      refine (fit_10 (HOP.out.ext (HXW.out.trans H14.out)) (HF.out.ext H14.out) (HLl.out.ext H14.out)).mono ?_
      rintro e w15 ⟨rfl, hx⟩
      have H15 := Lib.hid (H14.out.trans hx)
      clear hx H14
      go_wp2_with fail
      refine (one_10 _).mono ?_
      rintro e w16 ⟨q16, c16, rfl, ho16, hx⟩
      have H16 := Lib.hid (H15.out.trans hx); have HO16 := Lib.hid ho16.p
      clear ho16 hx H15
      go_wp2_with fail
      refine (fit_11 (HOP.out.ext (HXW.out.trans H16.out)) (HF.out.ext H16.out) HO16.out).mono ?_
      rintro e w17 ⟨rfl, hx⟩
      have H17 := Lib.hid (H16.out.trans hx)
      clear hx H16 HO16
      go_wp2_with fail
      refine (fit_12 (HOP.out.ext (HXW.out.trans H17.out)) (HF.out.ext H17.out) (HLl.out.ext H17.out)).mono ?_
      rintro e w18 ⟨rfl, hx⟩
      have H18 := Lib.hid (H17.out.trans hx)
      clear hx H17
      go_wp2_with fail
      go_ret
      exact ⟨rfl, HXW.out.trans H18.out⟩
end Go.Proofs.YtppkgfcobnknfaaGreatDoor
