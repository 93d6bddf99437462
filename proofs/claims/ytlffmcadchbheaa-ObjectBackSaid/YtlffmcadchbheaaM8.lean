/- Proved here: the contracts and laws of ObjZI, ObjRA, ObjRB, RigP, RigA, RigB, RigC, RigD, ObjLA of this claim, each beneath its own remark; conditions: those that each theorem names. -/
import Derived.Test.YtlffmcadchbheaaM7
import Derived.Test.YtlffmcadchbheaaM1
import Derived.Test.YtlffmcadchbheaaM3
import Derived.Deep.RegionHeld3
/- A heap's functions (the reference's): Put. -/
namespace Go.Proofs.Ytlffmcadchbheaa
open Go.RowKit Go.Maps Arena
set_option maxHeartbeats 4000000
set_option maxRecDepth 100000
theorem blocks3w {P : Program} {c : Code} {Q : Exit → Act → World → Prop} {a : Act} {w : World} {o0 o1 o2 : Obj} (h : ∀ W : World, Ext w W → W.heap.size = w.heap.size + 1 + 1 + 1 → W.heap[w.heap.size]? = some o0 → W.heap[w.heap.size + 1]? = some o1 → W.heap[w.heap.size + 1 + 1]? = some o2 → Code.wp P c Q a W) : Code.wp P c Q a (((w.alloc o0).alloc o1).alloc o2) := by
  obtain ⟨e, s, b0, b1, b2⟩ := blocks3 w o0 o1 o2
  exact h _ e s b0 b1 b2
theorem RefAt.turn_new {w W W' : World} {q gq B n : Nat} {ws ws' : List Int} {vR : Value} {R : List (Nat × Nat)} {bs : List Nat} (H : RefAt W q gq B n ws' vR R) (H0 : RefAt w q gq B n ws vR R) (t : Turn bs W W') (hb : ∀ b ∈ bs, w.heap.size ≤ b) : RefAt W' q gq B n ws' vR R := by
  obtain ⟨lq, lg⟩ := H.lt
  obtain ⟨l0, l1⟩ := H0.lt
  refine ⟨by rw [t.block q lq (fun h => by have := hb q h; omega)]; exact H.row, by rw [t.block gq lg (fun h => by have := hb gq h; omega)]; exact H.words, H.len, ?_, H.good, H.ne, H.qB, H.gB, H.least⟩
  obtain ⟨h1, h2⟩ := H.regs
  refine ⟨h1, ?_⟩
  rcases h2 with h2 | ⟨g, cap, cur, e1, e2, e3, e4⟩
  · exact .inl h2
  · refine .inr ⟨g, cap, cur, e1, e2, ?_, e4⟩
    have hg : g < w.heap.size := by
      rcases H0.regs.2 with ⟨f1, _⟩ | ⟨g', cap', cur', f1, _, f3, _⟩
      · rw [f1] at e1; cases e1
      · rw [f1] at e1
        obtain ⟨e5, _, _⟩ := Value.slice.inj e1
        obtain ⟨rfl, _⟩ := Addr.mk.inj (Option.some.inj e5)
        exact (Array.getElem?_eq_some_iff.1 f3).1
    rw [t.block g (Array.getElem?_eq_some_iff.1 e3).1 (fun h => by have := hb g h; omega)]
    exact e3
theorem post_fill6 {P : Program} {f : Func} {Q : Ending → World → Prop} {x : Exit} {a : Act} {w : World} {b : Nat} {x0 x1 x2 x3 x4 x5 y0 y1 y2 y3 y4 y5 : Value} {T : TypeId} (h0 : w.heap[b]? = some (.cells #[x0, x1, x2, x3, x4, x5] T (0, 0)))
    (h : ∀ W : World, W.heap[b]? = some (.cells #[y0, y1, y2, y3, y4, y5] T (0, 0)) → Turn [b] w W → W.heap.size = w.heap.size → bodyPost P f Q x a W) : bodyPost P f Q x a ((((((w.setCell ⟨b, 0, none⟩ y0).setCell ⟨b, 1, none⟩ y1).setCell ⟨b, 2, none⟩ y2).setCell ⟨b, 3, none⟩ y3).setCell ⟨b, 4, none⟩ y4).setCell ⟨b, 5, none⟩ y5) :=
  h _ (fill6 h0 _ _ _ _ _ _).1 (fill6 h0 _ _ _ _ _ _).2.1 (fill6 h0 _ _ _ _ _ _).2.2
/-- a done put's value -/
def doneV (h : Hp) (x : Int) (ok : Bool) : Value := .agg #[.int .i64 h.base, .int .i64 h.half, .int .i64 h.space, .int .i64 h.top, .int .u64 x, .bool ok]
def RPutSaid (ws : List Int) (R : List (Nat × Nat)) (q gq B n : Nat) (vR : Value) (h : Hp) (o : Ob) (w : World) (e : Ending) (w' : World) : Prop :=
  e = .returned (if putB ws R h o then doneV (hpUp h o) ((2 * topN h : Nat) : Int) true else doneV ⟨0, 0, 0, 0⟩ 0 false) ∧ RefAt w' q gq B n (if putB ws R h o then putWs ws R h o else ws) vR R ∧ Turn [gq] w w'
theorem rput_no {ws : List Int} {R : List (Nat × Nat)} {q gq B n : Nat} {vR : Value} {h : Hp} {o : Ob} {w : World} {e : Ending} {w' : World} (hb : putB ws R h o = false) (H : RefAt w q gq B n ws vR R) (he : e = .returned (doneV ⟨0, 0, 0, 0⟩ 0 false)) (hx : Ext w w') : RPutSaid ws R q gq B n vR h o w e w' := by
  unfold RPutSaid
  rw [hb]
  exact ⟨he, H.ext hx, Turn.of_ext hx⟩
theorem rput_none {w : World} {q gq B n : Nat} {ws : List Int} {vR : Value} {R : List (Nat × Nat)} (H : RefAt w q gq B n ws vR R) (_hBw : B ≤ w.heap.size) (h : Hp) (hW : ∀ x ∈ ws, W64 x) (o : Ob) (c : Nat) (qf : Option Addr) (_hF : RowsP w (.slice qf o.fields.length c) 1 (o.fields.map wordC)) (_hF64 : ∀ x ∈ o.fields, W64 x) (_hFn : o.fields.length ≤ 1000)
    (hall : allH ws R h = none) :
    Calls Try.prog 27 #[.pointer (some ⟨q, 0, none⟩), .agg #[.int .i64 h.base, .int .i64 h.half, .int .i64 h.space, .int .i64 h.top], .agg #[.int .i64 o.kind, .int .i64 o.tag, .slice qf o.fields.length c, .string o.text]] w (RPutSaid ws R q gq B n vR h o w) := by
  have HA := Lib.hid (fun W (e : Ext w W) => rall_is (H.ext e) h hW)
  have HH := Lib.hid H
  have HM := Lib.hid (fun W => refmay_is o.kind o.tag o.fields.length c qf o.text W)
  have HWd := Lib.hid (fun W => refwords_is o c qf W)
  have hb : putB ws R h o = false := by unfold putB; rw [hall]
  have HB := Lib.hid hb
  rw [hall] at HA
  generalize (if mayO o = true then wordsO o else 0) = nn at HWd
  clear hb hall H hW _hF _hF64
  go_enter Try.func27, Try.ntmps27
  go_upto_region 1 with fail
  refine blocks3w fun W hE hS c0 c1 c2 => ?_
  obtain ⟨x0, x1, x2, x3⟩ := cells4 c0
  go_wp2_with fail
  refine (HA.out W hE).mono ?_
  intro e w1 h1
  obtain ⟨he, hx1⟩ := h1
  unfold zeroPV at he
  subst he
  have m0 := (Below.block hx1 w.heap.size (by omega)).trans c0
  have m1 := (Below.block hx1 (w.heap.size + 1) (by omega)).trans c1
  have m2 := (Below.block hx1 (w.heap.size + 1 + 1) (by omega)).trans c2
  have HE := Lib.hid (hE.trans hx1)
  have hl1 : w.heap.size + 1 + 1 < w1.heap.size := (Array.getElem?_eq_some_iff.1 m2).1
  clear hE hS c0 c1 c2 hx1 x0 x1 x2 x3
  go_upto_region 2 with fail
  refine wp_alloc1 fun W2 hE2 hS2 d3 => ?_
  have d0 := (Below.block hE2 w.heap.size (by omega)).trans m0
  have d1 := (Below.block hE2 (w.heap.size + 1) (by omega)).trans m1
  have d2 := (Below.block hE2 (w.heap.size + 1 + 1) (by omega)).trans m2
  have HE2 := Lib.hid (HE.out.trans hE2)
  generalize w1.heap.size = pl at *
  clear hE2 hS2 m0 m1 m2
  obtain ⟨x0, x1, x2, x3⟩ := cells4 d0
  obtain ⟨o0, o1, o2, o3⟩ := cells4 d1
  obtain ⟨z0, z1⟩ := cells2 d3
  have r0 := fun d os => cell_regrown x1 d os
  have r1 := fun d os => cell_regrown x3 d os
  have r2 := fun d os => cell_regrown o0 d os
  have r3 := fun d os => cell_regrown o1 d os
  have r4 := fun d os => cell_regrown o2 d os
  have r5 := fun d os => cell_regrown o3 d os
  have r6 := fun d os => cell_regrown z1 d os
  have CM := Lib.hid (fun d os => quiet_ext (HM.out (Go.Sort.grow (redrawn W2 d) os)))
  have CW := Lib.hid (fun d os => quiet_ext (HWd.out (Go.Sort.grow (redrawn W2 d) os)))
  clear x0 x1 x2 x3 o0 o1 o2 o3 z0 z1
  refine wp_region_quiet_below (by kernel_rfl) (by kernel_rfl) ?_
  repeat (first | go_big_quiet_step (first | exact CM.out _ _ | exact CW.out _ _) | quiet_step (first | exact CM.out _ _ | exact CW.out _ _))
  refine wpQuiet_nil ?_
  intro _ hw'
  obtain ⟨⟨dq, osq⟩, hw''⟩ := hw'
  subst hw''
  obtain ⟨W3, hW3, hx3⟩ : ∃ W3, W3 = Go.Sort.grow (redrawn W2 dq) osq ∧ Ext W2 W3 := ⟨_, rfl, Ext.regrown W2 dq osq⟩
  rw [← hW3]
  have k0 := (Below.block hx3 w.heap.size (Array.getElem?_eq_some_iff.1 d0).1).trans d0
  have k1 := (Below.block hx3 (w.heap.size + 1) (Array.getElem?_eq_some_iff.1 d1).1).trans d1
  have k2 := (Below.block hx3 (w.heap.size + 1 + 1) (Array.getElem?_eq_some_iff.1 d2).1).trans d2
  have k3 := (Below.block hx3 pl (Array.getElem?_eq_some_iff.1 d3).1).trans d3
  have HE3 := Lib.hid (HE2.out.trans hx3)
  clear hW3 hx3 d0 d1 d2 d3 r0 r1 r2 r3 r4 r5 r6
  have HEX := HE3
  obtain ⟨y0, y1, y2, y3, y4, y5⟩ := cells6 k2
  have f0 := free_at k2 (i := 0)
  have f1 := free_at k2 (i := 1)
  have f2 := free_at k2 (i := 2)
  have f3 := free_at k2 (i := 3)
  have f4 := free_at k2 (i := 4)
  have f5 := free_at k2 (i := 5)
  go_wp2
  refine post_fill6 k2 fun W9 k9 hT hS9 => ?_
  obtain ⟨y0, y1, y2, y3, y4, y5⟩ := cells6 k9
  refine bodyPost_ret (v := doneV ⟨0, 0, 0, 0⟩ 0 false) (by simp [results, Try.results27, go_sem, y0, y1, y2, y3, y4, y5, doneV]) rfl ?_
  exact rput_no HB.out HH.out rfl (Turn.after HEX.out hT (by intro b hb; rw [List.mem_singleton.1 hb]; omega))
theorem rput_may {w : World} {q gq B n : Nat} {ws : List Int} {vR : Value} {R : List (Nat × Nat)} (H : RefAt w q gq B n ws vR R) (_hBw : B ≤ w.heap.size) (h : Hp) (hW : ∀ x ∈ ws, W64 x) (o : Ob) (c : Nat) (qf : Option Addr) (_hF : RowsP w (.slice qf o.fields.length c) 1 (o.fields.map wordC)) (_hF64 : ∀ x ∈ o.fields, W64 x) (_hFn : o.fields.length ≤ 1000)
    {L : List (Nat × Ob)} (hall : allH ws R h = some L) (hm : mayO o = false) :
    Calls Try.prog 27 #[.pointer (some ⟨q, 0, none⟩), .agg #[.int .i64 h.base, .int .i64 h.half, .int .i64 h.space, .int .i64 h.top], .agg #[.int .i64 o.kind, .int .i64 o.tag, .slice qf o.fields.length c, .string o.text]] w (RPutSaid ws R q gq B n vR h o w) := by
  have HA := Lib.hid (fun W (e : Ext w W) => rall_is (H.ext e) h hW)
  have HH := Lib.hid H
  have HM := Lib.hid (fun W => refmay_is o.kind o.tag o.fields.length c qf o.text W)
  have HWd := Lib.hid (fun W => refwords_is o c qf W)
  have hb : putB ws R h o = false := by unfold putB; rw [hall]; simp only; rw [hm]; rfl
  have HB := Lib.hid hb
  rw [hall] at HA
  rw [show mayK o.kind o.tag o.fields.length o.text.size = false from hm] at HM
  generalize (if mayO o = true then wordsO o else 0) = nn at HWd
  clear hb hall H hW _hF _hF64 hm
  go_enter Try.func27, Try.ntmps27
  go_upto_region 1 with fail
  refine blocks3w fun W hE hS c0 c1 c2 => ?_
  obtain ⟨x0, x1, x2, x3⟩ := cells4 c0
  go_wp2_with fail
  refine (HA.out W hE).mono ?_
  intro e w1 h1
  obtain ⟨q1, k1, rfl, ho1, hx1⟩ := h1
  have m0 := (Below.block hx1 w.heap.size (by omega)).trans c0
  have m1 := (Below.block hx1 (w.heap.size + 1) (by omega)).trans c1
  have m2 := (Below.block hx1 (w.heap.size + 1 + 1) (by omega)).trans c2
  have HE := Lib.hid (hE.trans hx1)
  have hl1 : w.heap.size + 1 + 1 < w1.heap.size := (Array.getElem?_eq_some_iff.1 m2).1
  have HO1 := Lib.hid ho1
  clear ho1
  clear hE hS c0 c1 c2 hx1 x0 x1 x2 x3
  go_upto_region 2 with fail
  refine wp_alloc1 fun W2 hE2 hS2 d3 => ?_
  have d0 := (Below.block hE2 w.heap.size (by omega)).trans m0
  have d1 := (Below.block hE2 (w.heap.size + 1) (by omega)).trans m1
  have d2 := (Below.block hE2 (w.heap.size + 1 + 1) (by omega)).trans m2
  have HE2 := Lib.hid (HE.out.trans hE2)
  have HO2 := Lib.hid (HO1.out.ext hE2)
  generalize w1.heap.size = pl at *
  clear hE2 hS2 m0 m1 m2
  obtain ⟨x0, x1, x2, x3⟩ := cells4 d0
  obtain ⟨o0, o1, o2, o3⟩ := cells4 d1
  obtain ⟨z0, z1⟩ := cells2 d3
  have r0 := fun d os => cell_regrown x1 d os
  have r1 := fun d os => cell_regrown x3 d os
  have r2 := fun d os => cell_regrown o0 d os
  have r3 := fun d os => cell_regrown o1 d os
  have r4 := fun d os => cell_regrown o2 d os
  have r5 := fun d os => cell_regrown o3 d os
  have r6 := fun d os => cell_regrown z1 d os
  have CM := Lib.hid (fun d os => quiet_ext (HM.out (Go.Sort.grow (redrawn W2 d) os)))
  have CW := Lib.hid (fun d os => quiet_ext (HWd.out (Go.Sort.grow (redrawn W2 d) os)))
  clear x0 x1 x2 x3 o0 o1 o2 o3 z0 z1
  refine wp_region_quiet_below (by kernel_rfl) (by kernel_rfl) ?_
  repeat (first | go_big_quiet_step (first | exact CM.out _ _ | exact CW.out _ _) | quiet_step (first | exact CM.out _ _ | exact CW.out _ _))
  refine wpQuiet_nil ?_
  intro _ hw'
  obtain ⟨⟨dq, osq⟩, hw''⟩ := hw'
  subst hw''
  obtain ⟨W3, hW3, hx3⟩ : ∃ W3, W3 = Go.Sort.grow (redrawn W2 dq) osq ∧ Ext W2 W3 := ⟨_, rfl, Ext.regrown W2 dq osq⟩
  rw [← hW3]
  have k0 := (Below.block hx3 w.heap.size (Array.getElem?_eq_some_iff.1 d0).1).trans d0
  have k1 := (Below.block hx3 (w.heap.size + 1) (Array.getElem?_eq_some_iff.1 d1).1).trans d1
  have k2 := (Below.block hx3 (w.heap.size + 1 + 1) (Array.getElem?_eq_some_iff.1 d2).1).trans d2
  have k3 := (Below.block hx3 pl (Array.getElem?_eq_some_iff.1 d3).1).trans d3
  have HE3 := Lib.hid (HE2.out.trans hx3)
  have HO3 := Lib.hid (HO2.out.ext hx3)
  clear hW3 hx3 d0 d1 d2 d3 r0 r1 r2 r3 r4 r5 r6
  have HEX := HE3
  obtain ⟨y0, y1, y2, y3, y4, y5⟩ := cells6 k2
  have f0 := free_at k2 (i := 0)
  have f1 := free_at k2 (i := 1)
  have f2 := free_at k2 (i := 2)
  have f3 := free_at k2 (i := 3)
  have f4 := free_at k2 (i := 4)
  have f5 := free_at k2 (i := 5)
  go_wp2
  refine post_fill6 k2 fun W9 k9 hT hS9 => ?_
  obtain ⟨y0, y1, y2, y3, y4, y5⟩ := cells6 k9
  refine bodyPost_ret (v := doneV ⟨0, 0, 0, 0⟩ 0 false) (by simp [results, Try.results27, go_sem, y0, y1, y2, y3, y4, y5, doneV]) rfl ?_
  exact rput_no HB.out HH.out rfl (Turn.after HEX.out hT (by intro b hb; rw [List.mem_singleton.1 hb]; omega))
theorem rput_big {w : World} {q gq B n : Nat} {ws : List Int} {vR : Value} {R : List (Nat × Nat)} (H : RefAt w q gq B n ws vR R) (_hBw : B ≤ w.heap.size) (h : Hp) (hW : ∀ x ∈ ws, W64 x) (o : Ob) (c : Nat) (qf : Option Addr) (_hF : RowsP w (.slice qf o.fields.length c) 1 (o.fields.map wordC)) (_hF64 : ∀ x ∈ o.fields, W64 x) (_hFn : o.fields.length ≤ 1000)
    {L : List (Nat × Ob)} (hall : allH ws R h = some L) (hm : mayO o = true) (hbig : ¬ h.top + (wordsO o : Nat) ≤ h.half) :
    Calls Try.prog 27 #[.pointer (some ⟨q, 0, none⟩), .agg #[.int .i64 h.base, .int .i64 h.half, .int .i64 h.space, .int .i64 h.top], .agg #[.int .i64 o.kind, .int .i64 o.tag, .slice qf o.fields.length c, .string o.text]] w (RPutSaid ws R q gq B n vR h o w) := by
  have HA := Lib.hid (fun W (e : Ext w W) => rall_is (H.ext e) h hW)
  have HH := Lib.hid H
  have HM := Lib.hid (fun W => refmay_is o.kind o.tag o.fields.length c qf o.text W)
  have HWd := Lib.hid (fun W => refwords_is o c qf W)
  have hok := (thereB_ok (allH_there hall).1).1
  obtain ⟨a1, a2, a3, a4, a5, a6⟩ := hok
  have hwn : wordsO o ≤ 1000 := by unfold wordsO; unfold mayO at hm; have := (mayK_bounds hm).2.2.2.2.2.2.2; omega
  rw [show mayK o.kind o.tag o.fields.length o.text.size = true from hm] at HM
  rw [if_pos hm] at HWd
  have hb : putB ws R h o = false := by unfold putB; rw [hall]; simp only; rw [hm, decide_eq_false hbig]; rfl
  have HB := Lib.hid hb
  rw [hall] at HA
  generalize wordsO o = nn at *
  have t1 : decide (h.half - h.top < (nn : Int)) = true := decide_eq_true (by omega)
  clear hb hall H hW _hF _hF64 hm hbig
  go_enter Try.func27, Try.ntmps27
  go_upto_region 1 with fail
  refine blocks3w fun W hE hS c0 c1 c2 => ?_
  obtain ⟨x0, x1, x2, x3⟩ := cells4 c0
  go_wp2_with fail
  refine (HA.out W hE).mono ?_
  intro e w1 h1
  obtain ⟨q1, k1, rfl, ho1, hx1⟩ := h1
  have m0 := (Below.block hx1 w.heap.size (by omega)).trans c0
  have m1 := (Below.block hx1 (w.heap.size + 1) (by omega)).trans c1
  have m2 := (Below.block hx1 (w.heap.size + 1 + 1) (by omega)).trans c2
  have HE := Lib.hid (hE.trans hx1)
  have hl1 : w.heap.size + 1 + 1 < w1.heap.size := (Array.getElem?_eq_some_iff.1 m2).1
  have HO1 := Lib.hid ho1
  clear ho1
  clear hE hS c0 c1 c2 hx1 x0 x1 x2 x3
  go_upto_region 2 with fail
  refine wp_alloc1 fun W2 hE2 hS2 d3 => ?_
  have d0 := (Below.block hE2 w.heap.size (by omega)).trans m0
  have d1 := (Below.block hE2 (w.heap.size + 1) (by omega)).trans m1
  have d2 := (Below.block hE2 (w.heap.size + 1 + 1) (by omega)).trans m2
  have HE2 := Lib.hid (HE.out.trans hE2)
  have HO2 := Lib.hid (HO1.out.ext hE2)
  generalize w1.heap.size = pl at *
  clear hE2 hS2 m0 m1 m2
  obtain ⟨x0, x1, x2, x3⟩ := cells4 d0
  obtain ⟨o0, o1, o2, o3⟩ := cells4 d1
  obtain ⟨z0, z1⟩ := cells2 d3
  have r0 := fun d os => cell_regrown x1 d os
  have r1 := fun d os => cell_regrown x3 d os
  have r2 := fun d os => cell_regrown o0 d os
  have r3 := fun d os => cell_regrown o1 d os
  have r4 := fun d os => cell_regrown o2 d os
  have r5 := fun d os => cell_regrown o3 d os
  have r6 := fun d os => cell_regrown z1 d os
  have CM := Lib.hid (fun d os => quiet_ext (HM.out (Go.Sort.grow (redrawn W2 d) os)))
  have CW := Lib.hid (fun d os => quiet_ext (HWd.out (Go.Sort.grow (redrawn W2 d) os)))
  clear x0 x1 x2 x3 o0 o1 o2 o3 z0 z1
  refine wp_region_quiet_below (by kernel_rfl) (by kernel_rfl) ?_
  repeat (first | go_big_quiet_step (first | exact CM.out _ _ | exact CW.out _ _) | quiet_step (first | exact CM.out _ _ | exact CW.out _ _))
  refine wpQuiet_nil ?_
  intro _ hw'
  obtain ⟨⟨dq, osq⟩, hw''⟩ := hw'
  subst hw''
  obtain ⟨W3, hW3, hx3⟩ : ∃ W3, W3 = Go.Sort.grow (redrawn W2 dq) osq ∧ Ext W2 W3 := ⟨_, rfl, Ext.regrown W2 dq osq⟩
  rw [← hW3]
  have k0 := (Below.block hx3 w.heap.size (Array.getElem?_eq_some_iff.1 d0).1).trans d0
  have k1 := (Below.block hx3 (w.heap.size + 1) (Array.getElem?_eq_some_iff.1 d1).1).trans d1
  have k2 := (Below.block hx3 (w.heap.size + 1 + 1) (Array.getElem?_eq_some_iff.1 d2).1).trans d2
  have k3 := (Below.block hx3 pl (Array.getElem?_eq_some_iff.1 d3).1).trans d3
  have HE3 := Lib.hid (HE2.out.trans hx3)
  have HO3 := Lib.hid (HO2.out.ext hx3)
  clear hW3 hx3 d0 d1 d2 d3 r0 r1 r2 r3 r4 r5 r6
  have HEX := HE3
  obtain ⟨y0, y1, y2, y3, y4, y5⟩ := cells6 k2
  have f0 := free_at k2 (i := 0)
  have f1 := free_at k2 (i := 1)
  have f2 := free_at k2 (i := 2)
  have f3 := free_at k2 (i := 3)
  have f4 := free_at k2 (i := 4)
  have f5 := free_at k2 (i := 5)
  go_wp2
  refine post_fill6 k2 fun W9 k9 hT hS9 => ?_
  obtain ⟨y0, y1, y2, y3, y4, y5⟩ := cells6 k9
  refine bodyPost_ret (v := doneV ⟨0, 0, 0, 0⟩ 0 false) (by simp [results, Try.results27, go_sem, y0, y1, y2, y3, y4, y5, doneV]) rfl ?_
  exact rput_no HB.out HH.out rfl (Turn.after HEX.out hT (by intro b hb; rw [List.mem_singleton.1 hb]; omega))
theorem rput_rest {w : World} {q gq B n : Nat} {ws : List Int} {vR : Value} {R : List (Nat × Nat)} (H : RefAt w q gq B n ws vR R) (_hBw : B ≤ w.heap.size) (h : Hp) (hW : ∀ x ∈ ws, W64 x) (o : Ob) (c : Nat) (qf : Option Addr) (hF : RowsP w (.slice qf o.fields.length c) 1 (o.fields.map wordC)) (hF64 : ∀ x ∈ o.fields, W64 x) (hFn : o.fields.length ≤ 1000)
    {L : List (Nat × Ob)} (hall : allH ws R h = some L) (hm : mayO o = true) (hbig : h.top + (wordsO o : Nat) ≤ h.half) :
    Calls Try.prog 27 #[.pointer (some ⟨q, 0, none⟩), .agg #[.int .i64 h.base, .int .i64 h.half, .int .i64 h.space, .int .i64 h.top], .agg #[.int .i64 o.kind, .int .i64 o.tag, .slice qf o.fields.length c, .string o.text]] w (RPutSaid ws R q gq B n vR h o w) := by
  have HA := Lib.hid (fun W (e : Ext w W) => rall_is (H.ext e) h hW)
  have HH := Lib.hid H
  have HM := Lib.hid (fun W => refmay_is o.kind o.tag o.fields.length c qf o.text W)
  have HWd := Lib.hid (fun W => refwords_is o c qf W)
  have hl2 := allH_len H.good H.len hall
  have hfi := firstN_is (thereB_ok (allH_there hall).1).1
  have hok := (thereB_ok (allH_there hall).1).1
  obtain ⟨a1, a2, a3, a4, a5, a6⟩ := hok
  have hwn : wordsO o ≤ 1000 := by unfold wordsO; unfold mayO at hm; have := (mayK_bounds hm).2.2.2.2.2.2.2; omega
  rw [show mayK o.kind o.tag o.fields.length o.text.size = true from hm] at HM
  rw [if_pos hm] at HWd
  have hpb : putB ws R h o = o.fields.all (fieldOK (L.map (·.1)) (firstN h)) := by
    unfold putB
    rw [hall]
    simp only
    rw [hm, decide_eq_true hbig]
    simp
  have HPB := Lib.hid hpb
  rw [hall] at HA
  have HF64 := Lib.hid hF64
  have HF := Lib.hid (fun W (e : Ext w W) => hF.ext e)
  have HLAY := Lib.hid (fun W (e : Ext w W) => lay_is o hm c qf W (hF.ext e))
  have hll : (layO o).length = wordsO o := by have := body_len hm; unfold layO; rw [List.length_cons]; omega
  have HLL := Lib.hid hll
  have HSET := Lib.hid (fun W ws k v (H : RefAt W q gq B n ws vR R) => setR_said (x := h.base) (a := k) (v := v) H)
  have htn : topN h ≤ 4000 ∧ ((topN h : Nat) : Int) = h.space * h.half + h.top := by
    obtain ⟨h1, h2, h3⟩ := hfi
    unfold topN
    omega
  obtain ⟨htn1, htn2⟩ := htn
  have HTN := Lib.hid htn2
  have hf1 := hfi.1
  have hff := hfi.2.1
  obtain ⟨wo, hwo⟩ : ∃ wo, wo = wordsO o := ⟨_, rfl⟩
  rw [← hwo] at HWd hbig hwn
  have HWO := Lib.hid hwo
  have t1 : decide (h.half - h.top < (wo : Int)) = false := decide_eq_false (by omega)
  have hgw := H.lt
  have hm1 : h.space * h.half = (firstN h : Int) := hf1.symm
  have HM1 := Lib.hid hm1
  clear hpb hall H hW hF hF64 hm hll htn2 hfi hf1 hwo hm1
  go_enter Try.func27, Try.ntmps27
  go_upto_region 1 with fail
  refine blocks3w fun W hE hS c0 c1 c2 => ?_
  obtain ⟨x0, x1, x2, x3⟩ := cells4 c0
  go_wp2_with fail
  refine (HA.out W hE).mono ?_
  intro e w1 h1
  obtain ⟨q1, k1, rfl, ho1, hx1⟩ := h1
  have m0 := (Below.block hx1 w.heap.size (by omega)).trans c0
  have m1 := (Below.block hx1 (w.heap.size + 1) (by omega)).trans c1
  have m2 := (Below.block hx1 (w.heap.size + 1 + 1) (by omega)).trans c2
  have HE := Lib.hid (hE.trans hx1)
  have hl1 : w.heap.size + 1 + 1 < w1.heap.size := (Array.getElem?_eq_some_iff.1 m2).1
  have HO1 := Lib.hid ho1
  clear ho1
  clear hE hS c0 c1 c2 hx1 x0 x1 x2 x3
  go_upto_region 2 with fail
  refine wp_alloc1 fun W2 hE2 hS2 d3 => ?_
  have d0 := (Below.block hE2 w.heap.size (by omega)).trans m0
  have d1 := (Below.block hE2 (w.heap.size + 1) (by omega)).trans m1
  have d2 := (Below.block hE2 (w.heap.size + 1 + 1) (by omega)).trans m2
  have HE2 := Lib.hid (HE.out.trans hE2)
  have HO2 := Lib.hid (HO1.out.ext hE2)
  generalize w1.heap.size = pl at *
  clear hE2 hS2 m0 m1 m2
  obtain ⟨x0, x1, x2, x3⟩ := cells4 d0
  obtain ⟨o0, o1, o2, o3⟩ := cells4 d1
  obtain ⟨z0, z1⟩ := cells2 d3
  have r0 := fun d os => cell_regrown x1 d os
  have r1 := fun d os => cell_regrown x3 d os
  have r2 := fun d os => cell_regrown o0 d os
  have r3 := fun d os => cell_regrown o1 d os
  have r4 := fun d os => cell_regrown o2 d os
  have r5 := fun d os => cell_regrown o3 d os
  have r6 := fun d os => cell_regrown z1 d os
  have CM := Lib.hid (fun d os => quiet_ext (HM.out (Go.Sort.grow (redrawn W2 d) os)))
  have CW := Lib.hid (fun d os => quiet_ext (HWd.out (Go.Sort.grow (redrawn W2 d) os)))
  clear x0 x1 x2 x3 o0 o1 o2 o3 z0 z1
  refine wp_region_quiet_below (by kernel_rfl) (by kernel_rfl) ?_
  repeat (first | go_big_quiet_step (first | exact CM.out _ _ | exact CW.out _ _) | quiet_step (first | exact CM.out _ _ | exact CW.out _ _))
  refine wpQuiet_nil ?_
  intro _ hw'
  obtain ⟨⟨dq, osq⟩, hw''⟩ := hw'
  subst hw''
  obtain ⟨W3, hW3, hx3⟩ : ∃ W3, W3 = Go.Sort.grow (redrawn W2 dq) osq ∧ Ext W2 W3 := ⟨_, rfl, Ext.regrown W2 dq osq⟩
  rw [← hW3]
  have k0 := (Below.block hx3 w.heap.size (Array.getElem?_eq_some_iff.1 d0).1).trans d0
  have k1 := (Below.block hx3 (w.heap.size + 1) (Array.getElem?_eq_some_iff.1 d1).1).trans d1
  have k2 := (Below.block hx3 (w.heap.size + 1 + 1) (Array.getElem?_eq_some_iff.1 d2).1).trans d2
  have k3 := (Below.block hx3 pl (Array.getElem?_eq_some_iff.1 d3).1).trans d3
  have HE3 := Lib.hid (HE2.out.trans hx3)
  have HO3 := Lib.hid (HO2.out.ext hx3)
  clear hW3 hx3 d0 d1 d2 d3 r0 r1 r2 r3 r4 r5 r6
  go_wp2_with fail
  go_loopw [8] (fun i wr => ∃ t : Nat, t ≤ o.fields.length ∧ i = .int .i64 t ∧ Hid ((o.fields.take t).all (fieldOK (L.map (·.1)) (firstN h)) = true) ∧ Ext W3 wr) (fun i _ => o.fields.length - (intOf i).toNat)
  case atStart => exact ⟨0, Nat.zero_le _, rfl, Lib.hid rfl, Ext.refl _⟩
  case round =>
    obtain ⟨t, ht, rfl, HFA, hxt⟩ := hrel
    have HXT := Lib.hid hxt
    have e0 := (Below.block hxt w.heap.size (Array.getElem?_eq_some_iff.1 k0).1).trans k0
    have e1 := (Below.block hxt (w.heap.size + 1) (Array.getElem?_eq_some_iff.1 k1).1).trans k1
    have e2 := (Below.block hxt (w.heap.size + 1 + 1) (Array.getElem?_eq_some_iff.1 k2).1).trans k2
    have e3 := (Below.block hxt pl (Array.getElem?_eq_some_iff.1 k3).1).trans k3
    have HOT := Lib.hid (HO3.out.ext hxt)
    clear hxt k0 k1 k2 k3
    obtain ⟨o0, o1, o2, o3⟩ := cells4 e1
    by_cases htl : t < o.fields.length
    · obtain ⟨y, hy⟩ : ∃ y, o.fields[t]? = some y := ⟨_, List.getElem?_eq_getElem htl⟩
      obtain ⟨q2, c2, hv2, _, _, hcell⟩ := (HF.out wr (HE3.out.trans HXT.out)).at
      obtain ⟨fb, fo, hqe, hyc⟩ := hcell t (wordC y) (by rw [List.getElem?_map, hy]; rfl)
      obtain ⟨rfl, -, rfl⟩ := Value.slice.inj hv2
      subst hqe
      have hyc0 := hyc 0 _ rfl
      rw [Nat.mul_one, Nat.add_zero] at hyc0
      have HIS := Lib.hid (fun W (e : Ext wr W) => ris_is (first := firstN h) (ok := true) (HF64.out y (List.mem_of_getElem? hy)) W (HOT.out.ext e).p (by omega))
      generalize hff : fieldOK (L.map (·.1)) (firstN h) y = ff at HIS
      have HFF := Lib.hid hff
      have HY := Lib.hid hy
      clear hff hy hv2 hcell hyc
      have j3 : (t : Int) < (o.fields.length : Int) := by omega
      go_upto_region 7 with fail
      obtain ⟨z0, z1⟩ := cells2 e3
      have r0 := fun d os => cell_regrown z0 d os
      have r1 := fun d os => cell_regrown z1 d os
      have r2 := fun d os => cell_regrown o2 d os
      have r3 := fun d os => cell_regrown hyc0 d os
      have CI := Lib.hid (fun d os => quiet_ext (HIS.out (Go.Sort.grow (redrawn wr d) os) (Ext.regrown wr d os)))
      clear z0 z1 o0 o1 o2 o3 hyc0
      refine wp_region_quiet_below (by kernel_rfl) (by kernel_rfl) ?_
      repeat (first | go_big_quiet_step (exact CI.out _ _) | quiet_step (exact CI.out _ _))
      refine wpQuiet_nil ?_
      intro _ hw'
      obtain ⟨⟨dq, osq⟩, hw''⟩ := hw'
      subst hw''
      obtain ⟨W8, hW8, hx8⟩ : ∃ W8, W8 = Go.Sort.grow (redrawn wr dq) osq ∧ Ext wr W8 := ⟨_, rfl, Ext.regrown wr dq osq⟩
      rw [← hW8]
      have k2 := (Below.block hx8 (w.heap.size + 1 + 1) (Array.getElem?_eq_some_iff.1 e2).1).trans e2
      have HEX := Lib.hid ((HE3.out.trans HXT.out).trans hx8)
      have HXT8 := Lib.hid (HXT.out.trans hx8)
      clear hW8 hx8 r0 r1 r2 r3 e0 e1 e2 e3
      cases ff
      · have hno : putB ws R h o = false := by
          rw [HPB.out]
          refine Bool.eq_false_iff.2 fun h2 => ?_
          have h3 := List.all_eq_true.1 h2 y (List.mem_of_getElem? HY.out)
          rw [HFF.out] at h3
          cases h3
        have HB := Lib.hid hno
        clear hno
        obtain ⟨y0, y1, y2, y3, y4, y5⟩ := cells6 k2
        have f0 := free_at k2 (i := 0)
        have f1 := free_at k2 (i := 1)
        have f2 := free_at k2 (i := 2)
        have f3 := free_at k2 (i := 3)
        have f4 := free_at k2 (i := 4)
        have f5 := free_at k2 (i := 5)
        go_wp2
        refine post_fill6 k2 fun W9 k9 hT hS9 => ?_
        obtain ⟨y0, y1, y2, y3, y4, y5⟩ := cells6 k9
        refine bodyPost_ret (v := doneV ⟨0, 0, 0, 0⟩ 0 false) (by simp [results, Try.results27, go_sem, y0, y1, y2, y3, y4, y5, doneV]) rfl ?_
        exact rput_no HB.out HH.out rfl (Turn.after HEX.out hT (by intro b hb; rw [List.mem_singleton.1 hb]; omega))
      · have hst : (o.fields.take (t + 1)).all (fieldOK (L.map (·.1)) (firstN h)) = true := by
          obtain ⟨h1, h2⟩ := List.getElem?_eq_some_iff.1 HY.out
          rw [List.take_succ_eq_append_getElem h1, List.all_append, HFA.out, h2]
          simp [HFF.out]
        have HST := Lib.hid hst
        clear hst
        go_wp2
        exact ⟨⟨t + 1, by omega, by go_num, HST.out, HXT8.out⟩, by simp [intOf]; omega⟩
    · obtain rfl : t = o.fields.length := by omega
      have hyes : putB ws R h o = true := by
        rw [HPB.out]
        have := HFA.out
        rw [List.take_length] at this
        exact this
      have HYES := Lib.hid hyes
      clear hyes HFA
      have j3 : ¬ (o.fields.length : Int) < (o.fields.length : Int) := by omega
      obtain ⟨x0, x1, x2, x3⟩ := cells4 e0
      have hm1 := HM1.out
      go_wp2_with fail
      clear hm1
      refine (HLAY.out wr (HE3.out.trans HXT.out)).mono ?_
      rintro e w5 ⟨v, rfl, hol, hx5⟩
      have k0 := (Below.block hx5 w.heap.size (Array.getElem?_eq_some_iff.1 e0).1).trans e0
      have k2 := (Below.block hx5 (w.heap.size + 1 + 1) (Array.getElem?_eq_some_iff.1 e2).1).trans e2
      have HX5 := Lib.hid ((HE3.out.trans HXT.out).trans hx5)
      have hlr : w.heap.size + 1 + 1 < wr.heap.size := (Array.getElem?_eq_some_iff.1 e2).1
      obtain ⟨ql, cl, hvl, _, _⟩ := hol.len
      rw [List.length_map, HLL.out, ← HWO.out] at hvl
      subst hvl
      have HOL := Lib.hid hol
      have HR5 := Lib.hid (HH.out.ext HX5.out)
      obtain ⟨at_, hat⟩ : ∃ at_ : Int, at_ = (firstN h : Int) + h.top := ⟨_, rfl⟩
      have hatn : at_ = ((topN h : Nat) : Int) := by rw [HTN.out, HM1.out]; exact hat
      have HATN := Lib.hid hatn
      have ha0 : 0 ≤ at_ := by omega
      have ha1 : at_ ≤ 4000 := by omega
      rw [← hat]
      clear hol hx5 e0 e1 e2 e3 o0 o1 o2 o3 x0 x1 x2 x3 hatn hat
      go_wp2_with fail
      go_loopw [11] (fun i wr' => ∃ k : Nat, k ≤ wo ∧ i = .int .i64 k ∧ RefAt wr' q gq B n (setRun ws R h.base (topN h) ((layO o).take k)) vR R ∧ Turn [gq] w5 wr') (fun i _ => wo - (intOf i).toNat)
      case atStart => exact ⟨0, Nat.zero_le _, rfl, HR5.out, Turn.refl _ _⟩
      case round =>
        obtain ⟨k, hk, rfl, hR, hT⟩ := hrel
        have HR8 := Lib.hid hR
        have HT8 := Lib.hid hT
        have e0 := (hT.block w.heap.size (Array.getElem?_eq_some_iff.1 k0).1 (by simp; omega)).trans k0
        have e2 := (hT.block (w.heap.size + 1 + 1) (Array.getElem?_eq_some_iff.1 k2).1 (by simp; omega)).trans k2
        have HO8 := Lib.hid (HOL.out.turn hT (fun b hb hm => by have := (HOL.out.own b hb).1; rw [List.mem_singleton.1 hm] at this; omega))
        clear hR hT k0 k2
        by_cases hkl : k < wo
        · obtain ⟨y, hy⟩ : ∃ y, (layO o)[k]? = some y := ⟨_, List.getElem?_eq_getElem (by rw [HLL.out, ← HWO.out]; exact hkl)⟩
          obtain ⟨g6, eg6, _, y0, _⟩ := HO8.out.cell (i := k) (cs := wordC y) (by rw [List.getElem?_map, hy]; rfl) (f := 0) rfl
          subst eg6
          rw [Nat.mul_one, Nat.add_zero] at y0
          have HY := Lib.hid hy
          have hs := IntWalk.i64_in (at_ + (k : Int)) (by omega)
          have HS := Lib.hid hs
          have j4 : (k : Int) < (wo : Int) := by omega
          obtain ⟨x0, x1, x2, x3⟩ := cells4 e0
          clear hy hs x1 x2 x3
          go_upto_region 14 with fail
          refine wp_region_noPanic ?_
          refine wp_region_last 10 (S := (fun w' => w'.cell? ⟨w.heap.size, 0, none⟩ = some (.int .i64 h.base) ∧ w'.cell? ⟨g6, k, none⟩ = some (.int .u64 y))) (by kernel_rfl) (by kernel_rfl) _ rfl ?_ (fun hHeld => ?_)
          · (exact ⟨(Ext.drew _).cell x0, (Ext.drew _).cell y0⟩)
          simp only [List.take_succ_cons, List.take_zero]
          refine wpAnyH_take (i := 0) (v := ?v1) rfl (by kernel_rfl) (by kernel_rfl) (by kernel_rfl) (fun _ _ _ h => h) (Or.inl ⟨by rfl, ?y1⟩) (by assumption) ?r1
          case y1 => intro w hSw; (try dsimp only at hSw); go_simp; (try with_reducible rfl)
          (try simp only [Act.put, List.setIfInBounds_toArray, List.set_cons_zero, List.set_cons_succ, List.getElem_toArray, List.getElem_cons_zero, List.getElem_cons_succ])
          refine wpAnyH_take (i := 1) (v := ?v2) rfl (by kernel_rfl) (by kernel_rfl) (by kernel_rfl) (fun _ _ _ h => h) (Or.inl ⟨by rfl, ?y2⟩) (by assumption) ?r2
          case y2 => intro w hSw; (try dsimp only at hSw); go_simp; (try with_reducible rfl)
          (try simp only [Act.put, List.setIfInBounds_toArray, List.set_cons_zero, List.set_cons_succ, List.getElem_toArray, List.getElem_cons_zero, List.getElem_cons_succ])
          refine wpAnyH_take (i := 2) (v := ?v3) rfl (by kernel_rfl) (by kernel_rfl) (by kernel_rfl) (fun _ _ _ h => h) (Or.inl ⟨by rfl, ?y3⟩) (by assumption) ?r3
          case y3 => intro w hSw; (try dsimp only at hSw); go_simp; (try with_reducible rfl)
          (try simp only [Act.put, List.setIfInBounds_toArray, List.set_cons_zero, List.set_cons_succ, List.getElem_toArray, List.getElem_cons_zero, List.getElem_cons_succ])
          refine wpAnyH_take (i := 3) (v := ?v4) rfl (by kernel_rfl) (by kernel_rfl) (by kernel_rfl) (fun _ _ _ h => h) (Or.inl ⟨by rfl, ?y4⟩) (by assumption) ?r4
          case y4 => intro w hSw; (try dsimp only at hSw); go_simp; (try with_reducible rfl)
          (try simp only [Act.put, List.setIfInBounds_toArray, List.set_cons_zero, List.set_cons_succ, List.getElem_toArray, List.getElem_cons_zero, List.getElem_cons_succ])
          refine wpAnyH_take (i := 4) (v := ?v5) rfl (by kernel_rfl) (by kernel_rfl) (by kernel_rfl) (fun _ _ _ h => h) (Or.inl ⟨by rfl, ?y5⟩) (by assumption) ?r5
          case y5 => intro w hSw; (try dsimp only at hSw); go_simp; (try with_reducible rfl)
          (try simp only [Act.put, List.setIfInBounds_toArray, List.set_cons_zero, List.set_cons_succ, List.getElem_toArray, List.getElem_cons_zero, List.getElem_cons_succ])
          refine wpAnyH_take (i := 5) (v := ?v6) rfl (by kernel_rfl) (by kernel_rfl) (by kernel_rfl) (fun _ _ _ h => h) (Or.inl ⟨by rfl, ?y6⟩) (by assumption) ?r6
          case y6 => intro w hSw; (try dsimp only at hSw); go_simp; (try with_reducible rfl)
          (try simp only [Act.put, List.setIfInBounds_toArray, List.set_cons_zero, List.set_cons_succ, List.getElem_toArray, List.getElem_cons_zero, List.getElem_cons_succ])
          refine wpAnyH_take (i := 6) (v := ?v7) rfl (by kernel_rfl) (by kernel_rfl) (by kernel_rfl) (fun _ _ _ h => h) (Or.inl ⟨by rfl, ?y7⟩) (by assumption) ?r7
          case y7 => intro w hSw; (try dsimp only at hSw); go_simp; (try with_reducible rfl)
          (try simp only [Act.put, List.setIfInBounds_toArray, List.set_cons_zero, List.set_cons_succ, List.getElem_toArray, List.getElem_cons_zero, List.getElem_cons_succ])
          refine wpAnyH_take (i := 7) (v := ?v8) rfl (by kernel_rfl) (by kernel_rfl) (by kernel_rfl) (fun _ _ _ h => h) (Or.inl ⟨by rfl, ?y8⟩) (by assumption) ?r8
          case y8 => intro w hSw; (try dsimp only at hSw); go_simp; (try with_reducible rfl)
          (try simp only [Act.put, List.setIfInBounds_toArray, List.set_cons_zero, List.set_cons_succ, List.getElem_toArray, List.getElem_cons_zero, List.getElem_cons_succ])
          refine wpAnyH_take (i := 8) (v := ?v9) rfl (by kernel_rfl) (by kernel_rfl) (by kernel_rfl) (fun _ _ _ h => h) (Or.inl ⟨by rfl, ?y9⟩) (by assumption) ?r9
          case y9 => intro w hSw; (try dsimp only at hSw); go_simp; (try with_reducible rfl)
          (try simp only [Act.put, List.setIfInBounds_toArray, List.set_cons_zero, List.set_cons_succ, List.getElem_toArray, List.getElem_cons_zero, List.getElem_cons_succ])
          refine wpAnyH_take (i := 9) (v := ?v10) rfl (by kernel_rfl) (by kernel_rfl) (by kernel_rfl) (fun _ _ _ h => h) (Or.inl ⟨by rfl, ?y10⟩) (by assumption) ?r10
          case y10 => intro w hSw; (try dsimp only at hSw); go_simp; (try with_reducible rfl)
          (try simp only [Act.put, List.setIfInBounds_toArray, List.set_cons_zero, List.set_cons_succ, List.getElem_toArray, List.getElem_cons_zero, List.getElem_cons_succ])
          refine wpAnyH_done (by kernel_rfl) ?_ _
          show wpList _ _ _ _ _ _
          go_wp2_with fail
          rw [HS.out]
          refine (HSET.out _ _ (at_ + (k : Int)) y (HR8.out.ext (Ext.drew _))).mono ?_
          rintro e w9 ⟨rfl, hR9, hT9⟩
          have hR9' : RefAt w9 q gq B n (setRun ws R h.base (topN h) ((layO o).take (k + 1))) vR R := by
            obtain ⟨h1, h2⟩ := List.getElem?_eq_some_iff.1 HY.out
            rw [List.take_succ_eq_append_getElem h1, h2, setRun_snoc, List.length_take, show ((topN h + min k (layO o).length : Nat) : Int) = at_ + (k : Int) by rw [HLL.out, ← HWO.out, HATN.out]; omega]
            exact hR9
          have HR9 := Lib.hid hR9'
          have HT9 := Lib.hid (HT8.out.trans ((Turn.of_ext (Ext.drew _)).trans hT9))
          clear hR9 hR9' hT9
          go_wp2
          refine NoPanic.normal ?_
          go_wp2
          exact ⟨⟨k + 1, by omega, by go_num, HR9.out, HT9.out⟩, by simp [intOf]; omega⟩
        · obtain rfl : k = wo := by omega
          have j4 : ¬ (k : Int) < (k : Int) := by omega
          have hR := HR8.out
          rw [List.take_of_length_le (by rw [HLL.out, ← HWO.out]; exact Nat.le_refl _)] at hR
          have HR9 := Lib.hid hR
          clear hR HR8
          obtain ⟨x0, x1, x2, x3⟩ := cells4 e0
          have f3 := free_at e0 (i := 3)
          have i3 : (k : Int) ≤ 1000 := by omega
          go_upto_region 16 with fail
          refine wp_fill1 e0 fun W9 hb9 hT9 hS9 => ?_
          have g0 : W9.heap[w.heap.size]? = some (.cells #[.int .i64 h.base, .int .i64 h.half, .int .i64 h.space, .int .i64 (h.top + (k : Int))] 24 (0, 0)) := hb9
          have g2 := (hT9.block (w.heap.size + 1 + 1) (Array.getElem?_eq_some_iff.1 e2).1 (by simp; omega)).trans e2
          have hlq := HH.out.lt
          have HR10 := Lib.hid (HR9.out.turn_new HH.out hT9 (by simp))
          have HTG := Lib.hid (show Turn [gq, w.heap.size] w W9 from (Turn.of_ext HX5.out).trans ((HT8.out.mono (by simp)).trans (hT9.mono (by simp))))
          clear hT9 hb9 hS9 e0 e2 x0 x1 x2 x3 f3 hlq
          obtain ⟨v0, v1, v2, v3⟩ := cells4 g0
          obtain ⟨y0, y1, y2, y3, y4, y5⟩ := cells6 g2
          have f0 := free_at g2 (i := 0)
          have f1 := free_at g2 (i := 1)
          have f2 := free_at g2 (i := 2)
          have f3 := free_at g2 (i := 3)
          have f4 := free_at g2 (i := 4)
          have f5 := free_at g2 (i := 5)
          refine wp_region_noPanic ?_
          refine wp_region_last 4 (S := (fun w' => w'.cell? ⟨w.heap.size, 0, none⟩ = some (.int .i64 h.base) ∧ w'.cell? ⟨w.heap.size, 1, none⟩ = some (.int .i64 h.half) ∧ w'.cell? ⟨w.heap.size, 2, none⟩ = some (.int .i64 h.space) ∧ w'.cell? ⟨w.heap.size, 3, none⟩ = some (.int .i64 (h.top + (k : Int))))) (by kernel_rfl) (by kernel_rfl) _ rfl ?_ (fun hHeld => ?_)
          · (exact ⟨(Ext.drew _).cell v0, (Ext.drew _).cell v1, (Ext.drew _).cell v2, (Ext.drew _).cell v3⟩)
          simp only [List.take_succ_cons, List.take_zero]
          refine wpAnyH_take (i := 0) (v := ?v11) rfl (by kernel_rfl) (by kernel_rfl) (by kernel_rfl) (fun _ _ _ h => h) (Or.inl ⟨by rfl, ?y11⟩) (by assumption) ?r11
          case y11 => intro w hSw; (try dsimp only at hSw); go_simp; (try with_reducible rfl)
          (try simp only [Act.put, List.setIfInBounds_toArray, List.set_cons_zero, List.set_cons_succ, List.getElem_toArray, List.getElem_cons_zero, List.getElem_cons_succ])
          refine wpAnyH_take (i := 1) (v := ?v12) rfl (by kernel_rfl) (by kernel_rfl) (by kernel_rfl) (fun _ _ _ h => h) (Or.inl ⟨by rfl, ?y12⟩) (by assumption) ?r12
          case y12 => intro w hSw; (try dsimp only at hSw); go_simp; (try with_reducible rfl)
          (try simp only [Act.put, List.setIfInBounds_toArray, List.set_cons_zero, List.set_cons_succ, List.getElem_toArray, List.getElem_cons_zero, List.getElem_cons_succ])
          refine wpAnyH_ready (rs := [2]) (by kernel_rfl) (by simp) ?_
          refine AllReadyH.cons rfl (fun K hK => ?_) AllReadyH.nil
          go_simp
          rw [HATN.out]
          refine (refPlace_is (n := topN h) (by omega) _).mono ?_
          rintro e w' ⟨rfl, rfl⟩
          refine hK.out _ _ ?s13 (fun hHeld => ?k13)
          case s13 => ((try dsimp only); (exact ⟨(Ext.drew _).cell v0, (Ext.drew _).cell v1, (Ext.drew _).cell v2, (Ext.drew _).cell v3⟩))
          clear hK K
          (try simp only [Act.put, List.setIfInBounds_toArray, List.set_cons_zero, List.set_cons_succ, List.getElem_toArray, List.getElem_cons_zero, List.getElem_cons_succ])
          refine wpAnyH_take (i := 3) (v := ?v14) rfl (by kernel_rfl) (by kernel_rfl) (by kernel_rfl) (fun _ _ _ h => h) (Or.inl ⟨by rfl, ?y14⟩) (by assumption) ?r14
          case y14 => intro w hSw; (try dsimp only at hSw); go_simp; (try with_reducible rfl)
          (try simp only [Act.put, List.setIfInBounds_toArray, List.set_cons_zero, List.set_cons_succ, List.getElem_toArray, List.getElem_cons_zero, List.getElem_cons_succ])
          refine wpAnyH_done (by kernel_rfl) ?_ _
          show wpList _ _ _ _ _ _
          go_wp2
          refine NoPanic.normal ?_
          go_wp2
          have hf := fill6 (w := W9) g2 (.int .i64 h.base) (.int .i64 h.half) (.int .i64 h.space) (.int .i64 (h.top + (k : Int))) (.int .u64 (2 * ((topN h : Nat) : Int))) (.bool true)
          refine post_gen (fun W => W.heap[w.heap.size + 1 + 1]? = some (.cells #[.int .i64 h.base, .int .i64 h.half, .int .i64 h.space, .int .i64 (h.top + (k : Int)), .int .u64 (2 * ((topN h : Nat) : Int)), .bool true] 66 (0, 0)) ∧ Turn [w.heap.size + 1 + 1] W9 W) ⟨hf.1, hf.2.1.trans (Turn.of_ext (Ext.drew _))⟩ fun W10 hF10 => ?_
          obtain ⟨n2, hT10⟩ := hF10
          have HK2 := Lib.hid hT10
          clear hf hT10 y0 y1 y2 y3 y4 y5
          obtain ⟨y0, y1, y2, y3, y4, y5⟩ := cells6 n2
          refine bodyPost_ret (v := doneV ⟨h.base, h.half, h.space, h.top + (k : Int)⟩ (2 * ((topN h : Nat) : Int)) true) (by simp [results, Try.results27, go_sem, y0, y1, y2, y3, y4, y5, doneV]) rfl ?_
          unfold RPutSaid
          rw [HYES.out]
          simp only [if_true]
          refine ⟨?_, ?_, ?_⟩
          · unfold hpUp
            rw [← HWO.out]
            rfl
          · exact HR10.out.turn_new HH.out HK2.out (by simp; omega)
          · refine Turn.sub (bs := [gq, w.heap.size, w.heap.size + 1 + 1]) ((HTG.out.mono (by simp)).trans (HK2.out.mono (by simp))) ?_
            intro b hb
            simp at hb
            rcases hb with rfl | rfl | rfl
            · exact .inl (.head _)
            · exact .inr (Nat.le_refl _)
            · exact .inr (by omega)
theorem rput_is {w : World} {q gq B n : Nat} {ws : List Int} {vR : Value} {R : List (Nat × Nat)} (H : RefAt w q gq B n ws vR R) (hBw : B ≤ w.heap.size) (h : Hp) (hW : ∀ x ∈ ws, W64 x) (o : Ob) (c : Nat) (qf : Option Addr) (hF : RowsP w (.slice qf o.fields.length c) 1 (o.fields.map wordC)) (hF64 : ∀ x ∈ o.fields, W64 x) (hFn : o.fields.length ≤ 1000) :
    Calls Try.prog 27 #[.pointer (some ⟨q, 0, none⟩), .agg #[.int .i64 h.base, .int .i64 h.half, .int .i64 h.space, .int .i64 h.top], .agg #[.int .i64 o.kind, .int .i64 o.tag, .slice qf o.fields.length c, .string o.text]] w (RPutSaid ws R q gq B n vR h o w) := by
  cases hall : allH ws R h with
  | none => exact rput_none H hBw h hW o c qf hF hF64 hFn hall
  | some L =>
    cases hm : mayO o with
    | false => exact rput_may H hBw h hW o c qf hF hF64 hFn hall hm
    | true =>
      by_cases hbig : h.top + (wordsO o : Nat) ≤ h.half
      · exact rput_rest H hBw h hW o c qf hF hF64 hFn hall hm hbig
      · exact rput_big H hBw h hW o c qf hF hF64 hFn hall hm hbig
end Go.Proofs.Ytlffmcadchbheaa
/- keep.Ints, keep.Object, LongObject. -/
namespace Go.Proofs.Ytlffmcadchbheaa
open Go.RowKit Go.Maps
set_option maxHeartbeats 2000000
set_option maxRecDepth 100000
theorem info_i64 : (Try.prog.info? 3).map (fun i => (i.zero, i.size, i.bytes)) = some (some (.int .i64 0), 1, 8) := by kernel_rfl
/-- a slice that reads as words, wherever it lies -/
def NumSl (w : World) (v : Value) (l : List Int) : Prop := ∃ q c, v = .slice q l.length c ∧ l.length ≤ c ∧ c ≤ maxLen ∧ ∀ (i : Nat) (x : Int), l[i]? = some x → ∃ b off, q = some ⟨b, off, none⟩ ∧ w.cell? ⟨b, off + i, none⟩ = some (.int .i64 x)
theorem NumSl.ext {w w' : World} {v : Value} {l : List Int} (h : NumSl w v l) (e : Ext w w') : NumSl w' v l := by
  obtain ⟨q, c, hv, h1, h2, hc⟩ := h
  exact ⟨q, c, hv, h1, h2, fun i x hx => by obtain ⟨b, off, hq, hcc⟩ := hc i x hx; exact ⟨b, off, hq, e.cell hcc⟩⟩
theorem NumSl.of_row {w : World} {base : Nat} {v : Value} {l : List Int} (h : w.ownsRow base 3 1 v l.length (l.map fun x => Value.int .i64 x)) : NumSl w v l := by
  rcases h.2 with ⟨h1, h2⟩ | ⟨g, cap, cur, h1, hb, hg, h2, h3, h4, h5⟩
  · refine ⟨none, 0, by rw [h1, h2], by omega, Nat.zero_le _, fun i x hx => ?_⟩
    have := (List.getElem?_eq_some_iff.1 hx).1
    omega
  · refine ⟨_, cap, h1, h2, h3, fun i x hx => ⟨g, 0, rfl, ?_⟩⟩
    subst h1
    have hi : i < l.length := (List.getElem?_eq_some_iff.1 hx).1
    rw [Nat.zero_add, World.ownsRow.cellAt h i (by omega), List.getElem?_map, hx]
    rfl
theorem keep_ints {w : World} {va vb : Value} {a b : List Int} (ha : NumSl w va a) (hb : NumSl w vb b) : Calls Try.prog 23 #[va, vb] w fun e w' => e = .returned (.bool (decide (a = b))) ∧ Ext w w' := by
  obtain ⟨qa, ca, rfl, la1, la2, hca⟩ := ha
  obtain ⟨qb, cb, rfl, lb1, lb2, hcb⟩ := hb
  unfold maxLen at la2 lb2
  by_cases hl : a.length = b.length
  · have HA := Lib.hid hca; have HB := Lib.hid hcb
    have HL := Lib.hid hl.symm
    rw [← hl] at lb1 ⊢
    clear hca hcb hl
    go_enter Try.func23, Try.ntmps23
    go_wp2
    go_loopw [5] (fun i wr => ∃ k : Nat, k ≤ a.length ∧ i = .int .i64 k ∧ a.take k = b.take k ∧ Ext w wr) (fun i _ => a.length - (intOf i).toNat)
    case atStart => exact ⟨0, by omega, rfl, rfl, Ext.refl _⟩
    case round =>
      obtain ⟨k, hk, rfl, htk, hx⟩ := hrel
      have HT := Lib.hid htk
      clear htk
      by_cases hlt : k < a.length
      · have hltb : k < b.length := by rw [HL.out]; exact hlt
        obtain ⟨b1, o1, rfl, p0⟩ := HA.out k a[k] (List.getElem?_eq_getElem hlt)
        obtain ⟨b2, o2, rfl, q0⟩ := HB.out k b[k] (List.getElem?_eq_getElem hltb)
        have P0 := hx.cell p0; have Q0 := hx.cell q0
        clear p0 q0
        have HX := Lib.hid (show a[k] = b[k] → a.take (k + 1) = b.take (k + 1) by intro e; rw [List.take_succ_eq_append_getElem hlt, List.take_succ_eq_append_getElem hltb, e, HT.out])
        have HY := Lib.hid (show a[k] ≠ b[k] → decide (a = b) = false by intro e; exact decide_eq_false (fun h => e (by subst h; rfl)))
        generalize a[k] = x at *
        generalize b[k] = y at *
        have i1 : (k : Int) < (a.length : Int) := by omega
        by_cases hxy : x = y
        · subst hxy
          go_wp2
          go_big_quiet (fail)
          go_wp2
          exact ⟨⟨k + 1, by omega, by go_num, HX.out (by first | trivial | rfl), hx.trans (Ext.drewN _ _)⟩, by simp [intOf]; omega⟩
        · have hres := HY.out hxy
          have bne : (x == y) = false := beq_false_of_ne hxy
          have HRS := Lib.hid hres
          clear hres
          go_wp2
          go_big_quiet (fail)
          go_wp2
          go_ret
          rw [HRS.out]
          exact ⟨rfl, hx.trans (Ext.drewN _ _)⟩
      · obtain rfl : k = a.length := by omega
        have hab : a = b := by
          have := HT.out
          rw [List.take_length, ← HL.out, List.take_length] at this
          exact this
        have HAB := Lib.hid (decide_eq_true hab)
        clear hab
        go_wp2
        go_ret
        rw [HAB.out]
        exact ⟨rfl, hx⟩
  · have bl : ((a.length : Int) == (b.length : Int)) = false := beq_false_of_ne (by omega)
    have hab : decide (a = b) = false := decide_eq_false (fun e => hl (by rw [e]))
    rw [hab]
    clear hca hcb hab hl
    go_enter Try.func23, Try.ntmps23
    go_wp2
    go_ret
    exact ⟨rfl, Ext.refl _⟩
theorem long_is (kd tg : Int) (n c : Nat) (q : Option Addr) (s : ByteArray) (w : World) (hn : n ≤ 9223372036854775807) (hs : s.size ≤ 9223372036854775807) : Calls Try.prog 9 #[.agg #[.int .i64 kd, .int .i64 tg, .slice q n c, .string s]] w fun e w' => e = .returned (.bool (decide (600 < n) || decide (800 < s.size))) ∧ Ext w w' := by
  by_cases h1 : 600 < n
  · have hb : (decide (600 < n) || decide (800 < s.size)) = true := by simp [h1]
    rw [hb]
    have i1 : (600 : Int) < (n : Int) := by omega
    clear hb h1
    go_enter Try.func9, Try.ntmps9
    go_wp2
    go_ret
    exact ⟨rfl, Ext.alloc _ _⟩
  · have i1 : ¬ (600 : Int) < (n : Int) := by omega
    by_cases h2 : 800 < s.size
    · have hb : (decide (600 < n) || decide (800 < s.size)) = true := by simp [h2]
      rw [hb]
      have i2 : (800 : Int) < (s.size : Int) := by omega
      clear hb h1 h2
      go_enter Try.func9, Try.ntmps9
      go_wp2
      go_ret
      exact ⟨rfl, Ext.alloc _ _⟩
    · have hb : (decide (600 < n) || decide (800 < s.size)) = false := by simp [h1, h2]
      rw [hb]
      have i2 : ¬ (800 : Int) < (s.size : Int) := by omega
      clear hb h1 h2
      go_enter Try.func9, Try.ntmps9
      go_wp2
      go_ret
      exact ⟨rfl, Ext.alloc _ _⟩
end Go.Proofs.Ytlffmcadchbheaa
/- keep.Object, keep.OwnWords, keep.OwnObject. -/
namespace Go.Proofs.Ytlffmcadchbheaa
open Go.RowKit Go.Maps
set_option maxHeartbeats 2000000
set_option maxRecDepth 100000
theorem bytes_inj {s t : ByteArray} (h : s.toList = t.toList) : s = t := by
  rw [ByteArray.toList_eq, ByteArray.toList_eq] at h
  obtain ⟨⟨l⟩⟩ := s; obtain ⟨⟨m⟩⟩ := t
  simp at h
  rw [h]
theorem keep_object {w : World} {va vb : Value} {k1 k2 t1 t2 : Int} {s1 s2 : ByteArray} {a b : List Int} (ha : WordSl w va a) (hb : WordSl w vb b) : Calls Try.prog 22 #[.agg #[.int .i64 k1, .int .i64 t1, va, .string s1], .agg #[.int .i64 k2, .int .i64 t2, vb, .string s2]] w fun e w' => e = .returned (.bool (decide (k1 = k2 ∧ t1 = t2 ∧ s1 = s2 ∧ a = b))) ∧ Ext w w' := by
  have HK := Lib.hid (fun W (e : Ext w W) => keep_words (ha.ext e) (hb.ext e))
  obtain ⟨qa, ca, rfl, la1, la2, -⟩ := ha
  obtain ⟨qb, cb, rfl, lb1, lb2, -⟩ := hb
  unfold maxLen at la2 lb2
  by_cases h1 : k1 = k2
  · subst h1
    by_cases h2 : t1 = t2
    · subst h2
      by_cases h3 : s1 = s2
      · subst h3
        have hr : decide (k1 = k1 ∧ t1 = t1 ∧ s1 = s1 ∧ a = b) = decide (a = b) := by simp
        rw [hr]
        clear hr
        go_enter Try.func22, Try.ntmps22
        go_wp2_with fail
        refine (HK.out _ ((Ext.alloc _ _).trans (Ext.alloc _ _))).mono ?_
        rintro e w1 ⟨rfl, hx⟩
        go_wp2
        go_ret
        exact ⟨rfl, ((Ext.alloc _ _).trans (Ext.alloc _ _)).trans hx⟩
      · have hr : decide (k1 = k1 ∧ t1 = t1 ∧ s1 = s2 ∧ a = b) = false := by simp [h3]
        rw [hr]
        clear hr
        have h3' : ¬ s1.toList = s2.toList := fun e => h3 (bytes_inj e)
        clear HK
        go_enter Try.func22, Try.ntmps22
        go_wp2
        go_ret
        exact ⟨rfl, (Ext.alloc _ _).trans (Ext.alloc _ _)⟩
    · have hr : decide (k1 = k1 ∧ t1 = t2 ∧ s1 = s2 ∧ a = b) = false := by simp [h2]
      rw [hr]
      clear hr
      have h2' : (t1 == t2) = false := beq_false_of_ne h2
      clear HK
      go_enter Try.func22, Try.ntmps22
      go_wp2
      go_ret
      exact ⟨rfl, (Ext.alloc _ _).trans (Ext.alloc _ _)⟩
  · have hr : decide (k1 = k2 ∧ t1 = t2 ∧ s1 = s2 ∧ a = b) = false := by simp [h1]
    rw [hr]
    clear hr
    have h1' : (k1 == k2) = false := beq_false_of_ne h1
    clear HK
    go_enter Try.func22, Try.ntmps22
    go_wp2
    go_ret
    exact ⟨rfl, (Ext.alloc _ _).trans (Ext.alloc _ _)⟩
end Go.Proofs.Ytlffmcadchbheaa
/- A region with given words: plain. -/
namespace Go.Proofs.Ytlffmcadchbheaa
open Go.RowKit Go.Maps Arena
def rigR (m : Nat) : List (Nat × Nat) := [(0, 3), (3, m)]
def rigW (l : List Int) (j : Nat) : List Int := List.replicate 3 0 ++ (l.take j ++ List.replicate (l.length - j + 7) 0)
theorem setMany_zero (N k : Nat) : ∀ o, setMany (List.replicate N 0) o (List.replicate k 0) = List.replicate N 0 := by
  induction k with
  | zero => intro o; rfl
  | succ k ih =>
    intro o
    rw [List.replicate_succ, setMany, List.set_replicate_self]
    exact ih _
theorem rig_scan {m : Nat} (h : 1 ≤ m) : scan m 0 [(0, 3)] = 3 := by
  simp only [scan]
  rw [if_neg (by omega)]
theorem rig_ins (m : Nat) : ins (3, m) [(0, 3)] = rigR m := by simp [ins, rigR]
theorem rig_len (m : Nat) : lenAt (rigR m) 3 = m := by simp [lenAt, rigR]
theorem rig_len0 (m : Nat) : lenAt (rigR m) 0 = 3 := by simp [lenAt, rigR]
theorem rig_within {m j : Nat} (h : j < m) : within (rigR m) 3 j = true := by
  unfold within
  rw [rig_len]
  simp [h]
theorem rigW_zero (l : List Int) : rigW l 0 = List.replicate (l.length + 10) 0 := by
  unfold rigW
  rw [List.take_zero, List.nil_append, List.replicate_append_replicate]
  congr 1
  omega
theorem rigW_step {l : List Int} {m j : Nat} (hj : j < l.length) (hm : l.length ≤ m) : setWs (rigW l j) (rigR m) 3 j l[j] = rigW l (j + 1) := by
  unfold setWs
  rw [if_pos (rig_within (by omega))]
  unfold rigW
  rw [show ((3 : Int) + (j : Int)).toNat = 3 + j by omega]
  rw [List.set_append_right _ _ (by simp), List.length_replicate, show 3 + j - 3 = j by omega]
  rw [List.set_append_right _ _ (by simp; omega), List.length_take, Nat.min_eq_left (by omega), Nat.sub_self]
  rw [show l.length - j + 7 = (l.length - (j + 1) + 7) + 1 by omega, @List.replicate_succ _ _ (l.length - (j + 1) + 7), List.set_cons_zero, List.take_succ_eq_append_getElem hj, List.append_assoc]
  rfl
theorem rigW_wordsAt (l : List Int) : wordsAt (rigW l l.length) (rigR (max 1 l.length)) 3 = if l = [] then [0] else l := by
  unfold wordsAt rigW
  rw [rig_len]
  cases l with
  | nil => rfl
  | cons a l => simp
theorem rigW_len (l : List Int) (j : Nat) (hj : j ≤ l.length) : (rigW l j).length = l.length + 10 := by
  unfold rigW
  simp
  omega
theorem w64_zero : W64 0 := by unfold W64; omega
theorem rigW_mem {l : List Int} (h : ∀ x ∈ l, W64 x) (j : Nat) : ∀ x ∈ rigW l j, W64 x := by
  intro x hx
  unfold rigW at hx
  rw [List.mem_append, List.mem_append] at hx
  rcases hx with h1 | h1 | h1
  · rw [(List.mem_replicate.1 h1).2]; exact w64_zero
  · exact h x (List.mem_of_mem_take h1)
  · rw [(List.mem_replicate.1 h1).2]; exact w64_zero
end Go.Proofs.Ytlffmcadchbheaa
/- stockpotrig.Lay: the walk. -/
namespace Go.Proofs.Ytlffmcadchbheaa
open Go.RowKit Go.Maps Arena
set_option maxHeartbeats 8000000
set_option maxRecDepth 100000
attribute [local go_sem ↓] Go.wp_at_zero Go.wp_at_succ
theorem new_at {w : World} {n : Nat} {x : Int} (hx : x = (n : Int)) (h1 : 1 ≤ n) (h2 : n ≤ 20000) : Calls Try.prog 33 #[.int .i64 x] w fun e w' =>
    ∃ p g bm, e = .returned (.tuple #[.pointer (some ⟨p, 0, none⟩), .bool true]) ∧ ArenaAt w' p g bm n (List.replicate n 0) [] ∧ Ext w w' ∧ w.heap.size ≤ p ∧ w.heap.size ≤ g ∧ w.heap.size ≤ bm := by subst hx; exact new_is h1 h2
theorem refnew_at {w : World} {n : Nat} {x : Int} (hx : x = (n : Int)) (h1 : 1 ≤ n) (h2 : n ≤ 20000) : Calls Try.prog 34 #[.int .i64 x] w fun e w' =>
    ∃ q gq, e = .returned (.pointer (some ⟨q, 0, none⟩)) ∧ RefAt w' q gq w'.heap.size n (List.replicate n 0) (.slice none 0 0) [] ∧ Ext w w' ∧ w.heap.size ≤ q ∧ w.heap.size ≤ gq := by subst hx; exact refnew_is h1 h2
theorem Both.base {w0 w1 w : World} {p g bm q gq B n : Nat} {ws : List Int} {R : List (Nat × Nat)} (h : Both w1 w p g bm q gq B n ws R) (e : Ext w0 w1) : Both w0 w p g bm q gq B n ws R := by
  have := Below.size e
  obtain ⟨g1, g2, g3⟩ := h.ge
  exact ⟨h.a, h.r, h.lt, ⟨by omega, by omega, by omega⟩, h.size, e.trans h.ext⟩
/-- the program's region is cut -/
theorem Both.cutA {w0 w : World} {p g bm q gq B n : Nat} {ws : List Int} {R R' : List (Nat × Nat)} {k a : Nat} (h : Both w0 w p g bm q gq B n ws R) (hk : 1 ≤ k) (hk2 : k ≤ 9223372036854775807) (hs : scan k 0 R = a) (hfit : a + k ≤ n) (hR : ins (a, k) R = R') (hz : setMany ws a (List.replicate k 0) = ws) :
    Calls Try.prog 35 #[.pointer (some ⟨p, 0, none⟩), .int .i64 k] w fun e w' => e = .returned (.tuple #[.int .i64 a, .bool true]) ∧ ArenaAt w' p g bm n ws R' ∧ Turn [g, bm] w w' := by
  have := cut_yes h.a hk hk2 hs hfit hR
  rw [hz] at this
  exact this
theorem refcut_yes {w : World} {q gq B n : Nat} {ws : List Int} {R R' : List (Nat × Nat)} {k a : Nat} (h : ∃ v, RefAt w q gq B n ws v R) (hB : B ≤ w.heap.size) (hk : 1 ≤ k) (hk2 : k ≤ 9223372036854775807) (hs : scan k 0 R = a) (hfit : a + k ≤ n) (hR : ins (a, k) R = R') (hz : setMany ws a (List.replicate k 0) = ws) :
    Calls Try.prog 36 #[.pointer (some ⟨q, 0, none⟩), .int .i64 k] w fun e w' => e = .returned (.int .i64 a) ∧ (∃ v, RefAt w' q gq B n ws v R') ∧ Turn [q, gq] w w' := by
  obtain ⟨v, hr⟩ := h
  refine (refcut_is hr hB hk hk2).mono ?_
  subst hs
  rintro e w' (⟨_, h1, h2, h3⟩ | ⟨h1, _⟩)
  · rw [hz, hR] at h2
    exact ⟨h1, h2, h3⟩
  · exact absurd hfit h1
/-- another block of what is new is written -/
theorem Both.other {w0 w w' : World} {p g bm q gq B n : Nat} {ws : List Int} {R : List (Nat × Nat)} (h : Both w0 w p g bm q gq B n ws R) {bs : List Nat} (t : Turn bs w w') (hb : ∀ b ∈ bs, w0.heap.size ≤ b ∧ b < p ∧ b < g ∧ b < bm) : Both w0 w' p g bm q gq B n ws R := by
  obtain ⟨l1, l2, l3, l4, l5, l6⟩ := h.lt
  obtain ⟨v, hr⟩ := h.r
  have hqB := hr.qB
  refine ⟨h.a.turn t (fun hm => ?_) (fun hm => ?_) (fun hm => ?_), ⟨v, hr.turn t (fun hm => ?_) (fun hm => ?_) (fun b hm => ?_)⟩, h.lt, h.ge, Nat.le_trans h.size t.size, Below.trans h.ext (t.below h.ext.size fun b hm => (hb b hm).1)⟩
  · have := hb _ hm; omega
  · have := hb _ hm; omega
  · have := hb _ hm; omega
  · have := hb _ hm; omega
  · have := hb _ hm; omega
  · have := hb _ hm; omega
theorem ztwo {w : World} {p g bm n N : Nat} {R R' : List (Nat × Nat)} {k a : Nat} (h : ArenaAt w p g bm n (List.replicate N 0) R) (hk : 1 ≤ k) (hk2 : k ≤ 9223372036854775807) (hs : scan k 0 R = a) (hfit : a + k ≤ n) (hR : ins (a, k) R = R') :
    Calls Try.prog 35 #[.pointer (some ⟨p, 0, none⟩), .int .i64 k] w fun e w' => e = .returned (.tuple #[.int .i64 a, .bool true]) ∧ ArenaAt w' p g bm n (List.replicate N 0) R' ∧ Turn [g, bm] w w' := by
  have := cut_yes h hk hk2 hs hfit hR
  rw [setMany_zero] at this
  exact this
theorem lay_words {w : World} {v : Value} {l : List Int} (hv : WordSl w v l) (hl : l.length ≤ 1000) : Calls Try.prog 11 #[v] w fun e w' => ∃ p g bm q gq B, e = .returned (.tuple #[.agg #[.pointer (some ⟨p, 0, none⟩), .pointer (some ⟨q, 0, none⟩)], .int .i64 3, .bool true]) ∧ Both w w' p g bm q gq B (l.length + 10) (rigW l l.length) (rigR (max 1 l.length)) := by
  obtain ⟨qv, cv, rfl, hd1, hd2, hcell⟩ := hv
  have HL := Lib.hid hcell
  unfold maxLen at hd2
  clear hcell
  obtain ⟨m, hm⟩ : ∃ m : Nat, m = max 1 l.length := ⟨_, rfl⟩
  have hmi : max (1 : Int) (l.length : Int) = (m : Int) := by omega
  have hm1 : 1 ≤ m := by omega
  have hm2 : l.length ≤ m := by omega
  have hm3 : m ≤ l.length + 1 := by omega
  rw [← hm]
  have HM := Lib.hid hm
  clear hm
  go_enter Try.func11, Try.ntmps11
  go_wp2_with fail
  refine at_alloc1 fun W hE hS b0 => ?_
  have HE := Lib.hid hE
  have hBW : w.heap.size < W.heap.size := by omega
  clear hE hS
  generalize hbk : w.heap.size = bk at b0 hBW ⊢
  have HBK := Lib.hid hbk
  clear hbk
  refine (new_at (n := l.length + 10) (by omega) (by omega) (by omega)).mono ?_; rintro e w1 ⟨p, g, bm, rfl, h1, hx1, hp, hg, hbm⟩
  have HX1 := Lib.hid hx1; have H1 := Lib.hid h1
  have hlt1 := h1.lt
  clear h1 hx1
  go_wp2_with fail
  refine (refnew_at (n := l.length + 10) (by omega) (by omega) (by omega)).mono ?_; rintro e w2 ⟨q, gq, rfl, h2, hx2, hq, hgq⟩
  have hsz2 := h2.qB
  have HB := Lib.hid (show Both W w2 p g bm q gq w2.heap.size (l.length + 10) (List.replicate (l.length + 10) 0) [] from ⟨H1.out.ext hx2, ⟨_, h2⟩, by omega, ⟨hp, hg, hbm⟩, Nat.le_refl _, HX1.out.trans hx2⟩)
  clear h2 hx2 hsz2 hlt1 HX1 H1
  generalize w2.heap.size = BB at *
  go_wp2_with fail
  refine (HB.out.cutA (k := 3) (a := 0) (R' := [(0, 3)]) (by omega) (by omega) rfl (by omega) rfl (setMany_zero _ _ _)).mono ?_; rintro e w3 ⟨rfl, hA3, hT3⟩
  have HA3 := Lib.hid hA3; have HT3 := Lib.hid hT3
  clear hA3 hT3
  go_wp2_with fail
  refine (ztwo HA3.out hm1 (by omega) (rig_scan hm1) (by omega) (rig_ins m)).mono ?_; rintro e w4 ⟨rfl, hA4, hT4⟩
  have HA4 := Lib.hid hA4; have HT4 := Lib.hid (HT3.out.trans hT4)
  have HR4 := Lib.hid (HB.out.turnA HT4.out (by simp))
  clear hA4 hT4 HA3 HT3
  go_wp2_with fail
  refine (refcut_yes (k := 3) (a := 0) (R' := [(0, 3)]) HR4.out.1 HR4.out.2.1 (by omega) (by omega) rfl (by omega) rfl (setMany_zero _ _ _)).mono ?_; rintro e w5 ⟨rfl, hR5, hT5⟩
  have HR5 := Lib.hid hR5; have HT5 := Lib.hid hT5
  have HB5 := Lib.hid (Nat.le_trans HR4.out.2.1 hT5.size)
  clear hR5 hT5
  go_wp2_with fail
  refine (refcut_yes (k := m) (a := 3) (R' := rigR m) HR5.out HB5.out hm1 (by omega) (rig_scan hm1) (by omega) (rig_ins m) (setMany_zero _ _ _)).mono ?_; rintro e w6 ⟨rfl, hR6, hT6⟩
  have HC := Lib.hid (show Both W w6 p g bm q gq BB (l.length + 10) (rigW l 0) (rigR m) by
    rw [rigW_zero]
    exact HB.out.mk1 HA4.out HT4.out (by simp) hR6 (HT5.out.trans hT6) (by simp))
  clear hR6 hT6 HR5 HT5 HB5 HR4 HA4 HT4 HB
  go_wp2_with fail
  go_loopw [14] (fun i wr => ∃ j : Nat, j ≤ l.length ∧ i = .int .i64 j ∧ Both W wr p g bm q gq BB (l.length + 10) (rigW l j) (rigR m)) (fun i _ => l.length - (intOf i).toNat)
  case atStart => exact ⟨0, by omega, rfl, HC.out⟩
  case round =>
    obtain ⟨j, hj, rfl, hB⟩ := hrel
    have HD := Lib.hid hB
    clear hB HC
    by_cases hlt : j < l.length
    · obtain ⟨b1, o1, rfl, p0⟩ := HL.out j l[j] (List.getElem?_eq_getElem hlt)
      have P0 := HD.out.ext.cell (HE.out.cell p0)
      have hS1 := rigW_step hlt hm2
      have HS1 := Lib.hid hS1
      clear hS1
      generalize l[j] = x at *
      have i1 : (j : Int) < (l.length : Int) := by omega
      have hw3 : (Lit.int .i64 3).wf = true := by decide
      have HWi := Lib.hid (rig_within (show j < m by omega))
      go_wp2_with fail
      refine (setA_said (x := 3) (a := (j : Int)) (v := x) HD.out.a hw3).mono ?_; rintro e w7 ⟨rfl, hA7, hT7⟩
      rw [HWi.out]
      rw [HS1.out] at hA7
      have HA7 := Lib.hid hA7; have HT7 := Lib.hid hT7
      have HR7 := Lib.hid (HD.out.turnA hT7 (by simp))
      have P1 := HR7.out.2.2.cell (HE.out.cell p0)
      clear hA7 hT7
      go_wp2_with fail
      obtain ⟨vR, hr7⟩ := HR7.out.1
      refine (setR_said (x := 3) (a := (j : Int)) (v := x) hr7).mono ?_; rintro e w8 ⟨rfl, hR8, hT8⟩
      rw [HS1.out] at hR8
      have HB8 := Lib.hid (HD.out.mk1 HA7.out HT7.out (by simp) ⟨vR, hR8⟩ hT8 (by simp))
      clear hr7 hR8 hT8
      go_wp2_with fail
      exact ⟨⟨j + 1, by omega, by go_num, HB8.out⟩, by simp [intOf]; omega⟩
    · obtain rfl : j = l.length := by omega
      have hrow : wr.heap[bk]? = some (Obj.cells #[Value.pointer none, Value.pointer none] 36 (0, 0)) := by rw [Below.block HD.out.ext bk hBW]; exact b0
      have c0 : wr.cell? ⟨bk, 0, none⟩ = some (.pointer none) := by simp [World.cell?, hrow]
      have c1 : wr.cell? ⟨bk, 1, none⟩ = some (.pointer none) := by simp [World.cell?, hrow]
      have f0 : wr.frozen? ⟨bk, 0, none⟩ = false := by simp [World.frozen?, hrow]
      have f1 : wr.frozen? ⟨bk, 1, none⟩ = false := by simp [World.frozen?, hrow]
      clear b0
      go_wp2_with fail
      have g0 : ((wr.setCell ⟨bk, 0, none⟩ (.pointer (some ⟨p, 0, none⟩))).setCell ⟨bk, 1, none⟩ (.pointer (some ⟨q, 0, none⟩))).heap[bk]? = some (Obj.cells #[.pointer (some ⟨p, 0, none⟩), .pointer (some ⟨q, 0, none⟩)] 36 (0, 0)) := by
        simp [World.setCell, Array.getElem?_modify, hrow]
      have e0 := (show ((wr.setCell ⟨bk, 0, none⟩ (.pointer (some ⟨p, 0, none⟩))).setCell ⟨bk, 1, none⟩ (.pointer (some ⟨q, 0, none⟩))).cell? ⟨bk, 0, none⟩ = some (.pointer (some ⟨p, 0, none⟩)) by simp [World.cell?, g0])
      have e1 := (show ((wr.setCell ⟨bk, 0, none⟩ (.pointer (some ⟨p, 0, none⟩))).setCell ⟨bk, 1, none⟩ (.pointer (some ⟨q, 0, none⟩))).cell? ⟨bk, 1, none⟩ = some (.pointer (some ⟨q, 0, none⟩)) by simp [World.cell?, g0])
      have ht : Turn [bk] wr ((wr.setCell ⟨bk, 0, none⟩ (.pointer (some ⟨p, 0, none⟩))).setCell ⟨bk, 1, none⟩ (.pointer (some ⟨q, 0, none⟩))) := ((Turn.refl _ _).setCell (.inl (by simp)) _).setCell (.inl (by simp)) _
      have HT := Lib.hid ht
      generalize (wr.setCell ⟨bk, 0, none⟩ (.pointer (some ⟨p, 0, none⟩))).setCell ⟨bk, 1, none⟩ (.pointer (some ⟨q, 0, none⟩)) = wz at *
      clear ht g0 hrow
      have hfin : Both w wz p g bm q gq BB (l.length + 10) (rigW l l.length) (rigR m) := (HD.out.base HE.out).other HT.out (by intro b hb; simp at hb; subst hb; exact ⟨Nat.le_of_eq HBK.out, by omega, by omega, by omega⟩)
      refine bodyPost_ret (v := .tuple #[.agg #[.pointer (some ⟨p, 0, none⟩), .pointer (some ⟨q, 0, none⟩)], .int .i64 3, .bool true]) (by simp [results, Try.results11, go_sem, e0, e1]) rfl ⟨p, g, bm, q, gq, BB, rfl, hfin⟩
end Go.Proofs.Ytlffmcadchbheaa
/- (stockpotrig.Two).Same: the walk. -/
namespace Go.Proofs.Ytlffmcadchbheaa
open Go.RowKit Go.Maps Arena
set_option maxHeartbeats 8000000
set_option maxRecDepth 100000
attribute [local go_sem ↓] Go.wp_at_zero Go.wp_at_succ
theorem rig_free {m : Nat} (h : 1 ≤ m) : freeB (rigR m) 3 = true := by unfold freeB; rw [rig_len]; simp; omega
theorem rig_free0 (m : Nat) : freeB (rigR m) 0 = true := by unfold freeB; rw [rig_len0]; rfl
theorem same_yes {w0 w : World} {p g bm q gq B n m : Nat} {ws : List Int} (h : Both w0 w p g bm q gq B n ws (rigR m)) (hm : 1 ≤ m) (hz : ws.take 3 = [0, 0, 0]) : Calls Try.prog 25 #[.agg #[.pointer (some ⟨p, 0, none⟩), .pointer (some ⟨q, 0, none⟩)], .int .i64 3] w fun e w' => e = .returned (.bool true) ∧ Ext w w' := by
  have H := Lib.hid h
  have HZ := Lib.hid hz
  have HF := Lib.hid (rig_free hm)
  clear h hz
  go_enter Try.func25, Try.ntmps25
  go_wp2_with fail
  refine at_alloc1 fun W hE hS b0 => ?_
  have HE := Lib.hid hE
  generalize w.heap.size = bk at *
  have c0 : W.cell? ⟨bk, 0, none⟩ = some (.pointer (some ⟨p, 0, none⟩)) := by simp [World.cell?, b0]
  have c1 : W.cell? ⟨bk, 1, none⟩ = some (.pointer (some ⟨q, 0, none⟩)) := by simp [World.cell?, b0]
  have H1 := Lib.hid (H.out.step hE)
  clear hE hS b0 H
  refine (wordsA_said (x := 3) H1.out.a (by decide)).mono ?_; rintro e w1 ⟨v1, rfl, hv1, hx1⟩
  rw [HF.out]
  have HV1 := Lib.hid hv1; have HX1 := Lib.hid hx1
  have C0 := hx1.cell c0; have C1 := hx1.cell c1
  clear hv1 hx1 c0 c1
  go_wp2_with fail
  refine (wordsA_said (x := 0) (H1.out.a.ext HX1.out) (by decide)).mono ?_; rintro e w2 ⟨v2, rfl, hv2, hx2⟩
  rw [rig_free0]
  have hwz : wordsAt ws (rigR m) 0 = [0, 0, 0] := by unfold wordsAt; rw [rig_len0]; simpa using HZ.out
  rw [hwz] at hv2
  clear hwz
  have HV2 := Lib.hid hv2; have HX2 := Lib.hid (HX1.out.trans hx2)
  have HV1' := Lib.hid (HV1.out.ext hx2)
  have D0 := hx2.cell C0; have D1 := hx2.cell C1
  clear hv2 hx2 C0 C1 HX1 HV1
  go_wp2_with fail
  obtain ⟨vR, hr⟩ := (H1.out.step HX2.out).r
  refine (wordsR_said (x := 3) hr).mono ?_; rintro e w3 ⟨v3, rfl, hv3, rfl⟩
  have HV3 := Lib.hid hv3
  clear hv3 hr
  go_wp2_with fail
  refine (keep_words HV1'.out HV3.out).mono ?_; rintro e w4 ⟨rfl, hx4⟩
  rw [show decide (wordsAt ws (rigR m) 3 = wordsAt ws (rigR m) 3) = true from decide_eq_true rfl]
  have HX4 := Lib.hid hx4
  clear hx4
  go_wp2_with fail
  refine (keep_words ((HV2.out.ext HX4.out).ext (Ext.alloc _ _)) (word_lit _ [0, 0, 0] (by simp) _)).mono ?_; rintro e w5 ⟨rfl, hx5⟩
  rw [show decide (([0, 0, 0] : List Int) = [0, 0, 0]) = true from rfl]
  have HX5 := Lib.hid ((((HE.out.trans HX2.out).trans HX4.out).trans (Ext.alloc _ _)).trans hx5)
  clear hx5
  go_wp2_with fail
  go_ret
  exact ⟨rfl, HX5.out⟩
theorem large_is {w : World} {v : Value} {l : List Int} {a b c d : Int} (hv : WordSl w v l) : Calls Try.prog 8 #[.agg #[v, .agg #[.int .i64 a, .int .i64 b, .int .i64 c, .int .i64 d]]] w fun e w' => e = .returned (.bool (decide (400 < l.length))) ∧ Ext w w' := by
  obtain ⟨qv, cv, rfl, hd1, hd2, hcell⟩ := hv
  unfold maxLen at hd2
  clear hcell
  by_cases h : 400 < l.length
  · rw [decide_eq_true h]
    have i1 : (400 : Int) < (l.length : Int) := by omega
    clear h
    go_enter Try.func8, Try.ntmps8
    go_wp2_with fail
    go_ret
    exact ⟨rfl, Ext.alloc _ _⟩
  · rw [decide_eq_false h]
    have i1 : ¬ (400 : Int) < (l.length : Int) := by omega
    clear h
    go_enter Try.func8, Try.ntmps8
    go_wp2_with fail
    go_ret
    exact ⟨rfl, Ext.alloc _ _⟩
end Go.Proofs.Ytlffmcadchbheaa
/- keep.OwnWords. -/
namespace Go.Proofs.Ytlffmcadchbheaa
open Go.RowKit Go.Maps Arena
set_option maxHeartbeats 8000000
set_option maxRecDepth 100000
theorem own_empty1 (W : World) (T : TypeId) : OwnP (W.alloc (.cells #[] T)) W.heap.size T (.slice (some ⟨W.heap.size, 0, none⟩) 0 0) 1 [] :=
  OwnP.of_form (l := []) (cap := 0) (cur := #[]) (Rows1.nil 1) (Nat.le_refl _) (heap_alloc_new _ _) (Nat.le_refl _) (Nat.zero_le _) rfl rfl
theorem own_words {w : World} {v : Value} {l : List Int} (h : RowsP w v 1 (l.map wordC)) (hl : l.length ≤ 6000) : Calls Try.prog 39 #[v] w fun e w' => ∃ v', e = .returned v' ∧ OwnP w' w.heap.size 29 v' 1 (l.map wordC) ∧ Ext w w' := by
  have HV := Lib.hid h
  obtain ⟨q, c, rfl, h1, h2, hc⟩ := RowsP.at h
  rw [List.length_map] at h1 HV ⊢
  clear h hc
  go_enter Try.func39, Try.ntmps39
  go_wp2_with (refine wpList_append_rows E64 (by rfl) _ _ (by rfl) w.heap.size (.slice (some ⟨w.heap.size, 0, none⟩) 0 0) (.slice q l.length c) [] (l.map wordC) (by rfl) (own_empty1 w _) (by rfl) (RowsP.ext HV.out (Ext.alloc _ _)) (by simp; unfold maxLen; omega) (by simp; omega) (by simp) ?_)
  intro v2 w2 ho2 hg2 hb2 _
  have hx2 : Ext w w2 := Below.grown (Below.alloc (Ext.refl w) (by omega) _) hg2 (by simp) (fun b hb => by simp [Value.ownBlock] at hb; omega)
  have HO2 := Lib.hid ho2
  have HX2 := Lib.hid hx2
  clear ho2 hg2 hb2 hx2
  go_wp2
  go_ret
  exact ⟨v2, rfl, HO2.out, HX2.out⟩
end Go.Proofs.Ytlffmcadchbheaa
/- keep.OwnObject. -/
namespace Go.Proofs.Ytlffmcadchbheaa
open Go.RowKit Go.Maps Arena
set_option maxHeartbeats 8000000
set_option maxRecDepth 100000
theorem own_object {w : World} {kd tg : Int} {v : Value} {s : ByteArray} {l : List Int} (h : RowsP w v 1 (l.map wordC)) (hl : l.length ≤ 6000) : Calls Try.prog 12 #[.agg #[.int .i64 kd, .int .i64 tg, v, .string s]] w fun e w' => ∃ v', e = .returned (.agg #[.int .i64 kd, .int .i64 tg, v', .string s]) ∧ OwnP w' w.heap.size 29 v' 1 (l.map wordC) ∧ Ext w w' := by
  have HV := Lib.hid h
  obtain ⟨q, c, rfl, h1, h2, -⟩ := RowsP.at h
  rw [List.length_map] at h1 HV ⊢
  clear h
  go_enter Try.func12, Try.ntmps12
  go_wp2_with fail
  refine at_alloc2 fun W hE hS b0 b1 => ?_
  have HE := Lib.hid hE
  have HB0 := Lib.hid b0; have HB1 := Lib.hid b1
  refine (own_words (HV.out.ext hE) hl).mono ?_; rintro e w1 ⟨v', rfl, ho, hx1⟩
  obtain ⟨qn, cn, rfl, h3, h4⟩ := ho.len
  rw [List.length_map] at h3 ho ⊢
  have HO := Lib.hid ho
  have hs0 : w.heap.size < W.heap.size := by omega
  have hs1 : w.heap.size + 1 < W.heap.size := by omega
  have r0 := Below.block hx1 _ hs0; rw [b0] at r0
  have r1 := Below.block hx1 _ hs1; rw [b1] at r1
  have c2 := (show w1.cell? ⟨w.heap.size, 2, none⟩ = some (.slice q l.length c) by simp [World.cell?, r0])
  have f2 := (show w1.frozen? ⟨w.heap.size, 2, none⟩ = false by simp [World.frozen?, r0])
  have c0 := (show w1.cell? ⟨w.heap.size, 0, none⟩ = some (.int .i64 kd) by simp [World.cell?, r0])
  have c1 := (show w1.cell? ⟨w.heap.size, 1, none⟩ = some (.int .i64 tg) by simp [World.cell?, r0])
  have c3 := (show w1.cell? ⟨w.heap.size, 3, none⟩ = some (.string s) by simp [World.cell?, r0])
  have g0 := (show w1.cell? ⟨w.heap.size + 1, 0, none⟩ = some (.int .i64 0) by simp [World.cell?, r1])
  have g1 := (show w1.cell? ⟨w.heap.size + 1, 1, none⟩ = some (.int .i64 0) by simp [World.cell?, r1])
  have g2 := (show w1.cell? ⟨w.heap.size + 1, 2, none⟩ = some (.slice none 0 0) by simp [World.cell?, r1])
  have g3 := (show w1.cell? ⟨w.heap.size + 1, 3, none⟩ = some (.string ⟨#[]⟩) by simp [World.cell?, r1])
  have k0 := (show w1.frozen? ⟨w.heap.size + 1, 0, none⟩ = false by simp [World.frozen?, r1])
  have k1 := (show w1.frozen? ⟨w.heap.size + 1, 1, none⟩ = false by simp [World.frozen?, r1])
  have k2 := (show w1.frozen? ⟨w.heap.size + 1, 2, none⟩ = false by simp [World.frozen?, r1])
  have k3 := (show w1.frozen? ⟨w.heap.size + 1, 3, none⟩ = false by simp [World.frozen?, r1])
  clear b0 b1 HB0 HB1 hE hS ho
  go_wp2_with fail
  have r2 : (w1.setCell ⟨w.heap.size, 2, none⟩ (.slice qn l.length cn)).heap[w.heap.size + 1]? = some (Obj.cells #[.int .i64 0, .int .i64 0, .slice none 0 0, .string ⟨#[]⟩] 28 (0, 0)) := by rw [Below.heap_setCell _ _ _ _ (by simp)]; exact r1
  refine post_fill4 r2 (fun W4 hr4 ht4 hz4 => ?_)
  have y0 := (show W4.cell? ⟨w.heap.size + 1, 0, none⟩ = some (.int .i64 kd) by simp [World.cell?, hr4])
  have y1 := (show W4.cell? ⟨w.heap.size + 1, 1, none⟩ = some (.int .i64 tg) by simp [World.cell?, hr4])
  have y2 := (show W4.cell? ⟨w.heap.size + 1, 2, none⟩ = some (.slice qn l.length cn) by simp [World.cell?, hr4])
  have y3 := (show W4.cell? ⟨w.heap.size + 1, 3, none⟩ = some (.string s) by simp [World.cell?, hr4])
  have t1 : Turn [w.heap.size, w.heap.size + 1] w1 W4 := Turn.trans ((Turn.refl _ _).setCell (.inl (by simp)) _) (ht4.mono (by simp))
  refine bodyPost_ret (v := .agg #[.int .i64 kd, .int .i64 tg, .slice qn l.length cn, .string s]) (by simp [results, Try.results12, go_sem, y0, y1, y2, y3]) rfl ⟨_, rfl, ?_, ?_⟩
  · refine OwnP.mono (HO.out.turn t1 (fun b hb => ?_)) (by omega)
    have := (HO.out.own b hb).1
    simp only [List.mem_cons, List.not_mem_nil, or_false]
    omega
  · exact Turn.after (HE.out.trans hx1) t1 (by intro b hb; simp at hb; omega)
end Go.Proofs.Ytlffmcadchbheaa
/- What wakes of package object does, in plain Lean. -/
namespace Go.Proofs.Ytlffmcadchbheaa
open Go.RowKit Go.Maps Arena
set_option maxRecDepth 100000
def wk0 : List Int := rigW (List.replicate 40 0) 40
def wkS : Ob := ⟨2, 0, [], ⟨#[97, 98, 99, 100, 101, 102, 103, 104, 105]⟩⟩
def wkB : Ob := ⟨1, 1, [0, 3], ⟨#[]⟩⟩
def wkN : Ob := ⟨1, 0, [2], ⟨#[]⟩⟩
def wkH : Hp := ⟨3, 20, 0, 0⟩
theorem wk_put1 : putB wk0 (rigR 40) wkH wkS = true := by first | rfl | decide | kernel_rfl
def wk1 : List Int := putWs wk0 (rigR 40) wkH wkS
def wkH1 : Hp := hpUp wkH wkS
theorem wk_put2 : putB wk1 (rigR 40) wkH1 wkB = true := by first | rfl | decide | kernel_rfl
def wk2 : List Int := putWs wk1 (rigR 40) wkH1 wkB
def wkH2 : Hp := hpUp wkH1 wkB
theorem wk_put3 : putB wk2 (rigR 40) wkH2 wkN = false := by first | rfl | decide | kernel_rfl
theorem wk_top1 : topN wkH = 0 := by first | rfl | decide
theorem wk_top2 : 2 * topN wkH1 = 6 := by first | rfl | decide
theorem wk_H2 : wkH2 = ⟨3, 20, 0, 6⟩ := by first | rfl | decide
theorem wk_all : allH wk2 (rigR 40) wkH2 = some [(0, wkS), (3, wkB)] := by first | rfl | kernel_rfl
theorem wk_get : getH wk2 (rigR 40) wkH2 6 = some (3, wkB) := by unfold getH; rw [wk_all]; first | rfl | kernel_rfl
theorem wk_set : (setAt wk2 (rigR 40) wkH2 6 1 6).isSome = true := by unfold setAt; rw [wk_all]; first | rfl | kernel_rfl
def wk3 : List Int := wsOf wk2 (rigR 40) wkH2.base (setAt wk2 (rigR 40) wkH2 6 1 6) 6
theorem wk_all3 : (allH wk3 (rigR 40) wkH2).map (fun L => L.map fun y => y.1) = some [0, 3] := by first | rfl | kernel_rfl
end Go.Proofs.Ytlffmcadchbheaa
