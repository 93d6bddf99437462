/- Proved here: the contracts and laws of FrmC, FrmD, FrmE, Blk, FrmF, Sli, Wd2, Wd, FrmShelf, Fill, FrmG, Last of this claim, each beneath its own remark; conditions: those that each theorem names. -/
import Derived.Test.YtgiopklnielglaaDoorM1
import Derived.Test.YtgiopklnielglaaDoorProg
import Derived.Maps.AppendAt
import Derived.Laws.OwnMore
import Derived.Laws.CopyOwn
import Derived.Deep.OwnRows
import Derived.Lib.SliceRun
import Derived.Deep.RegionHeld3
import Derived.Deep.DrawnRows
import Derived.Deep.QuietTactic
import Derived.BigQuiet
import Derived.Shelf.SlicesE.Clone
import Derived.Ground.SlgnProg
import Derived.WalkKit
import Derived.StillTail
/- The walks of what code.Good asks of the one program of wakes. -/
namespace Go.Proofs.YtgiopklnielglaaDoor
open Go.RowKit
set_option maxHeartbeats 4000000
set_option maxRecDepth 100000
theorem between_is (v a b : Int) (w : World) : Calls Tryd.prog 42 #[.int .i64 v, .int .i64 a, .int .i64 b] w fun e w' => e = .returned (.bool (decide (a ≤ v) && decide (v ≤ b))) ∧ w = w' := by
  by_cases h : a ≤ v
  · have h1 : decide (a ≤ v) = true := decide_eq_true h
    go_enter Tryd.func42, Tryd.ntmps42
    go_wp2
    go_ret
    exact ⟨by rw [h1]; rfl, rfl⟩
  · have h1 : decide (a ≤ v) = false := decide_eq_false h
    go_enter Tryd.func42, Tryd.ntmps42
    go_wp2
    go_ret
    exact ⟨rfl, rfl⟩
theorem in_is (v a b : Int) (w : World) (ha : a ≤ v) (hb : v ≤ b) : Calls Tryd.prog 67 #[.agg #[.int .i64 a, .int .i64 b], .int .i64 v] w fun e w' => e = .returned (.bool true) ∧ Ext w w' := by
  go_enter Tryd.func67, Tryd.ntmps67
  go_wp2
  go_ret
  exact ⟨rfl, Ext.alloc _ _⟩
theorem good_int (w : World) (hk : FrmLie w) : Calls Tryd.prog 56 #[.agg #[.int .i64 0, .int .i64 1, .int .i64 0]] w (TrueExt w) := by
  have r0 := hk.1 0 _ rfl; have r1 := hk.1 1 _ rfl; have r2 := hk.1 2 _ rfl; have r3 := hk.1 3 _ rfl; have r4 := hk.1 4 _ rfl; have r5 := hk.1 5 _ rfl; have r6 := hk.1 6 _ rfl
  simp only [Nat.zero_mul, Nat.zero_add] at r0 r1 r2 r3 r4 r5 r6
  have e := Ext.alloc w (.cells #[.int .i64 0, .int .i64 1, .int .i64 0] 67)
  replace r0 := e.cell r0; replace r1 := e.cell r1; replace r2 := e.cell r2; replace r3 := e.cell r3; replace r4 := e.cell r4; replace r5 := e.cell r5; replace r6 := e.cell r6
  go_enter Tryd.func56, Tryd.ntmps56
  go_wp2_with fail
  have bi := heap_alloc_new w (.cells #[.int .i64 0, .int .i64 1, .int .i64 0] 67)
  have br := heap_alloc_new (w.alloc (.cells #[.int .i64 0, .int .i64 1, .int .i64 0] 67)) (.cells #[.string ⟨#[105, 110, 116]⟩, .int .i64 (-4611686018427387904), .int .i64 4611686018427387903, .int .i64 0, .int .i64 0, .int .i64 0, .int .i64 1] 127)
  have e2 := Ext.alloc (w.alloc (.cells #[.int .i64 0, .int .i64 1, .int .i64 0] 67)) (.cells #[.string ⟨#[105, 110, 116]⟩, .int .i64 (-4611686018427387904), .int .i64 4611686018427387903, .int .i64 0, .int .i64 0, .int .i64 0, .int .i64 1] 127)
  rw [show (w.alloc (.cells #[.int .i64 0, .int .i64 1, .int .i64 0] 67)).heap.size = w.heap.size + 1 by simp] at br
  generalize (w.alloc (.cells #[.int .i64 0, .int .i64 1, .int .i64 0] 67)).alloc (.cells #[.string ⟨#[105, 110, 116]⟩, .int .i64 (-4611686018427387904), .int .i64 4611686018427387903, .int .i64 0, .int .i64 0, .int .i64 0, .int .i64 1] 127) = W at *
  have i2 : W.cell? ⟨w.heap.size, 2, none⟩ = some (.int .i64 0) := e2.cell (by simp only [World.cell?, bi]; rfl)
  have c3 : W.cell? ⟨w.heap.size + 1, 3, none⟩ = some (.int .i64 0) := by simp [World.cell?, br]
  have c4 : W.cell? ⟨w.heap.size + 1, 4, none⟩ = some (.int .i64 0) := by simp [World.cell?, br]
  refine (in_is _ _ _ _ (by decide) (by decide)).mono ?_; rintro e' w1 ⟨rfl, hx1⟩
  replace i2 := hx1.cell i2; replace c3 := hx1.cell c3; replace c4 := hx1.cell c4
  have HX := Lib.hid (e.trans (e2.trans hx1))
  clear bi br e2 hx1 e r0 r1 r2 r3 r4 r5 r6
  go_wp2_with fail
  refine (in_is _ _ _ _ (by decide) (by decide)).mono ?_; rintro e' w2 ⟨rfl, hx2⟩
  go_wp2
  go_ret
  exact ⟨rfl, HX.out.trans hx2⟩
theorem good_ret (w : World) (hk : FrmLie w) : Calls Tryd.prog 56 #[.agg #[.int .i64 9, .int .i64 0, .int .i64 0]] w (TrueExt w) := by
  have r0 := hk.2.1 0 _ rfl; have r1 := hk.2.1 1 _ rfl; have r2 := hk.2.1 2 _ rfl; have r3 := hk.2.1 3 _ rfl; have r4 := hk.2.1 4 _ rfl; have r5 := hk.2.1 5 _ rfl; have r6 := hk.2.1 6 _ rfl
  simp only [Nat.reduceMul, Nat.reduceAdd] at r0 r1 r2 r3 r4 r5 r6
  have e := Ext.alloc w (.cells #[.int .i64 9, .int .i64 0, .int .i64 0] 67)
  replace r0 := e.cell r0; replace r1 := e.cell r1; replace r2 := e.cell r2; replace r3 := e.cell r3; replace r4 := e.cell r4; replace r5 := e.cell r5; replace r6 := e.cell r6
  go_enter Tryd.func56, Tryd.ntmps56
  go_wp2_with fail
  have bi := heap_alloc_new w (.cells #[.int .i64 9, .int .i64 0, .int .i64 0] 67)
  have br := heap_alloc_new (w.alloc (.cells #[.int .i64 9, .int .i64 0, .int .i64 0] 67)) (.cells #[.string ⟨#[114, 101, 116]⟩, .int .i64 (0), .int .i64 0, .int .i64 0, .int .i64 0, .int .i64 1, .int .i64 0] 127)
  have e2 := Ext.alloc (w.alloc (.cells #[.int .i64 9, .int .i64 0, .int .i64 0] 67)) (.cells #[.string ⟨#[114, 101, 116]⟩, .int .i64 (0), .int .i64 0, .int .i64 0, .int .i64 0, .int .i64 1, .int .i64 0] 127)
  rw [show (w.alloc (.cells #[.int .i64 9, .int .i64 0, .int .i64 0] 67)).heap.size = w.heap.size + 1 by simp] at br
  generalize (w.alloc (.cells #[.int .i64 9, .int .i64 0, .int .i64 0] 67)).alloc (.cells #[.string ⟨#[114, 101, 116]⟩, .int .i64 (0), .int .i64 0, .int .i64 0, .int .i64 0, .int .i64 1, .int .i64 0] 127) = W at *
  have i2 : W.cell? ⟨w.heap.size, 2, none⟩ = some (.int .i64 0) := e2.cell (by simp only [World.cell?, bi]; rfl)
  have c3 : W.cell? ⟨w.heap.size + 1, 3, none⟩ = some (.int .i64 0) := by simp [World.cell?, br]
  have c4 : W.cell? ⟨w.heap.size + 1, 4, none⟩ = some (.int .i64 0) := by simp [World.cell?, br]
  refine (in_is _ _ _ _ (by decide) (by decide)).mono ?_; rintro e' w1 ⟨rfl, hx1⟩
  replace i2 := hx1.cell i2; replace c3 := hx1.cell c3; replace c4 := hx1.cell c4
  have HX := Lib.hid (e.trans (e2.trans hx1))
  clear bi br e2 hx1 e r0 r1 r2 r3 r4 r5 r6
  go_wp2_with fail
  refine (in_is _ _ _ _ (by decide) (by decide)).mono ?_; rintro e' w2 ⟨rfl, hx2⟩
  go_wp2
  go_ret
  exact ⟨rfl, HX.out.trans hx2⟩
end Go.Proofs.YtgiopklnielglaaDoor
/- The walk of code.Good at the one program of wakes. -/
namespace Go.Proofs.YtgiopklnielglaaDoor
open Go.RowKit
set_option maxHeartbeats 4000000
set_option maxRecDepth 100000
theorem between_yes (v a b : Int) (w : World) (h1 : a ≤ v) (h2 : v ≤ b) : Calls Tryd.prog 42 #[.int .i64 v, .int .i64 a, .int .i64 b] w fun e w' => e = .returned (.bool true) ∧ w = w' :=
  (between_is v a b w).mono fun _ _ ⟨he, hw⟩ => ⟨by rw [he, decide_eq_true h1, decide_eq_true h2]; rfl, hw⟩
/-- the two instructions of wakes' program, as they lie -/
def TwoIns (w : World) (b : Nat) : Prop := ∀ (j : Nat) (u : Value), ([.int .i64 0, .int .i64 1, .int .i64 0, .int .i64 9, .int .i64 0, .int .i64 0] : List Value)[j]? = some u → w.cell? ⟨b, j, none⟩ = some u
theorem TwoIns.ext {w w' : World} {b : Nat} (h : TwoIns w b) (e : Ext w w') : TwoIns w' b := fun j u hu => e.cell (h j u hu)
theorem wfunction_is {w : World} {b : Nat} (hk : FrmLie w) (hb : TwoIns w b) : Calls Tryd.prog 43 #[.agg #[.int .i64 0, .int .i64 0, .slice (some ⟨b, 0, none⟩) 2 2], .bool true] w (TrueExt w) := by
  have HK := Lib.hid hk
  have HB := Lib.hid hb
  clear hk hb
  go_enter Tryd.func43, Tryd.ntmps43
  go_wp2_with fail
  have bf := heap_alloc_new w (.cells #[.int .i64 0, .int .i64 0, .slice (some ⟨b, 0, none⟩) 2 2] 61)
  have HE := Lib.hid (Ext.alloc w (.cells #[.int .i64 0, .int .i64 0, .slice (some ⟨b, 0, none⟩) 2 2] 61))
  generalize w.alloc (.cells #[.int .i64 0, .int .i64 0, .slice (some ⟨b, 0, none⟩) 2 2] 61) = W at *
  have f0 : W.cell? ⟨w.heap.size, 0, none⟩ = some (.int .i64 0) := by simp [World.cell?, bf]
  have f1 : W.cell? ⟨w.heap.size, 1, none⟩ = some (.int .i64 0) := by simp [World.cell?, bf]
  have f2 : W.cell? ⟨w.heap.size, 2, none⟩ = some (.slice (some ⟨b, 0, none⟩) 2 2) := by simp [World.cell?, bf]
  clear bf
  generalize w.heap.size = fb at *
  go_loopw [13] (fun i wr => ∃ j : Nat, j ≤ 2 ∧ i = .int .i64 j ∧ Ext W wr) (fun i _ => 2 - (Go.RowKit.intOf i).toNat)
  case atStart => exact ⟨0, by omega, rfl, Ext.refl _⟩
  case round =>
    obtain ⟨j, hj, rfl, hx⟩ := hrel
    replace f0 := hx.cell f0; replace f1 := hx.cell f1; replace f2 := hx.cell f2
    have HX := Lib.hid hx
    clear hx
    match j, hj with
    | 0, _ =>
      have i0 := HB.out 0 _ rfl; have i1 := HB.out 1 _ rfl; have i2 := HB.out 2 _ rfl
      replace i0 := (HE.out.trans HX.out).cell i0; replace i1 := (HE.out.trans HX.out).cell i1; replace i2 := (HE.out.trans HX.out).cell i2
      go_wp2_with fail
      refine (good_int _ (HK.out.ext (HE.out.trans (HX.out.trans (Ext.alloc _ _))))).mono ?_; rintro e w2 ⟨rfl, hx2⟩
      have HX2 := Lib.hid (HX.out.trans ((Ext.alloc _ _).trans hx2))
      clear hx2
      go_wp2_with fail
      exact ⟨⟨1, by omega, by go_num, HX2.out⟩, by simp [Go.RowKit.intOf]⟩
    | 1, _ =>
      have i0 := HB.out 3 _ rfl; have i1 := HB.out 4 _ rfl; have i2 := HB.out 5 _ rfl
      replace i0 := (HE.out.trans HX.out).cell i0; replace i1 := (HE.out.trans HX.out).cell i1; replace i2 := (HE.out.trans HX.out).cell i2
      go_wp2_with fail
      refine (good_ret _ (HK.out.ext (HE.out.trans (HX.out.trans (Ext.alloc _ _))))).mono ?_; rintro e w2 ⟨rfl, hx2⟩
      have HX2 := Lib.hid (HX.out.trans ((Ext.alloc _ _).trans hx2))
      clear hx2
      go_wp2_with fail
      exact ⟨⟨2, by omega, by go_num, HX2.out⟩, by simp [Go.RowKit.intOf]⟩
    | 2, _ =>
      have HW := Lib.hid (HE.out.trans HX.out)
      go_wp2_with fail
      refine (between_yes _ _ _ _ (by decide) (by decide)).mono ?_; rintro e w2 ⟨rfl, rfl⟩
      go_wp2_with fail
      refine (between_yes _ _ _ _ (by decide) (by decide)).mono ?_; rintro e w2 ⟨rfl, rfl⟩
      go_wp2_with fail
      refine (between_yes _ _ _ _ (by decide) (by decide)).mono ?_; rintro e w2 ⟨rfl, rfl⟩
      go_wp2_with fail
      go_ret
      exact ⟨rfl, HW.out⟩
/-- wakes' program, as it lies: its one function -/
def OneFunc (w : World) (p : Nat) : Prop := ∃ b, TwoIns w b ∧ w.cell? ⟨p, 0, none⟩ = some (.int .i64 0) ∧ w.cell? ⟨p, 1, none⟩ = some (.int .i64 0) ∧ w.cell? ⟨p, 2, none⟩ = some (.slice (some ⟨b, 0, none⟩) 2 2)
theorem OneFunc.ext {w w' : World} {p : Nat} (h : OneFunc w p) (e : Ext w w') : OneFunc w' p := by
  obtain ⟨b, h0, h1, h2, h3⟩ := h
  exact ⟨b, h0.ext e, e.cell h1, e.cell h2, e.cell h3⟩
theorem wgood_is {w : World} {p : Nat} (hk : FrmLie w) (hp : OneFunc w p) : Calls Tryd.prog 27 #[.agg #[.slice (some ⟨p, 0, none⟩) 1 1, .slice none 0 0, .slice none 0 0]] w (TrueExt w) := by
  have HK := Lib.hid hk
  have HP := Lib.hid hp
  clear hk hp
  go_enter Tryd.func27, Tryd.ntmps27
  go_wp2_with fail
  refine (between_yes _ _ _ _ (by decide) (by decide)).mono ?_; rintro e w2 ⟨rfl, rfl⟩
  go_wp2_with fail
  have bp := heap_alloc_new w (.cells #[.slice (some ⟨p, 0, none⟩) 1 1, .slice none 0 0, .slice none 0 0] 26)
  have HE := Lib.hid (Ext.alloc w (.cells #[.slice (some ⟨p, 0, none⟩) 1 1, .slice none 0 0, .slice none 0 0] 26))
  generalize w.alloc (.cells #[.slice (some ⟨p, 0, none⟩) 1 1, .slice none 0 0, .slice none 0 0] 26) = W at *
  have q0 : W.cell? ⟨w.heap.size, 0, none⟩ = some (.slice (some ⟨p, 0, none⟩) 1 1) := by simp [World.cell?, bp]
  have q1 : W.cell? ⟨w.heap.size, 1, none⟩ = some (.slice none 0 0) := by simp [World.cell?, bp]
  have q2 : W.cell? ⟨w.heap.size, 2, none⟩ = some (.slice none 0 0) := by simp [World.cell?, bp]
  clear bp
  generalize w.heap.size = pb at *
  go_loopw [29] (fun i wr => ∃ j : Nat, j ≤ 1 ∧ i = .int .i64 j ∧ Ext W wr) (fun i _ => 1 - (Go.RowKit.intOf i).toNat)
  case atStart => exact ⟨0, by omega, rfl, Ext.refl _⟩
  case round =>
    obtain ⟨j, hj, rfl, hx⟩ := hrel
    replace q0 := hx.cell q0; replace q1 := hx.cell q1; replace q2 := hx.cell q2
    have HX := Lib.hid hx
    clear hx
    match j, hj with
    | 0, _ =>
      obtain ⟨b, hti, p0, p1, p2⟩ := (HP.out.ext HE.out).ext HX.out
      have HTI := Lib.hid hti
      clear hti
      go_wp2_with fail
      refine (wfunction_is (HK.out.ext (HE.out.trans (HX.out.trans (Ext.alloc _ _)))) (HTI.out.ext (Ext.alloc _ _))).mono ?_; rintro e w2 ⟨rfl, hx2⟩
      have HX2 := Lib.hid (HX.out.trans ((Ext.alloc _ _).trans hx2))
      clear hx2
      go_wp2_with fail
      exact ⟨⟨1, by omega, by go_num, HX2.out⟩, by simp [Go.RowKit.intOf]⟩
    | 1, _ =>
      have HW := Lib.hid (HE.out.trans HX.out)
      clear HX
      go_wp2_with fail
      go_loopw [43] (fun i wx => i = .int .i64 0 ∧ Ext wr wx) (fun _ _ => 0)
      case atStart => exact ⟨rfl, Ext.refl _⟩
      case round =>
        obtain ⟨rfl, hx⟩ := hrel
        replace q2 := hx.cell q2
        have HW2 := Lib.hid (HW.out.trans hx)
        clear hx
        go_wp2_with fail
        generalize hwo : wr = wo at *
        clear hwo
        go_loopw [54] (fun i wx => i = .int .i64 0 ∧ Ext w wx) (fun _ _ => 0)
        case atStart => exact ⟨rfl, HW2.out⟩
        case round =>
          obtain ⟨rfl, hx⟩ := hrel
          have HX3 := Lib.hid hx
          clear hx
          go_wp2_with fail
          go_ret
          exact ⟨rfl, HX3.out⟩
end Go.Proofs.YtgiopklnielglaaDoor
/- Small walks: words of numbers. -/
namespace Go.Proofs.YtgiopklnielglaaDoor
open Go.RowKit
set_option maxHeartbeats 4000000
set_option maxRecDepth 100000
/-- a number's word -/
def intW (v : Int) : Int := bits .or .u64 (IntKind.u64.wrap (IntKind.u64.wrap v * 2)) 1
/-- a number of 63 bits -/
def wrapW (v : Int) : Int := wrap64 (v * 2) / 2
theorem refInt_is (v : Int) (w : World) : Calls Tryd.prog 16 #[.int .i64 v] w fun e w' => e = .returned (.int .u64 (intW v)) ∧ w = w' := by
  go_enter Tryd.func16, Tryd.ntmps16
  go_wp2
  go_ret
  exact ⟨rfl, rfl⟩
theorem wordInt_is (v : Int) (w : World) : Calls Tryd.prog 36 #[.int .i64 v] w fun e w' => e = .returned (.int .u64 (intW v)) ∧ w = w' := by
  go_enter Tryd.func36, Tryd.ntmps36
  go_wp2
  go_ret
  exact ⟨rfl, rfl⟩
theorem wordWrap_is (v : Int) (w : World) : Calls Tryd.prog 35 #[.int .i64 v] w fun e w' => e = .returned (.int .i64 (wrapW v)) ∧ w = w' := by
  go_enter Tryd.func35, Tryd.ntmps35
  go_wp2
  go_ret
  exact ⟨rfl, rfl⟩
theorem refWrap_is (v : Int) (w : World) : Calls Tryd.prog 15 #[.int .i64 v] w fun e w' => e = .returned (.int .i64 (wrapW v)) ∧ w = w' := by
  go_enter Tryd.func15, Tryd.ntmps15
  go_wp2
  go_ret
  exact ⟨rfl, rfl⟩
end Go.Proofs.YtgiopklnielglaaDoor
/- Worlds of several new blocks: what lies where, under one letter. -/
namespace Go.Proofs.YtgiopklnielglaaDoor
open Go.RowKit
theorem blocks1 (w : World) (o0 : Obj) : Ext w (w.alloc o0) ∧ (w.alloc o0).heap.size = w.heap.size + 1 ∧ (w.alloc o0).heap[w.heap.size]? = some o0 := by
  exact ⟨Ext.alloc _ _, by simp, heap_alloc_new _ _⟩
theorem at_alloc1 {P : Program} {f : FuncId} {args : Array Value} {w : World} {o0 : Obj} {Q : Ending → World → Prop} (h : ∀ W : World, Ext w W → W.heap.size = w.heap.size + 1 → W.heap[w.heap.size]? = some o0 → Calls P f args W Q) : Calls P f args (w.alloc o0) Q := by
  obtain ⟨e, s, b0⟩ := blocks1 w o0
  exact h _ e s b0
theorem blocks2 (w : World) (o0 o1 : Obj) : Ext w ((w.alloc o0).alloc o1) ∧ ((w.alloc o0).alloc o1).heap.size = w.heap.size + 1 + 1 ∧ ((w.alloc o0).alloc o1).heap[w.heap.size]? = some o0 ∧ ((w.alloc o0).alloc o1).heap[w.heap.size + 1]? = some o1 := by
  obtain ⟨e, s, b0⟩ := blocks1 w o0
  refine ⟨e.trans (Ext.alloc _ _), by rw [← s]; simp, (Below.block (Ext.alloc _ _) _ (by rw [s]; omega)).trans b0, ?_⟩
  rw [← s]; exact heap_alloc_new _ _
theorem at_alloc2 {P : Program} {f : FuncId} {args : Array Value} {w : World} {o0 o1 : Obj} {Q : Ending → World → Prop} (h : ∀ W : World, Ext w W → W.heap.size = w.heap.size + 1 + 1 → W.heap[w.heap.size]? = some o0 → W.heap[w.heap.size + 1]? = some o1 → Calls P f args W Q) : Calls P f args ((w.alloc o0).alloc o1) Q := by
  obtain ⟨e, s, b0, b1⟩ := blocks2 w o0 o1
  exact h _ e s b0 b1
theorem blocks3 (w : World) (o0 o1 o2 : Obj) : Ext w (((w.alloc o0).alloc o1).alloc o2) ∧ (((w.alloc o0).alloc o1).alloc o2).heap.size = w.heap.size + 1 + 1 + 1 ∧ (((w.alloc o0).alloc o1).alloc o2).heap[w.heap.size]? = some o0 ∧ (((w.alloc o0).alloc o1).alloc o2).heap[w.heap.size + 1]? = some o1 ∧ (((w.alloc o0).alloc o1).alloc o2).heap[w.heap.size + 1 + 1]? = some o2 := by
  obtain ⟨e, s, b0, b1⟩ := blocks2 w o0 o1
  refine ⟨e.trans (Ext.alloc _ _), by rw [← s]; simp, (Below.block (Ext.alloc _ _) _ (by rw [s]; omega)).trans b0, (Below.block (Ext.alloc _ _) _ (by rw [s]; omega)).trans b1, ?_⟩
  rw [← s]; exact heap_alloc_new _ _
theorem at_alloc3 {P : Program} {f : FuncId} {args : Array Value} {w : World} {o0 o1 o2 : Obj} {Q : Ending → World → Prop} (h : ∀ W : World, Ext w W → W.heap.size = w.heap.size + 1 + 1 + 1 → W.heap[w.heap.size]? = some o0 → W.heap[w.heap.size + 1]? = some o1 → W.heap[w.heap.size + 1 + 1]? = some o2 → Calls P f args W Q) : Calls P f args (((w.alloc o0).alloc o1).alloc o2) Q := by
  obtain ⟨e, s, b0, b1, b2⟩ := blocks3 w o0 o1 o2
  exact h _ e s b0 b1 b2
theorem blocks4 (w : World) (o0 o1 o2 o3 : Obj) : Ext w ((((w.alloc o0).alloc o1).alloc o2).alloc o3) ∧ ((((w.alloc o0).alloc o1).alloc o2).alloc o3).heap.size = w.heap.size + 1 + 1 + 1 + 1 ∧ ((((w.alloc o0).alloc o1).alloc o2).alloc o3).heap[w.heap.size]? = some o0 ∧ ((((w.alloc o0).alloc o1).alloc o2).alloc o3).heap[w.heap.size + 1]? = some o1 ∧ ((((w.alloc o0).alloc o1).alloc o2).alloc o3).heap[w.heap.size + 1 + 1]? = some o2 ∧ ((((w.alloc o0).alloc o1).alloc o2).alloc o3).heap[w.heap.size + 1 + 1 + 1]? = some o3 := by
  obtain ⟨e, s, b0, b1, b2⟩ := blocks3 w o0 o1 o2
  refine ⟨e.trans (Ext.alloc _ _), by rw [← s]; simp, (Below.block (Ext.alloc _ _) _ (by rw [s]; omega)).trans b0, (Below.block (Ext.alloc _ _) _ (by rw [s]; omega)).trans b1, (Below.block (Ext.alloc _ _) _ (by rw [s]; omega)).trans b2, ?_⟩
  rw [← s]; exact heap_alloc_new _ _
theorem at_alloc4 {P : Program} {f : FuncId} {args : Array Value} {w : World} {o0 o1 o2 o3 : Obj} {Q : Ending → World → Prop} (h : ∀ W : World, Ext w W → W.heap.size = w.heap.size + 1 + 1 + 1 + 1 → W.heap[w.heap.size]? = some o0 → W.heap[w.heap.size + 1]? = some o1 → W.heap[w.heap.size + 1 + 1]? = some o2 → W.heap[w.heap.size + 1 + 1 + 1]? = some o3 → Calls P f args W Q) : Calls P f args ((((w.alloc o0).alloc o1).alloc o2).alloc o3) Q := by
  obtain ⟨e, s, b0, b1, b2, b3⟩ := blocks4 w o0 o1 o2 o3
  exact h _ e s b0 b1 b2 b3
theorem blocks5 (w : World) (o0 o1 o2 o3 o4 : Obj) : Ext w (((((w.alloc o0).alloc o1).alloc o2).alloc o3).alloc o4) ∧ (((((w.alloc o0).alloc o1).alloc o2).alloc o3).alloc o4).heap.size = w.heap.size + 1 + 1 + 1 + 1 + 1 ∧ (((((w.alloc o0).alloc o1).alloc o2).alloc o3).alloc o4).heap[w.heap.size]? = some o0 ∧ (((((w.alloc o0).alloc o1).alloc o2).alloc o3).alloc o4).heap[w.heap.size + 1]? = some o1 ∧ (((((w.alloc o0).alloc o1).alloc o2).alloc o3).alloc o4).heap[w.heap.size + 1 + 1]? = some o2 ∧ (((((w.alloc o0).alloc o1).alloc o2).alloc o3).alloc o4).heap[w.heap.size + 1 + 1 + 1]? = some o3 ∧ (((((w.alloc o0).alloc o1).alloc o2).alloc o3).alloc o4).heap[w.heap.size + 1 + 1 + 1 + 1]? = some o4 := by
  obtain ⟨e, s, b0, b1, b2, b3⟩ := blocks4 w o0 o1 o2 o3
  refine ⟨e.trans (Ext.alloc _ _), by rw [← s]; simp, (Below.block (Ext.alloc _ _) _ (by rw [s]; omega)).trans b0, (Below.block (Ext.alloc _ _) _ (by rw [s]; omega)).trans b1, (Below.block (Ext.alloc _ _) _ (by rw [s]; omega)).trans b2, (Below.block (Ext.alloc _ _) _ (by rw [s]; omega)).trans b3, ?_⟩
  rw [← s]; exact heap_alloc_new _ _
theorem at_alloc5 {P : Program} {f : FuncId} {args : Array Value} {w : World} {o0 o1 o2 o3 o4 : Obj} {Q : Ending → World → Prop} (h : ∀ W : World, Ext w W → W.heap.size = w.heap.size + 1 + 1 + 1 + 1 + 1 → W.heap[w.heap.size]? = some o0 → W.heap[w.heap.size + 1]? = some o1 → W.heap[w.heap.size + 1 + 1]? = some o2 → W.heap[w.heap.size + 1 + 1 + 1]? = some o3 → W.heap[w.heap.size + 1 + 1 + 1 + 1]? = some o4 → Calls P f args W Q) : Calls P f args (((((w.alloc o0).alloc o1).alloc o2).alloc o3).alloc o4) Q := by
  obtain ⟨e, s, b0, b1, b2, b3, b4⟩ := blocks5 w o0 o1 o2 o3 o4
  exact h _ e s b0 b1 b2 b3 b4
theorem blocks6 (w : World) (o0 o1 o2 o3 o4 o5 : Obj) : Ext w ((((((w.alloc o0).alloc o1).alloc o2).alloc o3).alloc o4).alloc o5) ∧ ((((((w.alloc o0).alloc o1).alloc o2).alloc o3).alloc o4).alloc o5).heap.size = w.heap.size + 1 + 1 + 1 + 1 + 1 + 1 ∧ ((((((w.alloc o0).alloc o1).alloc o2).alloc o3).alloc o4).alloc o5).heap[w.heap.size]? = some o0 ∧ ((((((w.alloc o0).alloc o1).alloc o2).alloc o3).alloc o4).alloc o5).heap[w.heap.size + 1]? = some o1 ∧ ((((((w.alloc o0).alloc o1).alloc o2).alloc o3).alloc o4).alloc o5).heap[w.heap.size + 1 + 1]? = some o2 ∧ ((((((w.alloc o0).alloc o1).alloc o2).alloc o3).alloc o4).alloc o5).heap[w.heap.size + 1 + 1 + 1]? = some o3 ∧ ((((((w.alloc o0).alloc o1).alloc o2).alloc o3).alloc o4).alloc o5).heap[w.heap.size + 1 + 1 + 1 + 1]? = some o4 ∧ ((((((w.alloc o0).alloc o1).alloc o2).alloc o3).alloc o4).alloc o5).heap[w.heap.size + 1 + 1 + 1 + 1 + 1]? = some o5 := by
  obtain ⟨e, s, b0, b1, b2, b3, b4⟩ := blocks5 w o0 o1 o2 o3 o4
  refine ⟨e.trans (Ext.alloc _ _), by rw [← s]; simp, (Below.block (Ext.alloc _ _) _ (by rw [s]; omega)).trans b0, (Below.block (Ext.alloc _ _) _ (by rw [s]; omega)).trans b1, (Below.block (Ext.alloc _ _) _ (by rw [s]; omega)).trans b2, (Below.block (Ext.alloc _ _) _ (by rw [s]; omega)).trans b3, (Below.block (Ext.alloc _ _) _ (by rw [s]; omega)).trans b4, ?_⟩
  rw [← s]; exact heap_alloc_new _ _
theorem at_alloc6 {P : Program} {f : FuncId} {args : Array Value} {w : World} {o0 o1 o2 o3 o4 o5 : Obj} {Q : Ending → World → Prop} (h : ∀ W : World, Ext w W → W.heap.size = w.heap.size + 1 + 1 + 1 + 1 + 1 + 1 → W.heap[w.heap.size]? = some o0 → W.heap[w.heap.size + 1]? = some o1 → W.heap[w.heap.size + 1 + 1]? = some o2 → W.heap[w.heap.size + 1 + 1 + 1]? = some o3 → W.heap[w.heap.size + 1 + 1 + 1 + 1]? = some o4 → W.heap[w.heap.size + 1 + 1 + 1 + 1 + 1]? = some o5 → Calls P f args W Q) : Calls P f args ((((((w.alloc o0).alloc o1).alloc o2).alloc o3).alloc o4).alloc o5) Q := by
  obtain ⟨e, s, b0, b1, b2, b3, b4, b5⟩ := blocks6 w o0 o1 o2 o3 o4 o5
  exact h _ e s b0 b1 b2 b3 b4 b5
theorem blocks7 (w : World) (o0 o1 o2 o3 o4 o5 o6 : Obj) : Ext w (((((((w.alloc o0).alloc o1).alloc o2).alloc o3).alloc o4).alloc o5).alloc o6) ∧ (((((((w.alloc o0).alloc o1).alloc o2).alloc o3).alloc o4).alloc o5).alloc o6).heap.size = w.heap.size + 1 + 1 + 1 + 1 + 1 + 1 + 1 ∧ (((((((w.alloc o0).alloc o1).alloc o2).alloc o3).alloc o4).alloc o5).alloc o6).heap[w.heap.size]? = some o0 ∧ (((((((w.alloc o0).alloc o1).alloc o2).alloc o3).alloc o4).alloc o5).alloc o6).heap[w.heap.size + 1]? = some o1 ∧ (((((((w.alloc o0).alloc o1).alloc o2).alloc o3).alloc o4).alloc o5).alloc o6).heap[w.heap.size + 1 + 1]? = some o2 ∧ (((((((w.alloc o0).alloc o1).alloc o2).alloc o3).alloc o4).alloc o5).alloc o6).heap[w.heap.size + 1 + 1 + 1]? = some o3 ∧ (((((((w.alloc o0).alloc o1).alloc o2).alloc o3).alloc o4).alloc o5).alloc o6).heap[w.heap.size + 1 + 1 + 1 + 1]? = some o4 ∧ (((((((w.alloc o0).alloc o1).alloc o2).alloc o3).alloc o4).alloc o5).alloc o6).heap[w.heap.size + 1 + 1 + 1 + 1 + 1]? = some o5 ∧ (((((((w.alloc o0).alloc o1).alloc o2).alloc o3).alloc o4).alloc o5).alloc o6).heap[w.heap.size + 1 + 1 + 1 + 1 + 1 + 1]? = some o6 := by
  obtain ⟨e, s, b0, b1, b2, b3, b4, b5⟩ := blocks6 w o0 o1 o2 o3 o4 o5
  refine ⟨e.trans (Ext.alloc _ _), by rw [← s]; simp, (Below.block (Ext.alloc _ _) _ (by rw [s]; omega)).trans b0, (Below.block (Ext.alloc _ _) _ (by rw [s]; omega)).trans b1, (Below.block (Ext.alloc _ _) _ (by rw [s]; omega)).trans b2, (Below.block (Ext.alloc _ _) _ (by rw [s]; omega)).trans b3, (Below.block (Ext.alloc _ _) _ (by rw [s]; omega)).trans b4, (Below.block (Ext.alloc _ _) _ (by rw [s]; omega)).trans b5, ?_⟩
  rw [← s]; exact heap_alloc_new _ _
theorem at_alloc7 {P : Program} {f : FuncId} {args : Array Value} {w : World} {o0 o1 o2 o3 o4 o5 o6 : Obj} {Q : Ending → World → Prop} (h : ∀ W : World, Ext w W → W.heap.size = w.heap.size + 1 + 1 + 1 + 1 + 1 + 1 + 1 → W.heap[w.heap.size]? = some o0 → W.heap[w.heap.size + 1]? = some o1 → W.heap[w.heap.size + 1 + 1]? = some o2 → W.heap[w.heap.size + 1 + 1 + 1]? = some o3 → W.heap[w.heap.size + 1 + 1 + 1 + 1]? = some o4 → W.heap[w.heap.size + 1 + 1 + 1 + 1 + 1]? = some o5 → W.heap[w.heap.size + 1 + 1 + 1 + 1 + 1 + 1]? = some o6 → Calls P f args W Q) : Calls P f args (((((((w.alloc o0).alloc o1).alloc o2).alloc o3).alloc o4).alloc o5).alloc o6) Q := by
  obtain ⟨e, s, b0, b1, b2, b3, b4, b5, b6⟩ := blocks7 w o0 o1 o2 o3 o4 o5 o6
  exact h _ e s b0 b1 b2 b3 b4 b5 b6
theorem blocks8 (w : World) (o0 o1 o2 o3 o4 o5 o6 o7 : Obj) : Ext w ((((((((w.alloc o0).alloc o1).alloc o2).alloc o3).alloc o4).alloc o5).alloc o6).alloc o7) ∧ ((((((((w.alloc o0).alloc o1).alloc o2).alloc o3).alloc o4).alloc o5).alloc o6).alloc o7).heap.size = w.heap.size + 1 + 1 + 1 + 1 + 1 + 1 + 1 + 1 ∧ ((((((((w.alloc o0).alloc o1).alloc o2).alloc o3).alloc o4).alloc o5).alloc o6).alloc o7).heap[w.heap.size]? = some o0 ∧ ((((((((w.alloc o0).alloc o1).alloc o2).alloc o3).alloc o4).alloc o5).alloc o6).alloc o7).heap[w.heap.size + 1]? = some o1 ∧ ((((((((w.alloc o0).alloc o1).alloc o2).alloc o3).alloc o4).alloc o5).alloc o6).alloc o7).heap[w.heap.size + 1 + 1]? = some o2 ∧ ((((((((w.alloc o0).alloc o1).alloc o2).alloc o3).alloc o4).alloc o5).alloc o6).alloc o7).heap[w.heap.size + 1 + 1 + 1]? = some o3 ∧ ((((((((w.alloc o0).alloc o1).alloc o2).alloc o3).alloc o4).alloc o5).alloc o6).alloc o7).heap[w.heap.size + 1 + 1 + 1 + 1]? = some o4 ∧ ((((((((w.alloc o0).alloc o1).alloc o2).alloc o3).alloc o4).alloc o5).alloc o6).alloc o7).heap[w.heap.size + 1 + 1 + 1 + 1 + 1]? = some o5 ∧ ((((((((w.alloc o0).alloc o1).alloc o2).alloc o3).alloc o4).alloc o5).alloc o6).alloc o7).heap[w.heap.size + 1 + 1 + 1 + 1 + 1 + 1]? = some o6 ∧ ((((((((w.alloc o0).alloc o1).alloc o2).alloc o3).alloc o4).alloc o5).alloc o6).alloc o7).heap[w.heap.size + 1 + 1 + 1 + 1 + 1 + 1 + 1]? = some o7 := by
  obtain ⟨e, s, b0, b1, b2, b3, b4, b5, b6⟩ := blocks7 w o0 o1 o2 o3 o4 o5 o6
  refine ⟨e.trans (Ext.alloc _ _), by rw [← s]; simp, (Below.block (Ext.alloc _ _) _ (by rw [s]; omega)).trans b0, (Below.block (Ext.alloc _ _) _ (by rw [s]; omega)).trans b1, (Below.block (Ext.alloc _ _) _ (by rw [s]; omega)).trans b2, (Below.block (Ext.alloc _ _) _ (by rw [s]; omega)).trans b3, (Below.block (Ext.alloc _ _) _ (by rw [s]; omega)).trans b4, (Below.block (Ext.alloc _ _) _ (by rw [s]; omega)).trans b5, (Below.block (Ext.alloc _ _) _ (by rw [s]; omega)).trans b6, ?_⟩
  rw [← s]; exact heap_alloc_new _ _
theorem at_alloc8 {P : Program} {f : FuncId} {args : Array Value} {w : World} {o0 o1 o2 o3 o4 o5 o6 o7 : Obj} {Q : Ending → World → Prop} (h : ∀ W : World, Ext w W → W.heap.size = w.heap.size + 1 + 1 + 1 + 1 + 1 + 1 + 1 + 1 → W.heap[w.heap.size]? = some o0 → W.heap[w.heap.size + 1]? = some o1 → W.heap[w.heap.size + 1 + 1]? = some o2 → W.heap[w.heap.size + 1 + 1 + 1]? = some o3 → W.heap[w.heap.size + 1 + 1 + 1 + 1]? = some o4 → W.heap[w.heap.size + 1 + 1 + 1 + 1 + 1]? = some o5 → W.heap[w.heap.size + 1 + 1 + 1 + 1 + 1 + 1]? = some o6 → W.heap[w.heap.size + 1 + 1 + 1 + 1 + 1 + 1 + 1]? = some o7 → Calls P f args W Q) : Calls P f args ((((((((w.alloc o0).alloc o1).alloc o2).alloc o3).alloc o4).alloc o5).alloc o6).alloc o7) Q := by
  obtain ⟨e, s, b0, b1, b2, b3, b4, b5, b6, b7⟩ := blocks8 w o0 o1 o2 o3 o4 o5 o6 o7
  exact h _ e s b0 b1 b2 b3 b4 b5 b6 b7
theorem cell_at {w : World} {b i : Nat} {cs : Array Value} {T : TypeId} {fr : Nat × Nat} {v : Value} (hb : w.heap[b]? = some (.cells cs T fr)) (hv : cs[i]? = some v) : w.cell? ⟨b, i, none⟩ = some v := by
  rw [World.cell?, hb]; exact hv
theorem free_at {w : World} {b i : Nat} {cs : Array Value} {T : TypeId} (hb : w.heap[b]? = some (.cells cs T (0, 0))) : w.frozen? ⟨b, i, none⟩ = false := by
  simp [World.frozen?, hb]
theorem cells1 {w : World} {b : Nat} {x0 : Value} {T : TypeId} {fr : Nat × Nat} (h : w.heap[b]? = some (.cells #[x0] T fr)) : w.cell? ⟨b, 0, none⟩ = some x0 :=
  cell_at h rfl
theorem cells2 {w : World} {b : Nat} {x0 x1 : Value} {T : TypeId} {fr : Nat × Nat} (h : w.heap[b]? = some (.cells #[x0, x1] T fr)) : w.cell? ⟨b, 0, none⟩ = some x0 ∧ w.cell? ⟨b, 1, none⟩ = some x1 :=
  ⟨cell_at h rfl, cell_at h rfl⟩
theorem cells3 {w : World} {b : Nat} {x0 x1 x2 : Value} {T : TypeId} {fr : Nat × Nat} (h : w.heap[b]? = some (.cells #[x0, x1, x2] T fr)) : w.cell? ⟨b, 0, none⟩ = some x0 ∧ w.cell? ⟨b, 1, none⟩ = some x1 ∧ w.cell? ⟨b, 2, none⟩ = some x2 :=
  ⟨cell_at h rfl, cell_at h rfl, cell_at h rfl⟩
theorem cells4 {w : World} {b : Nat} {x0 x1 x2 x3 : Value} {T : TypeId} {fr : Nat × Nat} (h : w.heap[b]? = some (.cells #[x0, x1, x2, x3] T fr)) : w.cell? ⟨b, 0, none⟩ = some x0 ∧ w.cell? ⟨b, 1, none⟩ = some x1 ∧ w.cell? ⟨b, 2, none⟩ = some x2 ∧ w.cell? ⟨b, 3, none⟩ = some x3 :=
  ⟨cell_at h rfl, cell_at h rfl, cell_at h rfl, cell_at h rfl⟩
theorem cells5 {w : World} {b : Nat} {x0 x1 x2 x3 x4 : Value} {T : TypeId} {fr : Nat × Nat} (h : w.heap[b]? = some (.cells #[x0, x1, x2, x3, x4] T fr)) : w.cell? ⟨b, 0, none⟩ = some x0 ∧ w.cell? ⟨b, 1, none⟩ = some x1 ∧ w.cell? ⟨b, 2, none⟩ = some x2 ∧ w.cell? ⟨b, 3, none⟩ = some x3 ∧ w.cell? ⟨b, 4, none⟩ = some x4 :=
  ⟨cell_at h rfl, cell_at h rfl, cell_at h rfl, cell_at h rfl, cell_at h rfl⟩
theorem cells6 {w : World} {b : Nat} {x0 x1 x2 x3 x4 x5 : Value} {T : TypeId} {fr : Nat × Nat} (h : w.heap[b]? = some (.cells #[x0, x1, x2, x3, x4, x5] T fr)) : w.cell? ⟨b, 0, none⟩ = some x0 ∧ w.cell? ⟨b, 1, none⟩ = some x1 ∧ w.cell? ⟨b, 2, none⟩ = some x2 ∧ w.cell? ⟨b, 3, none⟩ = some x3 ∧ w.cell? ⟨b, 4, none⟩ = some x4 ∧ w.cell? ⟨b, 5, none⟩ = some x5 :=
  ⟨cell_at h rfl, cell_at h rfl, cell_at h rfl, cell_at h rfl, cell_at h rfl, cell_at h rfl⟩
theorem cells7 {w : World} {b : Nat} {x0 x1 x2 x3 x4 x5 x6 : Value} {T : TypeId} {fr : Nat × Nat} (h : w.heap[b]? = some (.cells #[x0, x1, x2, x3, x4, x5, x6] T fr)) : w.cell? ⟨b, 0, none⟩ = some x0 ∧ w.cell? ⟨b, 1, none⟩ = some x1 ∧ w.cell? ⟨b, 2, none⟩ = some x2 ∧ w.cell? ⟨b, 3, none⟩ = some x3 ∧ w.cell? ⟨b, 4, none⟩ = some x4 ∧ w.cell? ⟨b, 5, none⟩ = some x5 ∧ w.cell? ⟨b, 6, none⟩ = some x6 :=
  ⟨cell_at h rfl, cell_at h rfl, cell_at h rfl, cell_at h rfl, cell_at h rfl, cell_at h rfl, cell_at h rfl⟩
theorem cells8 {w : World} {b : Nat} {x0 x1 x2 x3 x4 x5 x6 x7 : Value} {T : TypeId} {fr : Nat × Nat} (h : w.heap[b]? = some (.cells #[x0, x1, x2, x3, x4, x5, x6, x7] T fr)) : w.cell? ⟨b, 0, none⟩ = some x0 ∧ w.cell? ⟨b, 1, none⟩ = some x1 ∧ w.cell? ⟨b, 2, none⟩ = some x2 ∧ w.cell? ⟨b, 3, none⟩ = some x3 ∧ w.cell? ⟨b, 4, none⟩ = some x4 ∧ w.cell? ⟨b, 5, none⟩ = some x5 ∧ w.cell? ⟨b, 6, none⟩ = some x6 ∧ w.cell? ⟨b, 7, none⟩ = some x7 :=
  ⟨cell_at h rfl, cell_at h rfl, cell_at h rfl, cell_at h rfl, cell_at h rfl, cell_at h rfl, cell_at h rfl, cell_at h rfl⟩
theorem cells9 {w : World} {b : Nat} {x0 x1 x2 x3 x4 x5 x6 x7 x8 : Value} {T : TypeId} {fr : Nat × Nat} (h : w.heap[b]? = some (.cells #[x0, x1, x2, x3, x4, x5, x6, x7, x8] T fr)) : w.cell? ⟨b, 0, none⟩ = some x0 ∧ w.cell? ⟨b, 1, none⟩ = some x1 ∧ w.cell? ⟨b, 2, none⟩ = some x2 ∧ w.cell? ⟨b, 3, none⟩ = some x3 ∧ w.cell? ⟨b, 4, none⟩ = some x4 ∧ w.cell? ⟨b, 5, none⟩ = some x5 ∧ w.cell? ⟨b, 6, none⟩ = some x6 ∧ w.cell? ⟨b, 7, none⟩ = some x7 ∧ w.cell? ⟨b, 8, none⟩ = some x8 :=
  ⟨cell_at h rfl, cell_at h rfl, cell_at h rfl, cell_at h rfl, cell_at h rfl, cell_at h rfl, cell_at h rfl, cell_at h rfl, cell_at h rfl⟩
theorem cells10 {w : World} {b : Nat} {x0 x1 x2 x3 x4 x5 x6 x7 x8 x9 : Value} {T : TypeId} {fr : Nat × Nat} (h : w.heap[b]? = some (.cells #[x0, x1, x2, x3, x4, x5, x6, x7, x8, x9] T fr)) : w.cell? ⟨b, 0, none⟩ = some x0 ∧ w.cell? ⟨b, 1, none⟩ = some x1 ∧ w.cell? ⟨b, 2, none⟩ = some x2 ∧ w.cell? ⟨b, 3, none⟩ = some x3 ∧ w.cell? ⟨b, 4, none⟩ = some x4 ∧ w.cell? ⟨b, 5, none⟩ = some x5 ∧ w.cell? ⟨b, 6, none⟩ = some x6 ∧ w.cell? ⟨b, 7, none⟩ = some x7 ∧ w.cell? ⟨b, 8, none⟩ = some x8 ∧ w.cell? ⟨b, 9, none⟩ = some x9 :=
  ⟨cell_at h rfl, cell_at h rfl, cell_at h rfl, cell_at h rfl, cell_at h rfl, cell_at h rfl, cell_at h rfl, cell_at h rfl, cell_at h rfl, cell_at h rfl⟩
theorem cells11 {w : World} {b : Nat} {x0 x1 x2 x3 x4 x5 x6 x7 x8 x9 x10 : Value} {T : TypeId} {fr : Nat × Nat} (h : w.heap[b]? = some (.cells #[x0, x1, x2, x3, x4, x5, x6, x7, x8, x9, x10] T fr)) : w.cell? ⟨b, 0, none⟩ = some x0 ∧ w.cell? ⟨b, 1, none⟩ = some x1 ∧ w.cell? ⟨b, 2, none⟩ = some x2 ∧ w.cell? ⟨b, 3, none⟩ = some x3 ∧ w.cell? ⟨b, 4, none⟩ = some x4 ∧ w.cell? ⟨b, 5, none⟩ = some x5 ∧ w.cell? ⟨b, 6, none⟩ = some x6 ∧ w.cell? ⟨b, 7, none⟩ = some x7 ∧ w.cell? ⟨b, 8, none⟩ = some x8 ∧ w.cell? ⟨b, 9, none⟩ = some x9 ∧ w.cell? ⟨b, 10, none⟩ = some x10 :=
  ⟨cell_at h rfl, cell_at h rfl, cell_at h rfl, cell_at h rfl, cell_at h rfl, cell_at h rfl, cell_at h rfl, cell_at h rfl, cell_at h rfl, cell_at h rfl, cell_at h rfl⟩
theorem cells12 {w : World} {b : Nat} {x0 x1 x2 x3 x4 x5 x6 x7 x8 x9 x10 x11 : Value} {T : TypeId} {fr : Nat × Nat} (h : w.heap[b]? = some (.cells #[x0, x1, x2, x3, x4, x5, x6, x7, x8, x9, x10, x11] T fr)) : w.cell? ⟨b, 0, none⟩ = some x0 ∧ w.cell? ⟨b, 1, none⟩ = some x1 ∧ w.cell? ⟨b, 2, none⟩ = some x2 ∧ w.cell? ⟨b, 3, none⟩ = some x3 ∧ w.cell? ⟨b, 4, none⟩ = some x4 ∧ w.cell? ⟨b, 5, none⟩ = some x5 ∧ w.cell? ⟨b, 6, none⟩ = some x6 ∧ w.cell? ⟨b, 7, none⟩ = some x7 ∧ w.cell? ⟨b, 8, none⟩ = some x8 ∧ w.cell? ⟨b, 9, none⟩ = some x9 ∧ w.cell? ⟨b, 10, none⟩ = some x10 ∧ w.cell? ⟨b, 11, none⟩ = some x11 :=
  ⟨cell_at h rfl, cell_at h rfl, cell_at h rfl, cell_at h rfl, cell_at h rfl, cell_at h rfl, cell_at h rfl, cell_at h rfl, cell_at h rfl, cell_at h rfl, cell_at h rfl, cell_at h rfl⟩
theorem new_block {w : World} {o : Obj} {n : Nat} (h : w.heap.size = n) : (w.alloc o).heap[n]? = some o := by
  subst h; exact heap_alloc_new _ _
end Go.Proofs.YtgiopklnielglaaDoor
/- frame.Start at wakes' program. -/
namespace Go.Proofs.YtgiopklnielglaaDoor
open Go.RowKit
set_option maxHeartbeats 4000000
set_option maxRecDepth 100000
theorem start_is {w : World} {p : Nat} (hk : FrmLie w) (hp : OneFunc w p) (a b c d : Int) : Calls Tryd.prog 11 #[.agg #[.int .i64 a, .int .i64 b, .int .i64 c, .int .i64 d], .agg #[.slice (some ⟨p, 0, none⟩) 1 1, .slice none 0 0, .slice none 0 0]] w fun e w' => ∃ fb, e = .returned (.agg #[.int .i64 a, .int .i64 b, .int .i64 c, .int .i64 d, .slice none 0 0, .slice (some ⟨fb, 0, none⟩) 1 1, .slice none 0 0, .int .i64 0, .int .u64 1, .int .i64 0]) ∧ Ext w w' ∧ w.heap.size ≤ fb ∧ w'.heap[fb]? = some (.cells #[.int .i64 0, .int .i64 0, .int .i64 0, .int .u64 1] 55 (0, 0)) := by
  have HK := Lib.hid hk
  have HP := Lib.hid hp
  have n0 := hk.2.2
  have hgn : 0 < w.heap.size := by
    rcases Nat.lt_or_ge 0 w.heap.size with h | h
    · exact h
    · simp [World.cell?, Array.getElem?_eq_none h] at n0
  have n0w := Lib.hid n0
  clear hk hp
  have e1 := Ext.alloc w (.cells #[.int .i64 a, .int .i64 b, .int .i64 c, .int .i64 d] 28)
  have e2 := Ext.alloc (w.alloc (.cells #[.int .i64 a, .int .i64 b, .int .i64 c, .int .i64 d] 28)) (.cells #[.slice (some ⟨p, 0, none⟩) 1 1, .slice none 0 0, .slice none 0 0] 26)
  replace n0 := e2.cell (e1.cell n0)
  clear e1 e2
  go_enter Tryd.func11, Tryd.ntmps11
  go_wp2_with fail
  refine at_alloc4 fun W hE hS b0 b1 b2 b3 => ?_
  refine (wgood_is (HK.out.ext hE) (HP.out.ext hE)).mono ?_; rintro e w5 ⟨rfl, hx5⟩
  clear n0
  have n5 := hx5.cell (hE.cell n0w.out)
  have r3 := (Below.block hx5 (w.heap.size + 1 + 1 + 1) (by omega)).trans b3
  have r2 := (Below.block hx5 (w.heap.size + 1 + 1) (by omega)).trans b2
  have r1 := (Below.block hx5 (w.heap.size + 1) (by omega)).trans b1
  have HX5 := Lib.hid (hE.trans hx5)
  have h5 := hx5.size
  rw [hS] at h5
  have l1 : w5.cell? ⟨w.heap.size + 1, 0, none⟩ = some (.slice (some ⟨p, 0, none⟩) 1 1) := cell_at r1 rfl
  obtain ⟨bb, _, p0, _, _⟩ := HP.out.ext HX5.out
  have hpn : p < w.heap.size := by
    obtain ⟨_, _, p0, _, _⟩ := HP.out
    rcases Nat.lt_or_ge p w.heap.size with h | h
    · exact h
    · simp [World.cell?, Array.getElem?_eq_none h] at p0
  obtain ⟨m0, m1, m2, m3, m4, m5, m6, m7, m8, m9⟩ := cells10 r3
  have mf : ∀ i, w5.frozen? ⟨w.heap.size + 1 + 1 + 1, i, none⟩ = false := fun i => free_at r3
  have rf : ∀ i, w5.frozen? ⟨w.heap.size + 1 + 1, i, none⟩ = false := fun i => free_at r2
  obtain ⟨z0, z1, z2, z3, z4, z5, z6, z7, z8, z9⟩ := cells10 r2
  have q0 : w.heap.size < w5.heap.size := by omega
  have q1 : w.heap.size + 1 < w5.heap.size := by omega
  have q2 : w.heap.size + 1 + 1 < w5.heap.size := by omega
  have q3 : w.heap.size + 1 + 1 + 1 < w5.heap.size := by omega
  have q4 : p < w5.heap.size := by omega
  have q5 : 1 < w5.heap.size := by omega
  clear r1 r2 r3
  have hN := Lib.hid hS
  clear b0 b1 b2 b3 hx5 hE hS
  go_wp2_with fail
  go_loop [25] (fun i => i = .int .i64 0) (fun _ => 0)
  case atStart => rfl
  case round =>
    obtain rfl := hrel
    go_wp2_with fail
    refine bodyPost_ret (v := .agg #[.int .i64 a, .int .i64 b, .int .i64 c, .int .i64 d, .slice none 0 0, .slice (some ⟨w5.heap.size, 0, none⟩) 1 1, .slice none 0 0, .int .i64 0, .int .u64 1, .int .i64 0]) (by simp [results, Tryd.results11, go_sem, z0, z1, z2, z3, z4, z5, z6, z7, z8, z9, q2]) rfl ⟨w5.heap.size, rfl, ?_, by omega, ?_⟩
    · refine Below.alloc ?_ (by simp only [World.size_setCell]; omega) _
      have n2 : w.heap.size ≤ w.heap.size + 1 + 1 := by omega
      have n3 : w.heap.size ≤ w.heap.size + 1 + 1 + 1 := by omega
      iterate 10 refine Below.setCell ?_ n2 _
      iterate 2 refine Below.setCell ?_ n3 _
      exact HX5.out
    · exact new_block (by simp only [World.size_setCell])
end Go.Proofs.YtgiopklnielglaaDoor
/- Slices whose elements are rows of cells: read wherever they lie, or of the call's own; append, stores, cuts. -/
namespace Go.Proofs.YtgiopklnielglaaDoor
open Go.RowKit Go.Maps
/-- each row has s cells, each of one cell -/
def Rows1 (s : Nat) (l : List (List Value)) : Prop := ∀ cs ∈ l, cs.length = s ∧ ∀ u ∈ cs, u.oneCell' = true
theorem Rows1.nil (s : Nat) : Rows1 s [] := fun _ h => by cases h
theorem Rows1.app {s : Nat} {l k : List (List Value)} (h : Rows1 s l) (g : Rows1 s k) : Rows1 s (l ++ k) := fun cs hm => (List.mem_append.1 hm).elim (h cs) (g cs)
theorem Rows1.take {s : Nat} {l : List (List Value)} (h : Rows1 s l) (k : Nat) : Rows1 s (l.take k) := fun cs hm => h cs (List.mem_of_mem_take hm)
theorem Rows1.drop {s : Nat} {l : List (List Value)} (h : Rows1 s l) (k : Nat) : Rows1 s (l.drop k) := fun cs hm => h cs (List.mem_of_mem_drop hm)
theorem Rows1.one {s : Nat} {cs : List Value} (h1 : cs.length = s) (h2 : ∀ u ∈ cs, u.oneCell' = true) : Rows1 s [cs] := fun c hm => by
  rw [List.mem_singleton] at hm; subst hm; exact ⟨h1, h2⟩
theorem flat_len {s : Nat} : ∀ {l : List (List Value)}, Rows1 s l → l.flatten.length = l.length * s
  | [], _ => by simp
  | c :: l, h => by
    have h1 := (h c (.head _)).1
    have h2 := flat_len (s := s) (l := l) (fun cs hm => h cs (.tail _ hm))
    rw [List.flatten_cons, List.length_append, h1, h2, List.length_cons, Nat.add_mul]; omega
theorem flat_at {s : Nat} : ∀ {l : List (List Value)}, Rows1 s l → ∀ {i f : Nat} {cs : List Value} {u : Value}, l[i]? = some cs → cs[f]? = some u → l.flatten[i * s + f]? = some u
  | [], _, i, f, cs, u, h, _ => by simp at h
  | c :: l, hr, i, f, cs, u, h, hu => by
    have h1 := (hr c (.head _)).1
    cases i with
    | zero =>
      simp at h; subst h
      have hf : f < c.length := (List.getElem?_eq_some_iff.1 hu).1
      rw [List.flatten_cons, Nat.zero_mul, Nat.zero_add, List.getElem?_append_left hf, hu]
    | succ i =>
      have ih := flat_at (s := s) (l := l) (fun cs hm => hr cs (.tail _ hm)) (i := i) (f := f) (cs := cs) (u := u) (by simpa using h) hu
      rw [List.flatten_cons, List.getElem?_append_right (by rw [h1, Nat.add_mul]; omega), h1, show (i + 1) * s + f - s = i * s + f by rw [Nat.add_mul]; omega]
      exact ih
theorem flat_one {s : Nat} {l : List (List Value)} (h : Rows1 s l) : ∀ u ∈ l.flatten, u.oneCell' = true := by
  intro u hu
  obtain ⟨cs, hm, hc⟩ := List.mem_flatten.1 hu
  exact (h cs hm).2 u hc
theorem flat_take {s : Nat} : ∀ {l : List (List Value)}, Rows1 s l → ∀ k, (l.take k).flatten = l.flatten.take (k * s)
  | [], _, k => by simp
  | c :: l, h, 0 => by simp
  | c :: l, h, k + 1 => by
    have h1 := (h c (.head _)).1
    have ih := flat_take (s := s) (l := l) (fun cs hm => h cs (.tail _ hm)) k
    have e1 : c.take ((k + 1) * s) = c := List.take_of_length_le (by rw [h1, Nat.add_mul]; omega)
    have e2 : (k + 1) * s - s = k * s := by rw [Nat.add_mul]; omega
    rw [List.take_succ_cons, List.flatten_cons, List.flatten_cons, List.take_append, h1, e1, e2, ih]
/-- a slice without elements: nil, or at whatever address -/
def EmptyV (v : Value) : Prop := v = .slice none 0 0 ∨ ∃ a c, v = .slice (some a) 0 c ∧ c ≤ maxLen
/-- a slice that reads as rows of s cells, nil or at a plain address -/
def RowsP (w : World) (v : Value) (s : Nat) (l : List (List Value)) : Prop := Rows1 s l ∧ ((EmptyV v ∧ l = []) ∨
  ∃ b off c, v = .slice (some ⟨b, off, none⟩) l.length c ∧ l.length ≤ c ∧ c ≤ maxLen ∧ ∀ (j : Nat) (u : Value), l.flatten[j]? = some u → w.cell? ⟨b, off + j, none⟩ = some u)
theorem RowsP.ext {w w' : World} {v : Value} {s : Nat} {l : List (List Value)} (h : RowsP w v s l) (e : Ext w w') : RowsP w' v s l := by
  obtain ⟨h1, h2⟩ := h
  refine ⟨h1, ?_⟩
  rcases h2 with h2 | ⟨b, off, c, h3, h4, h5, h6⟩
  · exact .inl h2
  · exact .inr ⟨b, off, c, h3, h4, h5, fun j u hu => e.cell (h6 j u hu)⟩
theorem RowsP.nil (w : World) (s : Nat) : RowsP w (.slice none 0 0) s [] := ⟨Rows1.nil s, .inl ⟨.inl rfl, rfl⟩⟩
/-- its length, and its cells -/
theorem RowsP.at {w : World} {v : Value} {s : Nat} {l : List (List Value)} (h : RowsP w v s l) : ∃ q c, v = .slice q l.length c ∧ l.length ≤ c ∧ c ≤ maxLen ∧
    ∀ (i : Nat) (cs : List Value), l[i]? = some cs → ∃ b off, q = some ⟨b, off, none⟩ ∧ ∀ (f : Nat) (u : Value), cs[f]? = some u → w.cell? ⟨b, off + i * s + f, none⟩ = some u := by
  obtain ⟨h1, h2⟩ := h
  rcases h2 with ⟨rfl | ⟨a, c, rfl, hc⟩, rfl⟩ | ⟨b, off, c, rfl, h4, h5, h6⟩
  · exact ⟨none, 0, rfl, Nat.le_refl _, Nat.zero_le _, fun i cs h => by simp at h⟩
  · exact ⟨some a, c, rfl, Nat.zero_le _, hc, fun i cs h => by simp at h⟩
  · exact ⟨_, c, rfl, h4, h5, fun i cs hi => ⟨b, off, rfl, fun f u hu => by rw [Nat.add_assoc]; exact h6 _ u (flat_at h1 hi hu)⟩⟩
/-- a slice of the call's own -/
def OwnP (w : World) (base : Nat) (T : TypeId) (v : Value) (s : Nat) (l : List (List Value)) : Prop := Rows1 s l ∧ w.ownsRow base T s v l.length l.flatten
theorem OwnP.nil (w : World) (base : Nat) (T : TypeId) (s : Nat) : OwnP w base T (.slice none 0 0) s [] := ⟨Rows1.nil s, World.ownsRow_nil _ _ _ _⟩
theorem OwnP.forms {w : World} {base : Nat} {T : TypeId} {v : Value} {s : Nat} {l : List (List Value)} (h : OwnP w base T v s l) : (v = .slice none 0 0 ∧ l = []) ∨
    ∃ g cap cur, v = .slice (some ⟨g, 0, none⟩) l.length cap ∧ base ≤ g ∧ w.heap[g]? = some (.cells cur T (0, 0)) ∧ l.length ≤ cap ∧ cap ≤ maxLen ∧ cur.size = cap * s ∧ cur.toList.take (l.length * s) = l.flatten := by
  rcases h.2.2 with ⟨h1, h2⟩ | h1
  · exact .inl ⟨h1, List.eq_nil_of_length_eq_zero h2⟩
  · exact .inr h1
theorem OwnP.of_form {w : World} {base g cap : Nat} {T : TypeId} {s : Nat} {cur : Array Value} {l : List (List Value)} (h1 : Rows1 s l) (hb : base ≤ g) (hg : w.heap[g]? = some (.cells cur T (0, 0))) (hc : l.length ≤ cap) (hm : cap ≤ maxLen)
    (hs : cur.size = cap * s) (ht : cur.toList.take (l.length * s) = l.flatten) : OwnP w base T (.slice (some ⟨g, 0, none⟩) l.length cap) s l :=
  ⟨h1, flat_len h1, .inr ⟨g, cap, cur, rfl, hb, hg, hc, hm, hs, ht⟩⟩
theorem OwnP.len {w : World} {base : Nat} {T : TypeId} {v : Value} {s : Nat} {l : List (List Value)} (h : OwnP w base T v s l) : ∃ q c, v = .slice q l.length c ∧ l.length ≤ c ∧ c ≤ maxLen := by
  rcases h.forms with ⟨rfl, rfl⟩ | ⟨g, cap, cur, h1, _, _, h2, h3, _⟩
  · exact ⟨none, 0, rfl, Nat.le_refl _, Nat.zero_le _⟩
  · exact ⟨_, cap, h1, h2, h3⟩
theorem OwnP.own {w : World} {base : Nat} {T : TypeId} {v : Value} {s : Nat} {l : List (List Value)} (h : OwnP w base T v s l) : ∀ b, v.ownBlock = some b → base ≤ b ∧ b < w.heap.size := by
  intro b hb
  rcases h.forms with ⟨rfl, _⟩ | ⟨g, cap, cur, rfl, hb1, hg, _⟩
  · simp [Value.ownBlock] at hb
  · simp only [Value.ownBlock, Option.some.injEq] at hb
    exact ⟨by omega, by rw [← hb]; exact (Array.getElem?_eq_some_iff.1 hg).1⟩
theorem OwnP.p {w : World} {base : Nat} {T : TypeId} {v : Value} {s : Nat} {l : List (List Value)} (h : OwnP w base T v s l) : RowsP w v s l := by
  refine ⟨h.1, ?_⟩
  rcases h.forms with ⟨rfl, rfl⟩ | ⟨g, cap, cur, rfl, hb, hg, h2, h3, h4, h5⟩
  · exact .inl ⟨.inl rfl, rfl⟩
  · refine .inr ⟨g, 0, cap, rfl, h2, h3, fun j u hu => ?_⟩
    have hj : j < l.flatten.length := (List.getElem?_eq_some_iff.1 hu).1
    rw [flat_len h.1] at hj
    rw [← h5, List.getElem?_take_of_lt hj] at hu
    simpa [World.cell?, hg] using hu
/-- it stays where nothing of its block turns -/
theorem OwnP.stays {w w' : World} {base : Nat} {T : TypeId} {v : Value} {s : Nat} {l : List (List Value)} (h : OwnP w base T v s l) (hw : ∀ b, v.ownBlock = some b → b < w.heap.size → w'.heap[b]? = w.heap[b]?) : OwnP w' base T v s l := by
  rcases h.forms with ⟨rfl, rfl⟩ | ⟨g, cap, cur, rfl, hb, hg, h2, h3, h4, h5⟩
  · exact OwnP.nil _ _ _ _
  · exact OwnP.of_form h.1 hb (by rw [hw g rfl (Array.getElem?_eq_some_iff.1 hg).1]; exact hg) h2 h3 h4 h5
theorem OwnP.ext {w w' : World} {base : Nat} {T : TypeId} {v : Value} {s : Nat} {l : List (List Value)} (h : OwnP w base T v s l) (e : Ext w w') : OwnP w' base T v s l := h.stays fun b _ hl => Below.block e b hl
theorem OwnP.turn {w w' : World} {base : Nat} {T : TypeId} {v : Value} {s : Nat} {l : List (List Value)} {bs : List Nat} (h : OwnP w base T v s l) (t : Turn bs w w') (hn : ∀ b, v.ownBlock = some b → b ∉ bs) : OwnP w' base T v s l := h.stays fun b hb hl => t.block b hl (hn b hb)
theorem OwnP.grown {w w' : World} {base : Nat} {T : TypeId} {v : Value} {s : Nat} {l : List (List Value)} {row : Option Nat} (h : OwnP w base T v s l) (t : w.grownBy w' row) (hn : ∀ b, v.ownBlock = some b → row ≠ some b) : OwnP w' base T v s l :=
  h.stays fun b hb hl => t.block b hl (fun e => hn b hb e.symm)
theorem OwnP.mono {w : World} {base base' : Nat} {T : TypeId} {v : Value} {s : Nat} {l : List (List Value)} (h : OwnP w base T v s l) (hb : base' ≤ base) : OwnP w base' T v s l := by
  rcases h.forms with ⟨rfl, rfl⟩ | ⟨g, cap, cur, rfl, hb1, hg, h2, h3, h4, h5⟩
  · exact OwnP.nil _ _ _ _
  · exact OwnP.of_form h.1 (Nat.le_trans hb hb1) hg h2 h3 h4 h5
/-- the first k of it -/
theorem OwnP.take {w : World} {base : Nat} {T : TypeId} {q : Option Addr} {n c : Nat} {s : Nat} {l : List (List Value)} (h : OwnP w base T (.slice q n c) s l) {k : Nat} (hk : k ≤ l.length) : OwnP w base T (.slice q k c) s (l.take k) := by
  have hl : (l.take k).length = k := by rw [List.length_take]; omega
  rcases h.forms with ⟨h1, rfl⟩ | ⟨g, cap, cur, h1, hb, hg, h2, h3, h4, h5⟩
  · obtain ⟨rfl, rfl, rfl⟩ := Value.slice.inj h1
    obtain rfl : k = 0 := by simpa using hk
    exact OwnP.nil _ _ _ _
  · obtain ⟨rfl, rfl, rfl⟩ := Value.slice.inj h1
    have := OwnP.of_form (T := T) (base := base) (cap := c) (h.1.take k) hb hg (by omega) h3 h4 (by
      rw [hl, flat_take h.1, ← h5, List.take_take, Nat.min_eq_left (Nat.mul_le_mul_right s hk)])
    rw [hl] at this
    exact this
theorem OwnP.cell {w : World} {base : Nat} {T : TypeId} {q : Option Addr} {n c : Nat} {s : Nat} {l : List (List Value)} (h : OwnP w base T (.slice q n c) s l) {i f : Nat} {cs : List Value} {u : Value} (hi : l[i]? = some cs) (hu : cs[f]? = some u) :
    ∃ g, q = some ⟨g, 0, none⟩ ∧ base ≤ g ∧ w.cell? ⟨g, i * s + f, none⟩ = some u ∧ w.frozen? ⟨g, i * s + f, none⟩ = false := by
  rcases h.forms with ⟨_, rfl⟩ | ⟨g, cap, cur, h1, hb, hg, h2, h3, h4, h5⟩
  · simp at hi
  · obtain ⟨rfl, rfl, rfl⟩ := Value.slice.inj h1
    have hx := flat_at h.1 hi hu
    have hj : i * s + f < l.flatten.length := (List.getElem?_eq_some_iff.1 hx).1
    rw [flat_len h.1] at hj
    rw [← h5, List.getElem?_take_of_lt hj] at hx
    exact ⟨g, rfl, hb, by simpa [World.cell?, hg] using hx, by simp [World.frozen?, hg]⟩
theorem flat_set {s : Nat} : ∀ {l : List (List Value)}, Rows1 s l → ∀ {i f : Nat} {cs : List Value} (u : Value), l[i]? = some cs → f < s → (l.set i (cs.set f u)).flatten = l.flatten.set (i * s + f) u
  | [], _, i, f, cs, u, h, _ => by simp at h
  | c :: l, hr, i, f, cs, u, h, hf => by
    have h1 := (hr c (.head _)).1
    cases i with
    | zero =>
      simp at h; subst h
      rw [List.set_cons_zero, List.flatten_cons, List.flatten_cons, Nat.zero_mul, Nat.zero_add, List.set_append_left _ _ (by omega)]
    | succ i =>
      have ih := flat_set (s := s) (l := l) (fun cs hm => hr cs (.tail _ hm)) (i := i) (f := f) (cs := cs) u (by simpa using h) hf
      rw [List.set_cons_succ, List.flatten_cons, List.flatten_cons, List.set_append_right _ _ (by rw [h1, Nat.add_mul]; omega), h1, ih, show (i + 1) * s + f - s = i * s + f by rw [Nat.add_mul]; omega]
theorem Rows1.set {s : Nat} {l : List (List Value)} (h : Rows1 s l) {i f : Nat} {cs : List Value} {u : Value} (hi : l[i]? = some cs) (hu : u.oneCell' = true) : Rows1 s (l.set i (cs.set f u)) := by
  intro c hm
  rcases List.mem_or_eq_of_mem_set hm with hm | rfl
  · exact h c hm
  · have hc := h cs (List.mem_of_getElem? hi)
    refine ⟨by rw [List.length_set]; exact hc.1, fun x hx => ?_⟩
    rcases List.mem_or_eq_of_mem_set hx with hx | rfl
    · exact hc.2 x hx
    · exact hu
/-- a store into one of its cells -/
theorem OwnP.store {w : World} {base : Nat} {T : TypeId} {g n c : Nat} {s : Nat} {l : List (List Value)} (h : OwnP w base T (.slice (some ⟨g, 0, none⟩) n c) s l) {i f : Nat} {cs : List Value} (hi : l[i]? = some cs) (hf : f < s) {u : Value} (hu : u.oneCell' = true) :
    OwnP (w.setCell ⟨g, i * s + f, none⟩ u) base T (.slice (some ⟨g, 0, none⟩) n c) s (l.set i (cs.set f u)) := by
  rcases h.forms with ⟨h1, _⟩ | ⟨g', cap, cur, h1, hb, hg, h2, h3, h4, h5⟩
  · cases h1
  · obtain ⟨e1, rfl, rfl⟩ := Value.slice.inj h1
    obtain ⟨rfl, _⟩ := Addr.mk.inj (Option.some.inj e1)
    have hl : (l.set i (cs.set f u)).length = l.length := List.length_set
    have hil : i < l.length := (List.getElem?_eq_some_iff.1 hi).1
    have := OwnP.of_form (w := w.setCell ⟨g, i * s + f, none⟩ u) (T := T) (base := base) (g := g) (cap := c) (cur := cur.setIfInBounds (i * s + f) u) (h.1.set (f := f) (u := u) hi hu) hb (Go.Lib.heap_setCell_same hg u) (by rw [hl]; exact h2) h3 (by simpa using h4) (by
      rw [hl, flat_set h.1 u hi hf, ← h5]
      simp only [Array.toList_setIfInBounds]
      rw [List.take_set])
    rw [hl] at this
    exact this
/-- the words of a slice's element type -/
structure ElemT (P : Program) (ST T : TypeId) (s bytes : Nat) : Prop where
  under : P.underlying ST = some (.slice T)
  info : ∃ z, (P.info? T).map (fun i => (i.zero, i.size, i.bytes)) = some (some z, s, bytes) ∧ z.cells.size = s
  pos : 0 < s
theorem run_append_rows {P : Program} {ST T : TypeId} {s bytes : Nat} (E : ElemT P ST T s bytes) {w : World} (base : Nat) (ty : TypeId) {v u : Value} {R L : List (List Value)} (hv : OwnP w base T v s R) (hu : RowsP w u s L)
    (h63 : R.length + L.length ≤ maxLen) (hbytes : (R.length + L.length) * bytes ≤ 140737488355328) (hbase : base ≤ w.heap.size) :
    ∃ v' w', (Builtin.append_ #[ST, ST] ty #[v, u]).run P w = .ok v' w' ∧ OwnP w' base T v' s (R ++ L) ∧ w.grownBy w' v.ownBlock ∧ (v'.ownBlock = v.ownBlock ∨ v'.ownBlock = some w.heap.size) ∧ ((L ≠ [] ∨ v ≠ .slice none 0 0) → v' ≠ .slice none 0 0) := by
  obtain ⟨z, hinfo, hz⟩ := E.info
  obtain ⟨i0, hi, hz0, hz1, hz2⟩ := info_parts hinfo
  obtain ⟨h1, h2⟩ := hu
  rcases h2 with ⟨rfl | ⟨a, c, rfl, hc⟩, rfl⟩ | ⟨b, off, c, rfl, h4, h5, h6⟩
  · refine ⟨v, w, run_append_owned_none w base ST ty T i0 s E.under hi v R.length R.flatten hv.2, by rw [List.append_nil]; exact hv, ⟨rfl, rfl, rfl, Nat.le_refl _, fun _ _ _ => rfl⟩, .inl rfl, fun h => h.elim (fun h => absurd rfl h) id⟩
  · obtain ⟨v', w', hr, ho, hg, hn, hb⟩ := run_append_own_at (P := P) w base ST ty T i0 z s bytes E.under hi hz0 hz1 hz2 hz E.pos v R.length R.flatten hv.2 a 0 c ([] : List Value) (by simp)
      (fun j y hj => by simp at hj) (fun u hu => by simp at hu) h63 hbytes hbase
    refine ⟨v', w', hr, ⟨hv.1.app h1, by rw [List.length_append, List.flatten_append]; exact ho⟩, hg, hb, fun h e => ?_⟩
    obtain ⟨e1, e2⟩ := hn.1 e
    rcases h with h | h
    · exact h rfl
    · exact h e1
  · obtain ⟨v', w', hr, ho, hg, hn, hb⟩ := run_append_own_at (P := P) w base ST ty T i0 z s bytes E.under hi hz0 hz1 hz2 hz E.pos v R.length R.flatten hv.2 ⟨b, off, none⟩ L.length c L.flatten (flat_len h1)
      (fun j y hj => by rw [Go.WideShapes.add_plain]; exact h6 j y hj) (flat_one h1) h63 hbytes hbase
    refine ⟨v', w', hr, ⟨hv.1.app h1, by rw [List.length_append, List.flatten_append]; exact ho⟩, hg, hb, fun h e => ?_⟩
    obtain ⟨e1, e2⟩ := hn.1 e
    rcases h with h | h
    · exact h (List.eq_nil_of_length_eq_zero e2)
    · exact h e1
/-- append, at a plain region's list -/
theorem wpList_append_rows {P : Program} {ST T : TypeId} {s bytes : Nat} (E : ElemT P ST T s bytes) {w : World} {ops : Array Oper} {rest : List Oper} {o : Oper} {a : Act} {Q : Exit → Act → World → Prop} (hgd : o.guard = none) (so xo : Operand)
    (ho : o.op = .call { callee := .builtin .append, args := #[so, xo], argTypes := #[ST, ST] })
    (base : Nat) (v u : Value) (R L : List (List Value)) (hs : a.eval so = v) (hown : OwnP w base T v s R) (hx : a.eval xo = u) (hu : RowsP w u s L)
    (h63 : R.length + L.length ≤ maxLen) (hbytes : (R.length + L.length) * bytes ≤ 140737488355328) (hbase : base ≤ w.heap.size)
    (h : ∀ v' w', OwnP w' base T v' s (R ++ L) → w.grownBy w' v.ownBlock → (v'.ownBlock = v.ownBlock ∨ v'.ownBlock = some w.heap.size) → ((L ≠ [] ∨ v ≠ .slice none 0 0) → v' ≠ .slice none 0 0) → wpList P ops Q rest (a.put o.dst v') w') :
    wpList P ops Q (o :: rest) a w := by
  obtain ⟨v', w', hr, h2, h3, h4, h5⟩ := run_append_rows E base o.type hown hu h63 hbytes hbase
  refine wpList_plain hgd fun K hK => ?_
  unfold Oper.wp execOp
  simp only [ho, resolve, invoke, builtin, Sem.run_bind, Sem.run_pure, Result.andThen_ok, List.map_toArray, List.map_cons, List.map_nil, hs, hx, hr]
  exact hK _ _ (h v' w' h2 h3 h4 h5)
/-- append, at a step of a region that draws -/
theorem step_append_rows {P : Program} {ST T : TypeId} {s bytes : Nat} (E : ElemT P ST T s bytes) {w : World} {ops : Array Oper} {o : Oper} {a : Act} {K : Act → World → Prop} {Q : Exit → Act → World → Prop} {F : Prop} (hgd : o.guard = none) (so xo : Operand)
    (ho : o.op = .call { callee := .builtin .append, args := #[so, xo], argTypes := #[ST, ST] })
    (base : Nat) (v u : Value) (R L : List (List Value)) (hs : a.eval so = v) (hown : OwnP w base T v s R) (hx : a.eval xo = u) (hu : RowsP w u s L)
    (h63 : R.length + L.length ≤ maxLen) (hbytes : (R.length + L.length) * bytes ≤ 140737488355328) (hbase : base ≤ w.heap.size)
    (h : ∀ v' w', OwnP w' base T v' s (R ++ L) → w.grownBy w' v.ownBlock → (v'.ownBlock = v.ownBlock ∨ v'.ownBlock = some w.heap.size) → ((L ≠ [] ∨ v ≠ .slice none 0 0) → v' ≠ .slice none 0 0) → K (a.put o.dst v') w') :
    if Region.wanted o (yielded ops a.tmps) = true then Oper.wp P o a w K Q else F := by
  have hw : Region.wanted o (yielded ops a.tmps) = true := by simp [Region.wanted, hgd]
  rw [if_pos hw]
  obtain ⟨v', w', hr, h2, h3, h4, h5⟩ := run_append_rows E base o.type hown hu h63 hbytes hbase
  unfold Oper.wp execOp
  simp only [ho, resolve, invoke, builtin, Sem.run_bind, Sem.run_pure, Result.andThen_ok, List.map_toArray, List.map_cons, List.map_nil, hs, hx, hr]
  exact h v' w' h2 h3 h4 h5
/-- one row that lies in a block of its own -/
theorem rows_of_block {w : World} {g : Nat} {cs : Array Value} {T : TypeId} {fr : Nat × Nat} {s : Nat} (h : w.heap[g]? = some (.cells cs T fr)) (hs : cs.size = s) (h1 : ∀ u ∈ cs.toList, u.oneCell' = true) : RowsP w (.slice (some ⟨g, 0, none⟩) 1 1) s [cs.toList] := by
  refine ⟨Rows1.one (by simpa using hs) h1, .inr ⟨g, 0, 1, rfl, Nat.le_refl _, by unfold maxLen; omega, fun j u hu => ?_⟩⟩
  simpa [World.cell?, h] using hu
theorem grown_ext {w w' : World} {row : Option Nat} {B : Nat} {a : World} (e : Below B a w) (h : w.grownBy w' row) (hr : ∀ b, row = some b → B ≤ b) (hB : B ≤ w.heap.size) : Below B a w' := Below.grown e h hB hr
/-- a slice expression on the first k of a slice -/
theorem run_take {P : Program} {ST T : TypeId} {s bytes : Nat} (E : ElemT P ST T s bytes) (w : World) (q : Option Addr) (n c k : Nat) (hk : k ≤ c) (_hc : c ≤ maxLen) : (Instr.slice ST (.slice q n c) none (some (.int .i64 k)) none).run P w = .ok (.slice q k c) w := by
  obtain ⟨z, hinfo, _⟩ := E.info
  obtain ⟨i0, hi, hz0, hz1, hz2⟩ := info_parts hinfo
  have hel : P.elem ST = T := by simp [Program.elem, E.under]
  have hsz : (sizeOf (P.elem ST)).run P w = .ok s w := by rw [hel]; simp [sizeOf, typeInfo, hi, hz1]
  unfold maxLen at _hc
  rw [run_slice_h w ST q n c (by rw [hel]; exact E.under) .i64 k (by omega) (by omega), hsz]
  simp [sliced]
  intro _
  cases q <;> simp [Addr.add]
theorem flat1 {l : List (List Value)} (h : Rows1 1 l) : l.flatten.length = l.length := by rw [flat_len h, Nat.mul_one]
theorem flat1_drop : ∀ {l : List (List Value)}, Rows1 1 l → ∀ k, (l.drop k).flatten = l.flatten.drop k
  | [], _, k => by simp
  | c :: l, h, 0 => by simp
  | c :: l, h, k + 1 => by
    have h1 := (h c (.head _)).1
    have ih := flat1_drop (l := l) (fun cs hm => h cs (.tail _ hm)) k
    have e1 : c.drop (k + 1) = [] := List.drop_of_length_le (by rw [h1]; omega)
    have e2 : k + 1 - 1 = k := by omega
    rw [List.drop_succ_cons, List.flatten_cons, List.drop_append, h1, e1, e2, ih, List.nil_append]
/-- copy, between slices of one-cell elements: the target a row of the call's own -/
theorem wpList_copy_rows {P : Program} {ST T : TypeId} {bytes : Nat} (E : ElemT P ST T 1 bytes) {w : World} {ops : Array Oper} {rest : List Oper} {o : Oper} {a : Act} {Q : Exit → Act → World → Prop} (hgd : o.guard = none) (d s : Operand)
    (ho : o.op = .call { callee := .builtin .copy, args := #[d, s], argTypes := #[ST, ST] }) (base : Nat) (v u : Value) (D L : List (List Value)) (hd : a.eval d = v) (hown : OwnP w base T v 1 D) (hs : a.eval s = u) (hu : RowsP w u 1 L)
    (h : ∀ w', OwnP w' base T v 1 (L.take (Nat.min L.length D.length) ++ D.drop (Nat.min L.length D.length)) → w.grownBy w' v.ownBlock → w'.heap.size = w.heap.size → wpList P ops Q rest (a.put o.dst (goInt (Nat.min L.length D.length))) w') :
    wpList P ops Q (o :: rest) a w := by
  obtain ⟨z, hinfo, hz⟩ := E.info
  obtain ⟨i0, hi, hz0, hz1, hz2⟩ := info_parts hinfo
  have hsz : (P.info? T).map (·.size) = some 1 := by rw [hi]; simp [hz1]
  obtain ⟨dp, dCap, rfl, _, _⟩ := hown.len
  have hu' := hu
  obtain ⟨h1, h2⟩ := hu
  obtain ⟨sp, sCap, rfl, _, _, _⟩ := hu'.at
  have hle1 : Nat.min L.length D.length ≤ L.length := Nat.min_le_left _ _
  have hle2 : Nat.min L.length D.length ≤ D.length := Nat.min_le_right _ _
  generalize hm : Nat.min L.length D.length = m at *
  by_cases h0 : m = 0
  · subst h0
    refine wpList_copy_nothing hgd d s ST ST ho T E.under hsz dp sp D.length dCap L.length sCap hd hs hm ?_
    exact h w (by simpa using hown) ⟨rfl, rfl, rfl, Nat.le_refl _, fun _ _ _ => rfl⟩ rfl
  · rcases h2 with ⟨_, rfl⟩ | ⟨b, off, c, e1, h4, h5, h6⟩
    · simp at hle1; omega
    · obtain ⟨rfl, _, rfl⟩ := Value.slice.inj e1
      rcases hown.forms with ⟨_, rfl⟩ | ⟨g, cap, cur, e2, hb, hg, k2, k3, k4, k5⟩
      · simp at hle2; omega
      · obtain ⟨rfl, _, rfl⟩ := Value.slice.inj e2
        have hcl : (L.take m).flatten.length = m := by rw [flat1 (h1.take m), List.length_take]; omega
        have hcs : cur.size = dCap := by rw [k4, Nat.mul_one]
        rw [Nat.mul_one] at k5
        refine wpList_copy_own hgd d s ST ST ho T E.under hsz g 0 D.length dCap ⟨b, off, none⟩ L.length sCap hd hs cur T hg (L.take m).flatten (by rw [hcl, ← hm]) (fun j v hj => ?_) (by omega) (flat_one (h1.take m)) ?_
        · rw [Go.WideShapes.add_plain]
          rw [flat_take h1, Nat.mul_one] at hj
          have hjm : j < m := by
            have := (List.getElem?_eq_some_iff.1 hj).1
            rw [List.length_take] at this; omega
          rw [List.getElem?_take_of_lt hjm] at hj
          exact h6 j v hj
        · rw [hcl]
          have hnl : (L.take m ++ D.drop m).length = D.length := by rw [List.length_append, List.length_take, List.length_drop]; omega
          have hnew : OwnP (w.setRow g (cur.toList.take 0 ++ ((L.take m).flatten ++ cur.toList.drop (0 + (L.take m).flatten.length))).toArray) base T (.slice (some ⟨g, 0, none⟩) (L.take m ++ D.drop m).length dCap) 1 (L.take m ++ D.drop m) := by
            refine OwnP.of_form ((h1.take m).app (hown.1.drop m)) hb (setRow_heap w g _ _ T _ hg) (by rw [hnl]; exact k2) k3 ?_ ?_
            · generalize (L.take m).flatten = X at *
              simp; omega
            · rw [hnl, Nat.mul_one, List.flatten_append, flat1_drop hown.1, ← k5]
              simp only [List.take_zero, List.nil_append, Nat.zero_add]
              rw [List.take_append, hcl, List.take_of_length_le (by rw [hcl]; exact hle2), List.drop_take]
          rw [hnl, hcl] at hnew
          refine h _ hnew ⟨rfl, rfl, rfl, by simp [World.setRow], fun k hk hne => ?_⟩ (by simp [World.setRow])
          exact setRow_other w g k _ (by intro e; subst e; exact hne rfl)
theorem flat_rep (n : Nat) (z : Value) : (List.replicate n [z]).flatten = List.replicate n z := by
  induction n with
  | zero => rfl
  | succ n ih => rw [List.replicate_succ, List.flatten_cons, ih, List.replicate_succ]; rfl
/-- a row that was just made -/
theorem made_own (w : World) (T : TypeId) (z : Value) (n base : Nat) (h1 : z.oneCell' = true) (hb : base ≤ w.heap.size) (hm : n ≤ maxLen) : OwnP (w.alloc (.cells (madeCells #[z] n) T)) base T (.slice (some ⟨w.heap.size, 0, none⟩) n n) 1 (List.replicate n [z]) := by
  have hr : Rows1 1 (List.replicate n [z]) := by
    intro cs hm
    obtain ⟨_, rfl⟩ := List.mem_replicate.1 hm
    exact ⟨rfl, fun u hu => by rw [List.mem_singleton] at hu; subst hu; exact h1⟩
  have := OwnP.of_form (T := T) (base := base) (cap := n) hr hb (heap_alloc_new w (.cells (madeCells #[z] n) T)) (by simp) hm (by rw [size_madeCells]; omega) (by
    rw [toList_madeCells_one, flat_rep, List.length_replicate, Nat.mul_one, List.take_of_length_le (by simp)])
  rw [List.length_replicate] at this
  exact this
theorem made_at {w : World} {T : TypeId} {z : Value} {n base g : Nat} (h1 : z.oneCell' = true) (hg : w.heap.size = g) (hb : base ≤ g) (hm : n ≤ maxLen) : OwnP (w.alloc (.cells (madeCells #[z] n) T)) base T (.slice (some ⟨g, 0, none⟩) n n) 1 (List.replicate n [z]) := by
  subst hg; exact made_own w T z n base h1 hb hm
theorem grown3 {w w' : World} {o0 o1 o2 : Obj} {g : Nat} (h : World.grownBy (((w.alloc o0).alloc o1).alloc o2) w' (some g)) (hg : g = w.heap.size + 1 + 1) : Ext w w' ∧ w.heap.size + 1 + 1 + 1 ≤ w'.heap.size ∧ w'.heap[w.heap.size]? = some o0 ∧ w'.heap[w.heap.size + 1]? = some o1 := by
  obtain ⟨e, s, b0, b1, b2⟩ := blocks3 w o0 o1 o2
  have hs := h.size
  rw [s] at hs
  exact ⟨Below.grown e h (by rw [s]; omega) (fun b hb => by cases hb; omega), hs, (h.block _ (by rw [s]; omega) (by simp; omega)).trans b0, (h.block _ (by rw [s]; omega) (by simp; omega)).trans b1⟩
/-- a call at a world of which this is known -/
theorem at_gen {P : Program} {f : FuncId} {args : Array Value} {w : World} {Q : Ending → World → Prop} (F : World → Prop) (hF : F w) (h : ∀ W, F W → Calls P f args W Q) : Calls P f args w Q := h w hF
theorem grown_of_ext {w w' : World} (h : Ext w w') (row : Option Nat) : w.grownBy w' row := ⟨Below.os h, Below.tape h, Below.output h, Below.size h, fun k hk _ => Below.block h k hk⟩
theorem grown_turn {w w' : World} {row : Option Nat} {bs : List Nat} (h : w.grownBy w' row) (hr : ∀ b, row = some b → b ∈ bs) : Turn bs w w' := Turn.of_grown h fun b hb => .inl (hr b hb)
theorem grown_block {w w' : World} {row : Option Nat} {k : Nat} {o : Obj} (g : w.grownBy w' row) (h : w.heap[k]? = some o) (hn : row ≠ some k) : w'.heap[k]? = some o := by
  rw [g.block k (Array.getElem?_eq_some_iff.1 h).1 (fun e => hn e.symm)]; exact h
theorem own_any {q : Option Addr} {n c m d b : Nat} (h : (Value.slice q n c).ownBlock = some b) : (Value.slice q m d).ownBlock = some b := by cases q <;> exact h
theorem Ext.go {w w1 w2 : World} {B : Nat} (h : Ext w w1) (k : Below B w1 w2) (hB : w.heap.size ≤ B) : Ext w w2 := Below.trans h (Below.mono k hB)
end Go.Proofs.YtgiopklnielglaaDoor
/- Words as rows (over Sli), beside Words. -/
namespace Go.Proofs.YtgiopklnielglaaDoor
open Go.RowKit Go.Maps
set_option maxHeartbeats 2000000
set_option maxRecDepth 100000
def wordC (x : Int) : List Value := [.int .u64 x]
theorem wordC_rows (S : List Int) : Rows1 1 (S.map wordC) := by
  intro cs hm
  obtain ⟨x, _, rfl⟩ := List.mem_map.1 hm
  exact ⟨rfl, fun u hu => by simp [wordC] at hu; subst hu; rfl⟩
theorem wordC_flat (S : List Int) : (S.map wordC).flatten = S.map fun x => Value.int .u64 x := by
  induction S with
  | nil => rfl
  | cons x S ih => rw [List.map_cons, List.flatten_cons, ih]; rfl
theorem E64 : ElemT Tryd.prog 29 32 1 8 := ⟨Tryd.underlying29, ⟨.int .u64 0, by kernel_rfl, rfl⟩, by decide⟩
theorem WordSl.of_rows {w : World} {v : Value} {l : List Int} (h : RowsP w v 1 (l.map wordC)) : WordSl w v l := by
  obtain ⟨q, c, rfl, h1, h2, hc⟩ := h.at
  rw [List.length_map] at h1 ⊢
  refine ⟨q, c, rfl, h1, h2, fun i x hx => ?_⟩
  obtain ⟨b, off, hq, hcc⟩ := hc i (wordC x) (by rw [List.getElem?_map, hx]; rfl)
  have := hcc 0 _ rfl
  rw [Nat.add_zero, Nat.mul_one] at this
  exact ⟨b, off, hq, this⟩
theorem mk_u64s (k : Nat) (hk : k ≤ 1000000) (W : World) : (Instr.makeSlice 29 (.int .i64 k) (.int .i64 k)).run Tryd.prog W = .ok (.slice (some ⟨W.heap.size, 0, none⟩) k k) (W.alloc (.cells (madeCells #[.int .u64 0] k) 32)) := by
  obtain ⟨i0, hi, hz0, hz1, hz2⟩ := info_parts (show (Tryd.prog.info? 32).map (fun i => (i.zero, i.size, i.bytes)) = some (some (.int .u64 0), 1, 8) by kernel_rfl)
  have h := run_makeSlice (P := Tryd.prog) (w := W) 29 32 i0 (.int .u64 0) Tryd.underlying29 hi hz0 .i64 .i64 (k : Int) (k : Int) (by omega) (by omega) (by rw [hz1]; omega) (by rw [hz2]; omega) (by omega)
  rw [hz1, Nat.mul_one] at h
  exact h
end Go.Proofs.YtgiopklnielglaaDoor
/- Words of slices: as Wd2 and Words have them. -/
/-
  DERIVED: THE SHELF's CONTRACTS AT THIS DUMP, IN PLAIN WORDS (tools/lay-plain.mjs out of 'TrydFrmShelf.lean', which tools/lay-shelf.mjs wrote): THE SAME DECLARATIONS UNDER THE SAME NAMES: 'import', 'namespace', 'open', 'def', 'theorem' AND NOTHING ELSE: no command of the shelf's: FOR A HAND-IN. Each laying: the table of numbers ('.._ren') and one theorem, a field a fact of the dump's own or the kernel's comparison; each contract: ONE APPLICATION.
-/
namespace Go.Proofs
open Go.Shelf
def Tryd.clonewA_ren : Go.Shelf.Ren := ⟨fun | 41 => 19 | n => n, fun | 22 => 29 | 23 => 32 | 4 => 4 | n => n, fun | n => n⟩
theorem Tryd.clonewA : Go.Proofs.SlLaysE0.n41 Tryd.prog Tryd.clonewA_ren := {
  mixed := by kernel_rfl
  f41 := ⟨Tryd.f19.name, by decide, Tryd.func19.trans (congrArg some (by kernel_rfl))⟩
  t4 := Tryd.underlying4
  a4 := Tryd.isAgg4
  z4 := Tryd.sizeOf4
  v4 := Tryd.zeroValue4
  t22 := Tryd.underlying29
  a22 := Tryd.isAgg29
  z22 := Tryd.sizeOf29
  v22 := Tryd.zeroValue29 }
def Tryd.clonefA_ren : Go.Shelf.Ren := ⟨fun | 41 => 37 | n => n, fun | 22 => 30 | 23 => 55 | 4 => 4 | n => n, fun | n => n⟩
theorem Tryd.clonefA : Go.Proofs.SlLaysE0.n41 Tryd.prog Tryd.clonefA_ren := {
  mixed := by kernel_rfl
  f41 := ⟨Tryd.f37.name, by decide, Tryd.func37.trans (congrArg some (by kernel_rfl))⟩
  t4 := Tryd.underlying4
  a4 := Tryd.isAgg4
  z4 := Tryd.sizeOf4
  v4 := Tryd.zeroValue4
  t22 := Tryd.underlying30
  a22 := Tryd.isAgg30
  z22 := Tryd.sizeOf30
  v22 := Tryd.zeroValue30 }
def Tryd.clonehA_ren : Go.Shelf.Ren := ⟨fun | 41 => 38 | n => n, fun | 22 => 31 | 23 => 53 | 4 => 4 | n => n, fun | n => n⟩
theorem Tryd.clonehA : Go.Proofs.SlLaysE0.n41 Tryd.prog Tryd.clonehA_ren := {
  mixed := by kernel_rfl
  f41 := ⟨Tryd.f38.name, by decide, Tryd.func38.trans (congrArg some (by kernel_rfl))⟩
  t4 := Tryd.underlying4
  a4 := Tryd.isAgg4
  z4 := Tryd.sizeOf4
  v4 := Tryd.zeroValue4
  t22 := Tryd.underlying31
  a22 := Tryd.isAgg31
  z22 := Tryd.sizeOf31
  v22 := Tryd.zeroValue31 }
end Go.Proofs
/- A whole block stored anew, cell by cell: the world behind it under one letter. -/
namespace Go.Proofs.YtgiopklnielglaaDoor
open Go.RowKit
theorem wp_gen {P : Program} {c : Code} {Q : Exit → Act → World → Prop} {a : Act} {w : World} (F : World → Prop) (hF : F w) (h : ∀ W, F W → Code.wp P c Q a W) : Code.wp P c Q a w := h w hF
theorem list_gen {P : Program} {ops : Array Oper} {rest : List Oper} {Q : Exit → Act → World → Prop} {a : Act} {w : World} (F : World → Prop) (hF : F w) (h : ∀ W, F W → wpList P ops Q rest a W) : wpList P ops Q rest a w := h w hF
theorem wp_alloc1 {P : Program} {c : Code} {Q : Exit → Act → World → Prop} {a : Act} {w : World} {o : Obj} (h : ∀ W : World, Ext w W → W.heap.size = w.heap.size + 1 → W.heap[w.heap.size]? = some o → Code.wp P c Q a W) : Code.wp P c Q a (w.alloc o) :=
  h _ (blocks1 w o).1 (blocks1 w o).2.1 (blocks1 w o).2.2
theorem wp_alloc2 {P : Program} {c : Code} {Q : Exit → Act → World → Prop} {a : Act} {w : World} {o o' : Obj} (h : ∀ W : World, Ext w W → W.heap.size = w.heap.size + 1 + 1 → W.heap[w.heap.size]? = some o → W.heap[w.heap.size + 1]? = some o' → Code.wp P c Q a W) : Code.wp P c Q a ((w.alloc o).alloc o') :=
  h _ (blocks2 w o o').1 (blocks2 w o o').2.1 (blocks2 w o o').2.2.1 (blocks2 w o o').2.2.2
/-- one cell of a known block stored -/
theorem fill1 {w : World} {b i : Nat} {cs : Array Value} {T : TypeId} (h : w.heap[b]? = some (.cells cs T (0, 0))) (y : Value) : (w.setCell ⟨b, i, none⟩ y).heap[b]? = some (.cells (cs.setIfInBounds i y) T (0, 0)) ∧ Turn [b] w (w.setCell ⟨b, i, none⟩ y) ∧ (w.setCell ⟨b, i, none⟩ y).heap.size = w.heap.size :=
  ⟨Go.Lib.heap_setCell_same h y, (Turn.refl _ _).setCell (.inl (by simp)) _, by simp⟩
theorem calls_fill1 {P : Program} {f : FuncId} {args : Array Value} {w : World} {Q : Ending → World → Prop} {b i : Nat} {cs : Array Value} {T : TypeId} {y : Value} (h0 : w.heap[b]? = some (.cells cs T (0, 0))) (h : ∀ W : World, W.heap[b]? = some (.cells (cs.setIfInBounds i y) T (0, 0)) → Turn [b] w W → W.heap.size = w.heap.size → Calls P f args W Q) : Calls P f args (w.setCell ⟨b, i, none⟩ y) Q :=
  h _ (fill1 h0 y).1 (fill1 h0 y).2.1 (fill1 h0 y).2.2
theorem wp_fill1 {P : Program} {c : Code} {Q : Exit → Act → World → Prop} {a : Act} {w : World} {b i : Nat} {cs : Array Value} {T : TypeId} {y : Value} (h0 : w.heap[b]? = some (.cells cs T (0, 0))) (h : ∀ W : World, W.heap[b]? = some (.cells (cs.setIfInBounds i y) T (0, 0)) → Turn [b] w W → W.heap.size = w.heap.size → Code.wp P c Q a W) : Code.wp P c Q a (w.setCell ⟨b, i, none⟩ y) :=
  h _ (fill1 h0 y).1 (fill1 h0 y).2.1 (fill1 h0 y).2.2
theorem fill2 {w : World} {b : Nat} {x0 x1 : Value} {T : TypeId} (h : w.heap[b]? = some (.cells #[x0, x1] T (0, 0))) (y0 y1 : Value) : ((w.setCell ⟨b, 0, none⟩ y0).setCell ⟨b, 1, none⟩ y1).heap[b]? = some (.cells #[y0, y1] T (0, 0)) ∧ Turn [b] w ((w.setCell ⟨b, 0, none⟩ y0).setCell ⟨b, 1, none⟩ y1) ∧ ((w.setCell ⟨b, 0, none⟩ y0).setCell ⟨b, 1, none⟩ y1).heap.size = w.heap.size := by
  refine ⟨by simp [World.setCell, Array.getElem?_modify, h], ?_, by simp only [World.size_setCell]⟩
  iterate 2 refine Turn.setCell ?_ (.inl (by simp)) _
  exact Turn.refl _ _
theorem calls_fill2 {P : Program} {f : FuncId} {args : Array Value} {w : World} {Q : Ending → World → Prop} {b : Nat} {x0 x1 y0 y1 : Value} {T : TypeId} (h0 : w.heap[b]? = some (.cells #[x0, x1] T (0, 0))) (h : ∀ W : World, W.heap[b]? = some (.cells #[y0, y1] T (0, 0)) → Turn [b] w W → W.heap.size = w.heap.size → Calls P f args W Q) : Calls P f args ((w.setCell ⟨b, 0, none⟩ y0).setCell ⟨b, 1, none⟩ y1) Q :=
  h _ (fill2 h0 _ _).1 (fill2 h0 _ _).2.1 (fill2 h0 _ _).2.2
theorem wp_fill2 {P : Program} {c : Code} {Q : Exit → Act → World → Prop} {a : Act} {w : World} {b : Nat} {x0 x1 y0 y1 : Value} {T : TypeId} (h0 : w.heap[b]? = some (.cells #[x0, x1] T (0, 0))) (h : ∀ W : World, W.heap[b]? = some (.cells #[y0, y1] T (0, 0)) → Turn [b] w W → W.heap.size = w.heap.size → Code.wp P c Q a W) : Code.wp P c Q a ((w.setCell ⟨b, 0, none⟩ y0).setCell ⟨b, 1, none⟩ y1) :=
  h _ (fill2 h0 _ _).1 (fill2 h0 _ _).2.1 (fill2 h0 _ _).2.2
theorem fill3 {w : World} {b : Nat} {x0 x1 x2 : Value} {T : TypeId} (h : w.heap[b]? = some (.cells #[x0, x1, x2] T (0, 0))) (y0 y1 y2 : Value) : (((w.setCell ⟨b, 0, none⟩ y0).setCell ⟨b, 1, none⟩ y1).setCell ⟨b, 2, none⟩ y2).heap[b]? = some (.cells #[y0, y1, y2] T (0, 0)) ∧ Turn [b] w (((w.setCell ⟨b, 0, none⟩ y0).setCell ⟨b, 1, none⟩ y1).setCell ⟨b, 2, none⟩ y2) ∧ (((w.setCell ⟨b, 0, none⟩ y0).setCell ⟨b, 1, none⟩ y1).setCell ⟨b, 2, none⟩ y2).heap.size = w.heap.size := by
  refine ⟨by simp [World.setCell, Array.getElem?_modify, h], ?_, by simp only [World.size_setCell]⟩
  iterate 3 refine Turn.setCell ?_ (.inl (by simp)) _
  exact Turn.refl _ _
theorem calls_fill3 {P : Program} {f : FuncId} {args : Array Value} {w : World} {Q : Ending → World → Prop} {b : Nat} {x0 x1 x2 y0 y1 y2 : Value} {T : TypeId} (h0 : w.heap[b]? = some (.cells #[x0, x1, x2] T (0, 0))) (h : ∀ W : World, W.heap[b]? = some (.cells #[y0, y1, y2] T (0, 0)) → Turn [b] w W → W.heap.size = w.heap.size → Calls P f args W Q) : Calls P f args (((w.setCell ⟨b, 0, none⟩ y0).setCell ⟨b, 1, none⟩ y1).setCell ⟨b, 2, none⟩ y2) Q :=
  h _ (fill3 h0 _ _ _).1 (fill3 h0 _ _ _).2.1 (fill3 h0 _ _ _).2.2
theorem wp_fill3 {P : Program} {c : Code} {Q : Exit → Act → World → Prop} {a : Act} {w : World} {b : Nat} {x0 x1 x2 y0 y1 y2 : Value} {T : TypeId} (h0 : w.heap[b]? = some (.cells #[x0, x1, x2] T (0, 0))) (h : ∀ W : World, W.heap[b]? = some (.cells #[y0, y1, y2] T (0, 0)) → Turn [b] w W → W.heap.size = w.heap.size → Code.wp P c Q a W) : Code.wp P c Q a (((w.setCell ⟨b, 0, none⟩ y0).setCell ⟨b, 1, none⟩ y1).setCell ⟨b, 2, none⟩ y2) :=
  h _ (fill3 h0 _ _ _).1 (fill3 h0 _ _ _).2.1 (fill3 h0 _ _ _).2.2
theorem fill4 {w : World} {b : Nat} {x0 x1 x2 x3 : Value} {T : TypeId} (h : w.heap[b]? = some (.cells #[x0, x1, x2, x3] T (0, 0))) (y0 y1 y2 y3 : Value) : ((((w.setCell ⟨b, 0, none⟩ y0).setCell ⟨b, 1, none⟩ y1).setCell ⟨b, 2, none⟩ y2).setCell ⟨b, 3, none⟩ y3).heap[b]? = some (.cells #[y0, y1, y2, y3] T (0, 0)) ∧ Turn [b] w ((((w.setCell ⟨b, 0, none⟩ y0).setCell ⟨b, 1, none⟩ y1).setCell ⟨b, 2, none⟩ y2).setCell ⟨b, 3, none⟩ y3) ∧ ((((w.setCell ⟨b, 0, none⟩ y0).setCell ⟨b, 1, none⟩ y1).setCell ⟨b, 2, none⟩ y2).setCell ⟨b, 3, none⟩ y3).heap.size = w.heap.size := by
  refine ⟨by simp [World.setCell, Array.getElem?_modify, h], ?_, by simp only [World.size_setCell]⟩
  iterate 4 refine Turn.setCell ?_ (.inl (by simp)) _
  exact Turn.refl _ _
theorem calls_fill4 {P : Program} {f : FuncId} {args : Array Value} {w : World} {Q : Ending → World → Prop} {b : Nat} {x0 x1 x2 x3 y0 y1 y2 y3 : Value} {T : TypeId} (h0 : w.heap[b]? = some (.cells #[x0, x1, x2, x3] T (0, 0))) (h : ∀ W : World, W.heap[b]? = some (.cells #[y0, y1, y2, y3] T (0, 0)) → Turn [b] w W → W.heap.size = w.heap.size → Calls P f args W Q) : Calls P f args ((((w.setCell ⟨b, 0, none⟩ y0).setCell ⟨b, 1, none⟩ y1).setCell ⟨b, 2, none⟩ y2).setCell ⟨b, 3, none⟩ y3) Q :=
  h _ (fill4 h0 _ _ _ _).1 (fill4 h0 _ _ _ _).2.1 (fill4 h0 _ _ _ _).2.2
theorem wp_fill4 {P : Program} {c : Code} {Q : Exit → Act → World → Prop} {a : Act} {w : World} {b : Nat} {x0 x1 x2 x3 y0 y1 y2 y3 : Value} {T : TypeId} (h0 : w.heap[b]? = some (.cells #[x0, x1, x2, x3] T (0, 0))) (h : ∀ W : World, W.heap[b]? = some (.cells #[y0, y1, y2, y3] T (0, 0)) → Turn [b] w W → W.heap.size = w.heap.size → Code.wp P c Q a W) : Code.wp P c Q a ((((w.setCell ⟨b, 0, none⟩ y0).setCell ⟨b, 1, none⟩ y1).setCell ⟨b, 2, none⟩ y2).setCell ⟨b, 3, none⟩ y3) :=
  h _ (fill4 h0 _ _ _ _).1 (fill4 h0 _ _ _ _).2.1 (fill4 h0 _ _ _ _).2.2
theorem fill5 {w : World} {b : Nat} {x0 x1 x2 x3 x4 : Value} {T : TypeId} (h : w.heap[b]? = some (.cells #[x0, x1, x2, x3, x4] T (0, 0))) (y0 y1 y2 y3 y4 : Value) : (((((w.setCell ⟨b, 0, none⟩ y0).setCell ⟨b, 1, none⟩ y1).setCell ⟨b, 2, none⟩ y2).setCell ⟨b, 3, none⟩ y3).setCell ⟨b, 4, none⟩ y4).heap[b]? = some (.cells #[y0, y1, y2, y3, y4] T (0, 0)) ∧ Turn [b] w (((((w.setCell ⟨b, 0, none⟩ y0).setCell ⟨b, 1, none⟩ y1).setCell ⟨b, 2, none⟩ y2).setCell ⟨b, 3, none⟩ y3).setCell ⟨b, 4, none⟩ y4) ∧ (((((w.setCell ⟨b, 0, none⟩ y0).setCell ⟨b, 1, none⟩ y1).setCell ⟨b, 2, none⟩ y2).setCell ⟨b, 3, none⟩ y3).setCell ⟨b, 4, none⟩ y4).heap.size = w.heap.size := by
  refine ⟨by simp [World.setCell, Array.getElem?_modify, h], ?_, by simp only [World.size_setCell]⟩
  iterate 5 refine Turn.setCell ?_ (.inl (by simp)) _
  exact Turn.refl _ _
theorem calls_fill5 {P : Program} {f : FuncId} {args : Array Value} {w : World} {Q : Ending → World → Prop} {b : Nat} {x0 x1 x2 x3 x4 y0 y1 y2 y3 y4 : Value} {T : TypeId} (h0 : w.heap[b]? = some (.cells #[x0, x1, x2, x3, x4] T (0, 0))) (h : ∀ W : World, W.heap[b]? = some (.cells #[y0, y1, y2, y3, y4] T (0, 0)) → Turn [b] w W → W.heap.size = w.heap.size → Calls P f args W Q) : Calls P f args (((((w.setCell ⟨b, 0, none⟩ y0).setCell ⟨b, 1, none⟩ y1).setCell ⟨b, 2, none⟩ y2).setCell ⟨b, 3, none⟩ y3).setCell ⟨b, 4, none⟩ y4) Q :=
  h _ (fill5 h0 _ _ _ _ _).1 (fill5 h0 _ _ _ _ _).2.1 (fill5 h0 _ _ _ _ _).2.2
theorem wp_fill5 {P : Program} {c : Code} {Q : Exit → Act → World → Prop} {a : Act} {w : World} {b : Nat} {x0 x1 x2 x3 x4 y0 y1 y2 y3 y4 : Value} {T : TypeId} (h0 : w.heap[b]? = some (.cells #[x0, x1, x2, x3, x4] T (0, 0))) (h : ∀ W : World, W.heap[b]? = some (.cells #[y0, y1, y2, y3, y4] T (0, 0)) → Turn [b] w W → W.heap.size = w.heap.size → Code.wp P c Q a W) : Code.wp P c Q a (((((w.setCell ⟨b, 0, none⟩ y0).setCell ⟨b, 1, none⟩ y1).setCell ⟨b, 2, none⟩ y2).setCell ⟨b, 3, none⟩ y3).setCell ⟨b, 4, none⟩ y4) :=
  h _ (fill5 h0 _ _ _ _ _).1 (fill5 h0 _ _ _ _ _).2.1 (fill5 h0 _ _ _ _ _).2.2
theorem fill6 {w : World} {b : Nat} {x0 x1 x2 x3 x4 x5 : Value} {T : TypeId} (h : w.heap[b]? = some (.cells #[x0, x1, x2, x3, x4, x5] T (0, 0))) (y0 y1 y2 y3 y4 y5 : Value) : ((((((w.setCell ⟨b, 0, none⟩ y0).setCell ⟨b, 1, none⟩ y1).setCell ⟨b, 2, none⟩ y2).setCell ⟨b, 3, none⟩ y3).setCell ⟨b, 4, none⟩ y4).setCell ⟨b, 5, none⟩ y5).heap[b]? = some (.cells #[y0, y1, y2, y3, y4, y5] T (0, 0)) ∧ Turn [b] w ((((((w.setCell ⟨b, 0, none⟩ y0).setCell ⟨b, 1, none⟩ y1).setCell ⟨b, 2, none⟩ y2).setCell ⟨b, 3, none⟩ y3).setCell ⟨b, 4, none⟩ y4).setCell ⟨b, 5, none⟩ y5) ∧ ((((((w.setCell ⟨b, 0, none⟩ y0).setCell ⟨b, 1, none⟩ y1).setCell ⟨b, 2, none⟩ y2).setCell ⟨b, 3, none⟩ y3).setCell ⟨b, 4, none⟩ y4).setCell ⟨b, 5, none⟩ y5).heap.size = w.heap.size := by
  refine ⟨by simp [World.setCell, Array.getElem?_modify, h], ?_, by simp only [World.size_setCell]⟩
  iterate 6 refine Turn.setCell ?_ (.inl (by simp)) _
  exact Turn.refl _ _
theorem calls_fill6 {P : Program} {f : FuncId} {args : Array Value} {w : World} {Q : Ending → World → Prop} {b : Nat} {x0 x1 x2 x3 x4 x5 y0 y1 y2 y3 y4 y5 : Value} {T : TypeId} (h0 : w.heap[b]? = some (.cells #[x0, x1, x2, x3, x4, x5] T (0, 0))) (h : ∀ W : World, W.heap[b]? = some (.cells #[y0, y1, y2, y3, y4, y5] T (0, 0)) → Turn [b] w W → W.heap.size = w.heap.size → Calls P f args W Q) : Calls P f args ((((((w.setCell ⟨b, 0, none⟩ y0).setCell ⟨b, 1, none⟩ y1).setCell ⟨b, 2, none⟩ y2).setCell ⟨b, 3, none⟩ y3).setCell ⟨b, 4, none⟩ y4).setCell ⟨b, 5, none⟩ y5) Q :=
  h _ (fill6 h0 _ _ _ _ _ _).1 (fill6 h0 _ _ _ _ _ _).2.1 (fill6 h0 _ _ _ _ _ _).2.2
theorem wp_fill6 {P : Program} {c : Code} {Q : Exit → Act → World → Prop} {a : Act} {w : World} {b : Nat} {x0 x1 x2 x3 x4 x5 y0 y1 y2 y3 y4 y5 : Value} {T : TypeId} (h0 : w.heap[b]? = some (.cells #[x0, x1, x2, x3, x4, x5] T (0, 0))) (h : ∀ W : World, W.heap[b]? = some (.cells #[y0, y1, y2, y3, y4, y5] T (0, 0)) → Turn [b] w W → W.heap.size = w.heap.size → Code.wp P c Q a W) : Code.wp P c Q a ((((((w.setCell ⟨b, 0, none⟩ y0).setCell ⟨b, 1, none⟩ y1).setCell ⟨b, 2, none⟩ y2).setCell ⟨b, 3, none⟩ y3).setCell ⟨b, 4, none⟩ y4).setCell ⟨b, 5, none⟩ y5) :=
  h _ (fill6 h0 _ _ _ _ _ _).1 (fill6 h0 _ _ _ _ _ _).2.1 (fill6 h0 _ _ _ _ _ _).2.2
theorem fill7 {w : World} {b : Nat} {x0 x1 x2 x3 x4 x5 x6 : Value} {T : TypeId} (h : w.heap[b]? = some (.cells #[x0, x1, x2, x3, x4, x5, x6] T (0, 0))) (y0 y1 y2 y3 y4 y5 y6 : Value) : (((((((w.setCell ⟨b, 0, none⟩ y0).setCell ⟨b, 1, none⟩ y1).setCell ⟨b, 2, none⟩ y2).setCell ⟨b, 3, none⟩ y3).setCell ⟨b, 4, none⟩ y4).setCell ⟨b, 5, none⟩ y5).setCell ⟨b, 6, none⟩ y6).heap[b]? = some (.cells #[y0, y1, y2, y3, y4, y5, y6] T (0, 0)) ∧ Turn [b] w (((((((w.setCell ⟨b, 0, none⟩ y0).setCell ⟨b, 1, none⟩ y1).setCell ⟨b, 2, none⟩ y2).setCell ⟨b, 3, none⟩ y3).setCell ⟨b, 4, none⟩ y4).setCell ⟨b, 5, none⟩ y5).setCell ⟨b, 6, none⟩ y6) ∧ (((((((w.setCell ⟨b, 0, none⟩ y0).setCell ⟨b, 1, none⟩ y1).setCell ⟨b, 2, none⟩ y2).setCell ⟨b, 3, none⟩ y3).setCell ⟨b, 4, none⟩ y4).setCell ⟨b, 5, none⟩ y5).setCell ⟨b, 6, none⟩ y6).heap.size = w.heap.size := by
  refine ⟨by simp [World.setCell, Array.getElem?_modify, h], ?_, by simp only [World.size_setCell]⟩
  iterate 7 refine Turn.setCell ?_ (.inl (by simp)) _
  exact Turn.refl _ _
theorem calls_fill7 {P : Program} {f : FuncId} {args : Array Value} {w : World} {Q : Ending → World → Prop} {b : Nat} {x0 x1 x2 x3 x4 x5 x6 y0 y1 y2 y3 y4 y5 y6 : Value} {T : TypeId} (h0 : w.heap[b]? = some (.cells #[x0, x1, x2, x3, x4, x5, x6] T (0, 0))) (h : ∀ W : World, W.heap[b]? = some (.cells #[y0, y1, y2, y3, y4, y5, y6] T (0, 0)) → Turn [b] w W → W.heap.size = w.heap.size → Calls P f args W Q) : Calls P f args (((((((w.setCell ⟨b, 0, none⟩ y0).setCell ⟨b, 1, none⟩ y1).setCell ⟨b, 2, none⟩ y2).setCell ⟨b, 3, none⟩ y3).setCell ⟨b, 4, none⟩ y4).setCell ⟨b, 5, none⟩ y5).setCell ⟨b, 6, none⟩ y6) Q :=
  h _ (fill7 h0 _ _ _ _ _ _ _).1 (fill7 h0 _ _ _ _ _ _ _).2.1 (fill7 h0 _ _ _ _ _ _ _).2.2
theorem wp_fill7 {P : Program} {c : Code} {Q : Exit → Act → World → Prop} {a : Act} {w : World} {b : Nat} {x0 x1 x2 x3 x4 x5 x6 y0 y1 y2 y3 y4 y5 y6 : Value} {T : TypeId} (h0 : w.heap[b]? = some (.cells #[x0, x1, x2, x3, x4, x5, x6] T (0, 0))) (h : ∀ W : World, W.heap[b]? = some (.cells #[y0, y1, y2, y3, y4, y5, y6] T (0, 0)) → Turn [b] w W → W.heap.size = w.heap.size → Code.wp P c Q a W) : Code.wp P c Q a (((((((w.setCell ⟨b, 0, none⟩ y0).setCell ⟨b, 1, none⟩ y1).setCell ⟨b, 2, none⟩ y2).setCell ⟨b, 3, none⟩ y3).setCell ⟨b, 4, none⟩ y4).setCell ⟨b, 5, none⟩ y5).setCell ⟨b, 6, none⟩ y6) :=
  h _ (fill7 h0 _ _ _ _ _ _ _).1 (fill7 h0 _ _ _ _ _ _ _).2.1 (fill7 h0 _ _ _ _ _ _ _).2.2
theorem fill8 {w : World} {b : Nat} {x0 x1 x2 x3 x4 x5 x6 x7 : Value} {T : TypeId} (h : w.heap[b]? = some (.cells #[x0, x1, x2, x3, x4, x5, x6, x7] T (0, 0))) (y0 y1 y2 y3 y4 y5 y6 y7 : Value) : ((((((((w.setCell ⟨b, 0, none⟩ y0).setCell ⟨b, 1, none⟩ y1).setCell ⟨b, 2, none⟩ y2).setCell ⟨b, 3, none⟩ y3).setCell ⟨b, 4, none⟩ y4).setCell ⟨b, 5, none⟩ y5).setCell ⟨b, 6, none⟩ y6).setCell ⟨b, 7, none⟩ y7).heap[b]? = some (.cells #[y0, y1, y2, y3, y4, y5, y6, y7] T (0, 0)) ∧ Turn [b] w ((((((((w.setCell ⟨b, 0, none⟩ y0).setCell ⟨b, 1, none⟩ y1).setCell ⟨b, 2, none⟩ y2).setCell ⟨b, 3, none⟩ y3).setCell ⟨b, 4, none⟩ y4).setCell ⟨b, 5, none⟩ y5).setCell ⟨b, 6, none⟩ y6).setCell ⟨b, 7, none⟩ y7) ∧ ((((((((w.setCell ⟨b, 0, none⟩ y0).setCell ⟨b, 1, none⟩ y1).setCell ⟨b, 2, none⟩ y2).setCell ⟨b, 3, none⟩ y3).setCell ⟨b, 4, none⟩ y4).setCell ⟨b, 5, none⟩ y5).setCell ⟨b, 6, none⟩ y6).setCell ⟨b, 7, none⟩ y7).heap.size = w.heap.size := by
  refine ⟨by simp [World.setCell, Array.getElem?_modify, h], ?_, by simp only [World.size_setCell]⟩
  iterate 8 refine Turn.setCell ?_ (.inl (by simp)) _
  exact Turn.refl _ _
theorem calls_fill8 {P : Program} {f : FuncId} {args : Array Value} {w : World} {Q : Ending → World → Prop} {b : Nat} {x0 x1 x2 x3 x4 x5 x6 x7 y0 y1 y2 y3 y4 y5 y6 y7 : Value} {T : TypeId} (h0 : w.heap[b]? = some (.cells #[x0, x1, x2, x3, x4, x5, x6, x7] T (0, 0))) (h : ∀ W : World, W.heap[b]? = some (.cells #[y0, y1, y2, y3, y4, y5, y6, y7] T (0, 0)) → Turn [b] w W → W.heap.size = w.heap.size → Calls P f args W Q) : Calls P f args ((((((((w.setCell ⟨b, 0, none⟩ y0).setCell ⟨b, 1, none⟩ y1).setCell ⟨b, 2, none⟩ y2).setCell ⟨b, 3, none⟩ y3).setCell ⟨b, 4, none⟩ y4).setCell ⟨b, 5, none⟩ y5).setCell ⟨b, 6, none⟩ y6).setCell ⟨b, 7, none⟩ y7) Q :=
  h _ (fill8 h0 _ _ _ _ _ _ _ _).1 (fill8 h0 _ _ _ _ _ _ _ _).2.1 (fill8 h0 _ _ _ _ _ _ _ _).2.2
theorem wp_fill8 {P : Program} {c : Code} {Q : Exit → Act → World → Prop} {a : Act} {w : World} {b : Nat} {x0 x1 x2 x3 x4 x5 x6 x7 y0 y1 y2 y3 y4 y5 y6 y7 : Value} {T : TypeId} (h0 : w.heap[b]? = some (.cells #[x0, x1, x2, x3, x4, x5, x6, x7] T (0, 0))) (h : ∀ W : World, W.heap[b]? = some (.cells #[y0, y1, y2, y3, y4, y5, y6, y7] T (0, 0)) → Turn [b] w W → W.heap.size = w.heap.size → Code.wp P c Q a W) : Code.wp P c Q a ((((((((w.setCell ⟨b, 0, none⟩ y0).setCell ⟨b, 1, none⟩ y1).setCell ⟨b, 2, none⟩ y2).setCell ⟨b, 3, none⟩ y3).setCell ⟨b, 4, none⟩ y4).setCell ⟨b, 5, none⟩ y5).setCell ⟨b, 6, none⟩ y6).setCell ⟨b, 7, none⟩ y7) :=
  h _ (fill8 h0 _ _ _ _ _ _ _ _).1 (fill8 h0 _ _ _ _ _ _ _ _).2.1 (fill8 h0 _ _ _ _ _ _ _ _).2.2
theorem fill9 {w : World} {b : Nat} {x0 x1 x2 x3 x4 x5 x6 x7 x8 : Value} {T : TypeId} (h : w.heap[b]? = some (.cells #[x0, x1, x2, x3, x4, x5, x6, x7, x8] T (0, 0))) (y0 y1 y2 y3 y4 y5 y6 y7 y8 : Value) : (((((((((w.setCell ⟨b, 0, none⟩ y0).setCell ⟨b, 1, none⟩ y1).setCell ⟨b, 2, none⟩ y2).setCell ⟨b, 3, none⟩ y3).setCell ⟨b, 4, none⟩ y4).setCell ⟨b, 5, none⟩ y5).setCell ⟨b, 6, none⟩ y6).setCell ⟨b, 7, none⟩ y7).setCell ⟨b, 8, none⟩ y8).heap[b]? = some (.cells #[y0, y1, y2, y3, y4, y5, y6, y7, y8] T (0, 0)) ∧ Turn [b] w (((((((((w.setCell ⟨b, 0, none⟩ y0).setCell ⟨b, 1, none⟩ y1).setCell ⟨b, 2, none⟩ y2).setCell ⟨b, 3, none⟩ y3).setCell ⟨b, 4, none⟩ y4).setCell ⟨b, 5, none⟩ y5).setCell ⟨b, 6, none⟩ y6).setCell ⟨b, 7, none⟩ y7).setCell ⟨b, 8, none⟩ y8) ∧ (((((((((w.setCell ⟨b, 0, none⟩ y0).setCell ⟨b, 1, none⟩ y1).setCell ⟨b, 2, none⟩ y2).setCell ⟨b, 3, none⟩ y3).setCell ⟨b, 4, none⟩ y4).setCell ⟨b, 5, none⟩ y5).setCell ⟨b, 6, none⟩ y6).setCell ⟨b, 7, none⟩ y7).setCell ⟨b, 8, none⟩ y8).heap.size = w.heap.size := by
  refine ⟨by simp [World.setCell, Array.getElem?_modify, h], ?_, by simp only [World.size_setCell]⟩
  iterate 9 refine Turn.setCell ?_ (.inl (by simp)) _
  exact Turn.refl _ _
theorem calls_fill9 {P : Program} {f : FuncId} {args : Array Value} {w : World} {Q : Ending → World → Prop} {b : Nat} {x0 x1 x2 x3 x4 x5 x6 x7 x8 y0 y1 y2 y3 y4 y5 y6 y7 y8 : Value} {T : TypeId} (h0 : w.heap[b]? = some (.cells #[x0, x1, x2, x3, x4, x5, x6, x7, x8] T (0, 0))) (h : ∀ W : World, W.heap[b]? = some (.cells #[y0, y1, y2, y3, y4, y5, y6, y7, y8] T (0, 0)) → Turn [b] w W → W.heap.size = w.heap.size → Calls P f args W Q) : Calls P f args (((((((((w.setCell ⟨b, 0, none⟩ y0).setCell ⟨b, 1, none⟩ y1).setCell ⟨b, 2, none⟩ y2).setCell ⟨b, 3, none⟩ y3).setCell ⟨b, 4, none⟩ y4).setCell ⟨b, 5, none⟩ y5).setCell ⟨b, 6, none⟩ y6).setCell ⟨b, 7, none⟩ y7).setCell ⟨b, 8, none⟩ y8) Q :=
  h _ (fill9 h0 _ _ _ _ _ _ _ _ _).1 (fill9 h0 _ _ _ _ _ _ _ _ _).2.1 (fill9 h0 _ _ _ _ _ _ _ _ _).2.2
theorem wp_fill9 {P : Program} {c : Code} {Q : Exit → Act → World → Prop} {a : Act} {w : World} {b : Nat} {x0 x1 x2 x3 x4 x5 x6 x7 x8 y0 y1 y2 y3 y4 y5 y6 y7 y8 : Value} {T : TypeId} (h0 : w.heap[b]? = some (.cells #[x0, x1, x2, x3, x4, x5, x6, x7, x8] T (0, 0))) (h : ∀ W : World, W.heap[b]? = some (.cells #[y0, y1, y2, y3, y4, y5, y6, y7, y8] T (0, 0)) → Turn [b] w W → W.heap.size = w.heap.size → Code.wp P c Q a W) : Code.wp P c Q a (((((((((w.setCell ⟨b, 0, none⟩ y0).setCell ⟨b, 1, none⟩ y1).setCell ⟨b, 2, none⟩ y2).setCell ⟨b, 3, none⟩ y3).setCell ⟨b, 4, none⟩ y4).setCell ⟨b, 5, none⟩ y5).setCell ⟨b, 6, none⟩ y6).setCell ⟨b, 7, none⟩ y7).setCell ⟨b, 8, none⟩ y8) :=
  h _ (fill9 h0 _ _ _ _ _ _ _ _ _).1 (fill9 h0 _ _ _ _ _ _ _ _ _).2.1 (fill9 h0 _ _ _ _ _ _ _ _ _).2.2
theorem fill10 {w : World} {b : Nat} {x0 x1 x2 x3 x4 x5 x6 x7 x8 x9 : Value} {T : TypeId} (h : w.heap[b]? = some (.cells #[x0, x1, x2, x3, x4, x5, x6, x7, x8, x9] T (0, 0))) (y0 y1 y2 y3 y4 y5 y6 y7 y8 y9 : Value) : ((((((((((w.setCell ⟨b, 0, none⟩ y0).setCell ⟨b, 1, none⟩ y1).setCell ⟨b, 2, none⟩ y2).setCell ⟨b, 3, none⟩ y3).setCell ⟨b, 4, none⟩ y4).setCell ⟨b, 5, none⟩ y5).setCell ⟨b, 6, none⟩ y6).setCell ⟨b, 7, none⟩ y7).setCell ⟨b, 8, none⟩ y8).setCell ⟨b, 9, none⟩ y9).heap[b]? = some (.cells #[y0, y1, y2, y3, y4, y5, y6, y7, y8, y9] T (0, 0)) ∧ Turn [b] w ((((((((((w.setCell ⟨b, 0, none⟩ y0).setCell ⟨b, 1, none⟩ y1).setCell ⟨b, 2, none⟩ y2).setCell ⟨b, 3, none⟩ y3).setCell ⟨b, 4, none⟩ y4).setCell ⟨b, 5, none⟩ y5).setCell ⟨b, 6, none⟩ y6).setCell ⟨b, 7, none⟩ y7).setCell ⟨b, 8, none⟩ y8).setCell ⟨b, 9, none⟩ y9) ∧ ((((((((((w.setCell ⟨b, 0, none⟩ y0).setCell ⟨b, 1, none⟩ y1).setCell ⟨b, 2, none⟩ y2).setCell ⟨b, 3, none⟩ y3).setCell ⟨b, 4, none⟩ y4).setCell ⟨b, 5, none⟩ y5).setCell ⟨b, 6, none⟩ y6).setCell ⟨b, 7, none⟩ y7).setCell ⟨b, 8, none⟩ y8).setCell ⟨b, 9, none⟩ y9).heap.size = w.heap.size := by
  refine ⟨by simp [World.setCell, Array.getElem?_modify, h], ?_, by simp only [World.size_setCell]⟩
  iterate 10 refine Turn.setCell ?_ (.inl (by simp)) _
  exact Turn.refl _ _
theorem calls_fill10 {P : Program} {f : FuncId} {args : Array Value} {w : World} {Q : Ending → World → Prop} {b : Nat} {x0 x1 x2 x3 x4 x5 x6 x7 x8 x9 y0 y1 y2 y3 y4 y5 y6 y7 y8 y9 : Value} {T : TypeId} (h0 : w.heap[b]? = some (.cells #[x0, x1, x2, x3, x4, x5, x6, x7, x8, x9] T (0, 0))) (h : ∀ W : World, W.heap[b]? = some (.cells #[y0, y1, y2, y3, y4, y5, y6, y7, y8, y9] T (0, 0)) → Turn [b] w W → W.heap.size = w.heap.size → Calls P f args W Q) : Calls P f args ((((((((((w.setCell ⟨b, 0, none⟩ y0).setCell ⟨b, 1, none⟩ y1).setCell ⟨b, 2, none⟩ y2).setCell ⟨b, 3, none⟩ y3).setCell ⟨b, 4, none⟩ y4).setCell ⟨b, 5, none⟩ y5).setCell ⟨b, 6, none⟩ y6).setCell ⟨b, 7, none⟩ y7).setCell ⟨b, 8, none⟩ y8).setCell ⟨b, 9, none⟩ y9) Q :=
  h _ (fill10 h0 _ _ _ _ _ _ _ _ _ _).1 (fill10 h0 _ _ _ _ _ _ _ _ _ _).2.1 (fill10 h0 _ _ _ _ _ _ _ _ _ _).2.2
theorem wp_fill10 {P : Program} {c : Code} {Q : Exit → Act → World → Prop} {a : Act} {w : World} {b : Nat} {x0 x1 x2 x3 x4 x5 x6 x7 x8 x9 y0 y1 y2 y3 y4 y5 y6 y7 y8 y9 : Value} {T : TypeId} (h0 : w.heap[b]? = some (.cells #[x0, x1, x2, x3, x4, x5, x6, x7, x8, x9] T (0, 0))) (h : ∀ W : World, W.heap[b]? = some (.cells #[y0, y1, y2, y3, y4, y5, y6, y7, y8, y9] T (0, 0)) → Turn [b] w W → W.heap.size = w.heap.size → Code.wp P c Q a W) : Code.wp P c Q a ((((((((((w.setCell ⟨b, 0, none⟩ y0).setCell ⟨b, 1, none⟩ y1).setCell ⟨b, 2, none⟩ y2).setCell ⟨b, 3, none⟩ y3).setCell ⟨b, 4, none⟩ y4).setCell ⟨b, 5, none⟩ y5).setCell ⟨b, 6, none⟩ y6).setCell ⟨b, 7, none⟩ y7).setCell ⟨b, 8, none⟩ y8).setCell ⟨b, 9, none⟩ y9) :=
  h _ (fill10 h0 _ _ _ _ _ _ _ _ _ _).1 (fill10 h0 _ _ _ _ _ _ _ _ _ _).2.1 (fill10 h0 _ _ _ _ _ _ _ _ _ _).2.2
theorem fill11 {w : World} {b : Nat} {x0 x1 x2 x3 x4 x5 x6 x7 x8 x9 x10 : Value} {T : TypeId} (h : w.heap[b]? = some (.cells #[x0, x1, x2, x3, x4, x5, x6, x7, x8, x9, x10] T (0, 0))) (y0 y1 y2 y3 y4 y5 y6 y7 y8 y9 y10 : Value) : (((((((((((w.setCell ⟨b, 0, none⟩ y0).setCell ⟨b, 1, none⟩ y1).setCell ⟨b, 2, none⟩ y2).setCell ⟨b, 3, none⟩ y3).setCell ⟨b, 4, none⟩ y4).setCell ⟨b, 5, none⟩ y5).setCell ⟨b, 6, none⟩ y6).setCell ⟨b, 7, none⟩ y7).setCell ⟨b, 8, none⟩ y8).setCell ⟨b, 9, none⟩ y9).setCell ⟨b, 10, none⟩ y10).heap[b]? = some (.cells #[y0, y1, y2, y3, y4, y5, y6, y7, y8, y9, y10] T (0, 0)) ∧ Turn [b] w (((((((((((w.setCell ⟨b, 0, none⟩ y0).setCell ⟨b, 1, none⟩ y1).setCell ⟨b, 2, none⟩ y2).setCell ⟨b, 3, none⟩ y3).setCell ⟨b, 4, none⟩ y4).setCell ⟨b, 5, none⟩ y5).setCell ⟨b, 6, none⟩ y6).setCell ⟨b, 7, none⟩ y7).setCell ⟨b, 8, none⟩ y8).setCell ⟨b, 9, none⟩ y9).setCell ⟨b, 10, none⟩ y10) ∧ (((((((((((w.setCell ⟨b, 0, none⟩ y0).setCell ⟨b, 1, none⟩ y1).setCell ⟨b, 2, none⟩ y2).setCell ⟨b, 3, none⟩ y3).setCell ⟨b, 4, none⟩ y4).setCell ⟨b, 5, none⟩ y5).setCell ⟨b, 6, none⟩ y6).setCell ⟨b, 7, none⟩ y7).setCell ⟨b, 8, none⟩ y8).setCell ⟨b, 9, none⟩ y9).setCell ⟨b, 10, none⟩ y10).heap.size = w.heap.size := by
  refine ⟨by simp [World.setCell, Array.getElem?_modify, h], ?_, by simp only [World.size_setCell]⟩
  iterate 11 refine Turn.setCell ?_ (.inl (by simp)) _
  exact Turn.refl _ _
theorem calls_fill11 {P : Program} {f : FuncId} {args : Array Value} {w : World} {Q : Ending → World → Prop} {b : Nat} {x0 x1 x2 x3 x4 x5 x6 x7 x8 x9 x10 y0 y1 y2 y3 y4 y5 y6 y7 y8 y9 y10 : Value} {T : TypeId} (h0 : w.heap[b]? = some (.cells #[x0, x1, x2, x3, x4, x5, x6, x7, x8, x9, x10] T (0, 0))) (h : ∀ W : World, W.heap[b]? = some (.cells #[y0, y1, y2, y3, y4, y5, y6, y7, y8, y9, y10] T (0, 0)) → Turn [b] w W → W.heap.size = w.heap.size → Calls P f args W Q) : Calls P f args (((((((((((w.setCell ⟨b, 0, none⟩ y0).setCell ⟨b, 1, none⟩ y1).setCell ⟨b, 2, none⟩ y2).setCell ⟨b, 3, none⟩ y3).setCell ⟨b, 4, none⟩ y4).setCell ⟨b, 5, none⟩ y5).setCell ⟨b, 6, none⟩ y6).setCell ⟨b, 7, none⟩ y7).setCell ⟨b, 8, none⟩ y8).setCell ⟨b, 9, none⟩ y9).setCell ⟨b, 10, none⟩ y10) Q :=
  h _ (fill11 h0 _ _ _ _ _ _ _ _ _ _ _).1 (fill11 h0 _ _ _ _ _ _ _ _ _ _ _).2.1 (fill11 h0 _ _ _ _ _ _ _ _ _ _ _).2.2
theorem wp_fill11 {P : Program} {c : Code} {Q : Exit → Act → World → Prop} {a : Act} {w : World} {b : Nat} {x0 x1 x2 x3 x4 x5 x6 x7 x8 x9 x10 y0 y1 y2 y3 y4 y5 y6 y7 y8 y9 y10 : Value} {T : TypeId} (h0 : w.heap[b]? = some (.cells #[x0, x1, x2, x3, x4, x5, x6, x7, x8, x9, x10] T (0, 0))) (h : ∀ W : World, W.heap[b]? = some (.cells #[y0, y1, y2, y3, y4, y5, y6, y7, y8, y9, y10] T (0, 0)) → Turn [b] w W → W.heap.size = w.heap.size → Code.wp P c Q a W) : Code.wp P c Q a (((((((((((w.setCell ⟨b, 0, none⟩ y0).setCell ⟨b, 1, none⟩ y1).setCell ⟨b, 2, none⟩ y2).setCell ⟨b, 3, none⟩ y3).setCell ⟨b, 4, none⟩ y4).setCell ⟨b, 5, none⟩ y5).setCell ⟨b, 6, none⟩ y6).setCell ⟨b, 7, none⟩ y7).setCell ⟨b, 8, none⟩ y8).setCell ⟨b, 9, none⟩ y9).setCell ⟨b, 10, none⟩ y10) :=
  h _ (fill11 h0 _ _ _ _ _ _ _ _ _ _ _).1 (fill11 h0 _ _ _ _ _ _ _ _ _ _ _).2.1 (fill11 h0 _ _ _ _ _ _ _ _ _ _ _).2.2
theorem fill12 {w : World} {b : Nat} {x0 x1 x2 x3 x4 x5 x6 x7 x8 x9 x10 x11 : Value} {T : TypeId} (h : w.heap[b]? = some (.cells #[x0, x1, x2, x3, x4, x5, x6, x7, x8, x9, x10, x11] T (0, 0))) (y0 y1 y2 y3 y4 y5 y6 y7 y8 y9 y10 y11 : Value) : ((((((((((((w.setCell ⟨b, 0, none⟩ y0).setCell ⟨b, 1, none⟩ y1).setCell ⟨b, 2, none⟩ y2).setCell ⟨b, 3, none⟩ y3).setCell ⟨b, 4, none⟩ y4).setCell ⟨b, 5, none⟩ y5).setCell ⟨b, 6, none⟩ y6).setCell ⟨b, 7, none⟩ y7).setCell ⟨b, 8, none⟩ y8).setCell ⟨b, 9, none⟩ y9).setCell ⟨b, 10, none⟩ y10).setCell ⟨b, 11, none⟩ y11).heap[b]? = some (.cells #[y0, y1, y2, y3, y4, y5, y6, y7, y8, y9, y10, y11] T (0, 0)) ∧ Turn [b] w ((((((((((((w.setCell ⟨b, 0, none⟩ y0).setCell ⟨b, 1, none⟩ y1).setCell ⟨b, 2, none⟩ y2).setCell ⟨b, 3, none⟩ y3).setCell ⟨b, 4, none⟩ y4).setCell ⟨b, 5, none⟩ y5).setCell ⟨b, 6, none⟩ y6).setCell ⟨b, 7, none⟩ y7).setCell ⟨b, 8, none⟩ y8).setCell ⟨b, 9, none⟩ y9).setCell ⟨b, 10, none⟩ y10).setCell ⟨b, 11, none⟩ y11) ∧ ((((((((((((w.setCell ⟨b, 0, none⟩ y0).setCell ⟨b, 1, none⟩ y1).setCell ⟨b, 2, none⟩ y2).setCell ⟨b, 3, none⟩ y3).setCell ⟨b, 4, none⟩ y4).setCell ⟨b, 5, none⟩ y5).setCell ⟨b, 6, none⟩ y6).setCell ⟨b, 7, none⟩ y7).setCell ⟨b, 8, none⟩ y8).setCell ⟨b, 9, none⟩ y9).setCell ⟨b, 10, none⟩ y10).setCell ⟨b, 11, none⟩ y11).heap.size = w.heap.size := by
  refine ⟨by simp [World.setCell, Array.getElem?_modify, h], ?_, by simp only [World.size_setCell]⟩
  iterate 12 refine Turn.setCell ?_ (.inl (by simp)) _
  exact Turn.refl _ _
theorem calls_fill12 {P : Program} {f : FuncId} {args : Array Value} {w : World} {Q : Ending → World → Prop} {b : Nat} {x0 x1 x2 x3 x4 x5 x6 x7 x8 x9 x10 x11 y0 y1 y2 y3 y4 y5 y6 y7 y8 y9 y10 y11 : Value} {T : TypeId} (h0 : w.heap[b]? = some (.cells #[x0, x1, x2, x3, x4, x5, x6, x7, x8, x9, x10, x11] T (0, 0))) (h : ∀ W : World, W.heap[b]? = some (.cells #[y0, y1, y2, y3, y4, y5, y6, y7, y8, y9, y10, y11] T (0, 0)) → Turn [b] w W → W.heap.size = w.heap.size → Calls P f args W Q) : Calls P f args ((((((((((((w.setCell ⟨b, 0, none⟩ y0).setCell ⟨b, 1, none⟩ y1).setCell ⟨b, 2, none⟩ y2).setCell ⟨b, 3, none⟩ y3).setCell ⟨b, 4, none⟩ y4).setCell ⟨b, 5, none⟩ y5).setCell ⟨b, 6, none⟩ y6).setCell ⟨b, 7, none⟩ y7).setCell ⟨b, 8, none⟩ y8).setCell ⟨b, 9, none⟩ y9).setCell ⟨b, 10, none⟩ y10).setCell ⟨b, 11, none⟩ y11) Q :=
  h _ (fill12 h0 _ _ _ _ _ _ _ _ _ _ _ _).1 (fill12 h0 _ _ _ _ _ _ _ _ _ _ _ _).2.1 (fill12 h0 _ _ _ _ _ _ _ _ _ _ _ _).2.2
theorem wp_fill12 {P : Program} {c : Code} {Q : Exit → Act → World → Prop} {a : Act} {w : World} {b : Nat} {x0 x1 x2 x3 x4 x5 x6 x7 x8 x9 x10 x11 y0 y1 y2 y3 y4 y5 y6 y7 y8 y9 y10 y11 : Value} {T : TypeId} (h0 : w.heap[b]? = some (.cells #[x0, x1, x2, x3, x4, x5, x6, x7, x8, x9, x10, x11] T (0, 0))) (h : ∀ W : World, W.heap[b]? = some (.cells #[y0, y1, y2, y3, y4, y5, y6, y7, y8, y9, y10, y11] T (0, 0)) → Turn [b] w W → W.heap.size = w.heap.size → Code.wp P c Q a W) : Code.wp P c Q a ((((((((((((w.setCell ⟨b, 0, none⟩ y0).setCell ⟨b, 1, none⟩ y1).setCell ⟨b, 2, none⟩ y2).setCell ⟨b, 3, none⟩ y3).setCell ⟨b, 4, none⟩ y4).setCell ⟨b, 5, none⟩ y5).setCell ⟨b, 6, none⟩ y6).setCell ⟨b, 7, none⟩ y7).setCell ⟨b, 8, none⟩ y8).setCell ⟨b, 9, none⟩ y9).setCell ⟨b, 10, none⟩ y10).setCell ⟨b, 11, none⟩ y11) :=
  h _ (fill12 h0 _ _ _ _ _ _ _ _ _ _ _ _).1 (fill12 h0 _ _ _ _ _ _ _ _ _ _ _ _).2.1 (fill12 h0 _ _ _ _ _ _ _ _ _ _ _ _).2.2
end Go.Proofs.YtgiopklnielglaaDoor
/- frame.own. -/
namespace Go.Proofs.YtgiopklnielglaaDoor
open Go.RowKit
set_option maxHeartbeats 4000000
set_option maxRecDepth 100000
theorem EFr : ElemT Tryd.prog 30 55 4 32 := ⟨Tryd.underlying30, ⟨.agg #[.int .i64 0, .int .i64 0, .int .i64 0, .int .u64 0], by kernel_rfl, rfl⟩, by decide⟩
theorem EHd : ElemT Tryd.prog 31 53 3 24 := ⟨Tryd.underlying31, ⟨.agg #[.int .i64 0, .int .i64 0, .int .i64 0], by kernel_rfl, rfl⟩, by decide⟩
/-- a machine's value -/
def machV (a b c d : Int) (s f h : Value) (st r co : Int) : Value := .agg #[.int .i64 a, .int .i64 b, .int .i64 c, .int .i64 d, s, f, h, .int .i64 st, .int .u64 r, .int .i64 co]
theorem own_empty3 (W : World) (T : TypeId) (s : Nat) : OwnP (W.alloc (.cells #[] T)) W.heap.size T (.slice (some ⟨W.heap.size, 0, none⟩) 0 0) s [] :=
  OwnP.of_form (l := []) (cap := 0) (cur := #[]) (Rows1.nil s) (Nat.le_refl _) (heap_alloc_new _ _) (Nat.le_refl _) (Nat.zero_le _) (by simp) (by simp)
theorem clone_f {w : World} {v : Value} {F : List (List Value)} (h : RowsP w v 4 F) (hl : F.length ≤ 1000000) : Calls Tryd.prog 37 #[v] w fun e w' => ∃ v', e = .returned v' ∧ OwnP w' w.heap.size 55 v' 4 F ∧ Ext w w' := by
  obtain ⟨z, hinfo, hz⟩ := EFr.info
  obtain ⟨i0, hi, hz0, hz1, hz2⟩ := info_parts hinfo
  have h0 := h
  obtain ⟨h1, h2⟩ := h
  rcases h2 with ⟨rfl | ⟨a, c, rfl, hc⟩, rfl⟩ | ⟨b, off, c, rfl, h4, h5, h6⟩
  · exact (AnyE.slices_Clone_nil Tryd.clonefA 0 0 w).mono fun e w' ⟨he, hw⟩ => ⟨_, he, OwnP.nil _ _ _ _, by rw [hw]; exact Ext.refl _⟩
  · have hen : ∀ W, (binOp .eql 30 (.slice (some a) 0 c) (.slice none 0 0)).run Tryd.prog W = .ok (.bool false) W := fun W => by rw [Lib.run_eql_slice_nil W 30 55 (some a) 0 c 0 0 Tryd.underlying30]; rfl
    have HV := Lib.hid h0
    clear h0 h1 hi hz0 hz1 hz2 hinfo hz
    go_enter Tryd.func37, Tryd.ntmps37
    go_wp2_with (refine wpList_append_rows EFr (by rfl) _ _ (by rfl) w.heap.size (.slice (some ⟨w.heap.size, 0, none⟩) 0 0) (.slice (some a) 0 c) [] [] (by rfl) (own_empty3 w _ 4) (by rfl) (RowsP.ext HV.out (Ext.alloc _ _)) (by simp) (by simp) (by simp) ?_)
    intro v2 w2 ho2 hg2 hb2 _
    have hx2 : Ext w w2 := Below.grown (Below.alloc (Ext.refl w) (by omega) _) hg2 (by simp) (fun b hb => by simp [Value.ownBlock] at hb; omega)
    have HO2 := Lib.hid ho2
    have HX2 := Lib.hid hx2
    clear ho2 hg2 hb2 hx2
    go_wp2
    go_ret
    exact ⟨v2, rfl, HO2.out, HX2.out⟩
  · exact (AnyE.slices_Clone Tryd.clonefA i0 z 4 32 hi hz0 hz1 hz2 hz (by decide) (fun W => by kernel_rfl) b off F.length c F.flatten w (flat_len h1) (by unfold maxLen; omega) (by omega) h6 (flat_one h1)).mono
      fun e w' ⟨v', he, ho, _, hb⟩ => ⟨v', he, ⟨h1, ho⟩, hb⟩
theorem clone_h {w : World} {v : Value} {F : List (List Value)} (h : RowsP w v 3 F) (hl : F.length ≤ 1000000) : Calls Tryd.prog 38 #[v] w fun e w' => ∃ v', e = .returned v' ∧ OwnP w' w.heap.size 53 v' 3 F ∧ Ext w w' := by
  obtain ⟨z, hinfo, hz⟩ := EHd.info
  obtain ⟨i0, hi, hz0, hz1, hz2⟩ := info_parts hinfo
  have h0 := h
  obtain ⟨h1, h2⟩ := h
  rcases h2 with ⟨rfl | ⟨a, c, rfl, hc⟩, rfl⟩ | ⟨b, off, c, rfl, h4, h5, h6⟩
  · exact (AnyE.slices_Clone_nil Tryd.clonehA 0 0 w).mono fun e w' ⟨he, hw⟩ => ⟨_, he, OwnP.nil _ _ _ _, by rw [hw]; exact Ext.refl _⟩
  · have hen : ∀ W, (binOp .eql 31 (.slice (some a) 0 c) (.slice none 0 0)).run Tryd.prog W = .ok (.bool false) W := fun W => by rw [Lib.run_eql_slice_nil W 31 53 (some a) 0 c 0 0 Tryd.underlying31]; rfl
    have HV := Lib.hid h0
    clear h0 h1 hi hz0 hz1 hz2 hinfo hz
    go_enter Tryd.func38, Tryd.ntmps38
    go_wp2_with (refine wpList_append_rows EHd (by rfl) _ _ (by rfl) w.heap.size (.slice (some ⟨w.heap.size, 0, none⟩) 0 0) (.slice (some a) 0 c) [] [] (by rfl) (own_empty3 w _ 3) (by rfl) (RowsP.ext HV.out (Ext.alloc _ _)) (by simp) (by simp) (by simp) ?_)
    intro v2 w2 ho2 hg2 hb2 _
    have hx2 : Ext w w2 := Below.grown (Below.alloc (Ext.refl w) (by omega) _) hg2 (by simp) (fun b hb => by simp [Value.ownBlock] at hb; omega)
    have HO2 := Lib.hid ho2
    have HX2 := Lib.hid hx2
    clear ho2 hg2 hb2 hx2
    go_wp2
    go_ret
    exact ⟨v2, rfl, HO2.out, HX2.out⟩
  · exact (AnyE.slices_Clone Tryd.clonehA i0 z 3 24 hi hz0 hz1 hz2 hz (by decide) (fun W => by kernel_rfl) b off F.length c F.flatten w (flat_len h1) (by unfold maxLen; omega) (by omega) h6 (flat_one h1)).mono
      fun e w' ⟨v', he, ho, _, hb⟩ => ⟨v', he, ⟨h1, ho⟩, hb⟩
theorem clone_w {w : World} {v : Value} {F : List (List Value)} (h : RowsP w v 1 F) (hl : F.length ≤ 1000000) : Calls Tryd.prog 19 #[v] w fun e w' => ∃ v', e = .returned v' ∧ OwnP w' w.heap.size 32 v' 1 F ∧ Ext w w' := by
  obtain ⟨z, hinfo, hz⟩ := E64.info
  obtain ⟨i0, hi, hz0, hz1, hz2⟩ := info_parts hinfo
  have h0 := h
  obtain ⟨h1, h2⟩ := h
  rcases h2 with ⟨rfl | ⟨a, c, rfl, hc⟩, rfl⟩ | ⟨b, off, c, rfl, h4, h5, h6⟩
  · exact (AnyE.slices_Clone_nil Tryd.clonewA 0 0 w).mono fun e w' ⟨he, hw⟩ => ⟨_, he, OwnP.nil _ _ _ _, by rw [hw]; exact Ext.refl _⟩
  · have hen : ∀ W, (binOp .eql 29 (.slice (some a) 0 c) (.slice none 0 0)).run Tryd.prog W = .ok (.bool false) W := fun W => by rw [Lib.run_eql_slice_nil W 29 32 (some a) 0 c 0 0 Tryd.underlying29]; rfl
    have HV := Lib.hid h0
    clear h0 h1 hi hz0 hz1 hz2 hinfo hz
    go_enter Tryd.func19, Tryd.ntmps19
    go_wp2_with (refine wpList_append_rows E64 (by rfl) _ _ (by rfl) w.heap.size (.slice (some ⟨w.heap.size, 0, none⟩) 0 0) (.slice (some a) 0 c) [] [] (by rfl) (own_empty3 w _ 1) (by rfl) (RowsP.ext HV.out (Ext.alloc _ _)) (by simp) (by simp) (by simp) ?_)
    intro v2 w2 ho2 hg2 hb2 _
    have hx2 : Ext w w2 := Below.grown (Below.alloc (Ext.refl w) (by omega) _) hg2 (by simp) (fun b hb => by simp [Value.ownBlock] at hb; omega)
    have HO2 := Lib.hid ho2
    have HX2 := Lib.hid hx2
    clear ho2 hg2 hb2 hx2
    go_wp2
    go_ret
    exact ⟨v2, rfl, HO2.out, HX2.out⟩
  · exact (AnyE.slices_Clone Tryd.clonewA i0 z 1 8 hi hz0 hz1 hz2 hz (by decide) (fun W => by kernel_rfl) b off F.length c F.flatten w (flat_len h1) (by unfold maxLen; omega) (by omega) h6 (flat_one h1)).mono
      fun e w' ⟨v', he, ho, _, hb⟩ => ⟨v', he, ⟨h1, ho⟩, hb⟩
/-- what own leaves -/
def OwnDone (w : World) (a b c d : Int) (S : List Int) (F H : List (List Value)) (st r co : Int) (e : Ending) (w' : World) : Prop :=
  ∃ s f h B1 B2, e = .returned (machV a b c d s f h st r co) ∧ OwnP w' w.heap.size 32 s 1 (S.map wordC) ∧ (∀ b, s.ownBlock = some b → b < B1) ∧ OwnP w' B1 55 f 4 F ∧ (∀ b, f.ownBlock = some b → b < B2) ∧ OwnP w' B2 53 h 3 H ∧ w.heap.size ≤ B1 ∧ B1 ≤ B2 ∧ Ext w w'
theorem own_end {w w7 W : World} {a b c d st r co : Int} {S : List Int} {F H : List (List Value)} {sl : Nat} {f h : Value} {B1 B2 : Nat} (_ : Ext w w7)
    (ho : OwnP w7 w.heap.size 32 (.slice (some ⟨w.heap.size + 1 + 1, 0, none⟩) sl sl) 1 (S.map wordC)) (hf : OwnP w7 B1 55 f 4 F) (hfb : ∀ b, f.ownBlock = some b → b < B2) (hh : OwnP w7 B2 53 h 3 H)
    (h3 : w.heap.size + 1 + 1 + 1 ≤ B1) (h4 : B1 ≤ B2) (e : Ext w W) (t : Turn [w.heap.size, w.heap.size + 1] w7 W) :
    OwnDone w a b c d S F H st r co (.returned (machV a b c d (.slice (some ⟨w.heap.size + 1 + 1, 0, none⟩) sl sl) f h st r co)) W := by
  refine ⟨_, _, _, B1, B2, rfl, ho.turn t (fun b hb => ?_), fun b hb => ?_, hf.turn t (fun b hb => ?_), hfb, hh.turn t (fun b hb => ?_), by omega, h4, e⟩
  · simp [Value.ownBlock] at hb; simp; omega
  · simp [Value.ownBlock] at hb; omega
  · have := (hf.own b hb).1; simp; omega
  · have := (hh.own b hb).1; simp; omega
theorem own_is {w : World} {s f h : Value} {S : List Int} {F H : List (List Value)} (hs : RowsP w s 1 (S.map wordC)) (hf : RowsP w f 4 F) (hh : RowsP w h 3 H) (lS : S.length ≤ 1000000) (lF : F.length ≤ 1000000) (lH : H.length ≤ 1000000) (a b c d st r co : Int) :
    Calls Tryd.prog 20 #[machV a b c d s f h st r co] w (OwnDone w a b c d S F H st r co) := by
  obtain ⟨q, cs, hq, hq1, hq2, hq3⟩ := hs.at
  clear hq1 hq2 hq3
  rw [List.length_map] at hq
  subst hq
  have hmk := run_make_row' (P := Tryd.prog) 29 32 (.int .u64 0) 8 Tryd.underlying29 (by kernel_rfl) rfl .i64 .i64 S.length (by omega) (by omega)
  have HS := Lib.hid hs; have HF := Lib.hid hf; have HH := Lib.hid hh
  clear hs hf hh
  unfold machV
  go_enter Tryd.func20, Tryd.ntmps20
  go_wp2_with (refine wpList_copy_rows E64 (by rfl) _ _ (by rfl) w.heap.size (.slice (some ⟨w.heap.size + 1 + 1, 0, none⟩) S.length S.length) _ (List.replicate S.length [.int .u64 0]) (S.map wordC) (by rfl) (made_at rfl (by simp) (by omega) (by unfold maxLen; omega)) (by rfl) (HS.out.ext (((Ext.alloc _ _).trans (Ext.alloc _ _)).trans (Ext.alloc _ _))) ?_)
  intro w3 ho hg hsz
  rw [show (S.map wordC).take S.length = S.map wordC from List.take_of_length_le (by simp)] at ho
  obtain ⟨hx3, h3, b0, b1⟩ := grown3 hg rfl
  clear hg hsz
  have HO := Lib.hid ho
  clear ho
  obtain ⟨m0, m1, m2, m3, m4, m5, m6, m7, m8, m9⟩ := cells10 b0
  have mf : ∀ i, w3.frozen? ⟨w.heap.size, i, none⟩ = false := fun i => free_at b0
  go_wp2_with fail
  refine at_gen (fun W => W.heap[w.heap.size]? = some (.cells #[.int .i64 a, .int .i64 b, .int .i64 c, .int .i64 d, .slice (some ⟨w.heap.size + 1 + 1, 0, none⟩) S.length S.length, f, h, .int .i64 st, .int .u64 r, .int .i64 co] 34 (0, 0)) ∧
    W.heap[w.heap.size + 1]? = w3.heap[w.heap.size + 1]? ∧ W.heap[w.heap.size + 1 + 1]? = w3.heap[w.heap.size + 1 + 1]? ∧ Ext w W ∧ W.heap.size = w3.heap.size) ?_ ?_
  · refine ⟨(Go.Lib.heap_setCell_same b0 _).trans rfl, Below.heap_setCell _ _ _ _ (by simp), Below.heap_setCell _ _ _ _ (by simp; omega), Below.setCell hx3 (Nat.le_refl _) _, by simp⟩
  · clear b0 m0 m1 m2 m3 m4 m5 m6 m7 m8 m9 mf
    rintro W4 ⟨c0, c1, c2, hx4, hs4⟩
    rw [b1] at c1
    have HO4 := Lib.hid (HO.out.stays (w' := W4) (fun b hb _ => by simp [Value.ownBlock] at hb; subst hb; exact c2))
    clear HO c2 b1
    rw [← hs4] at h3
    refine (clone_f (HF.out.ext hx4) lF).mono ?_
    rintro e w5 ⟨f', rfl, hf', hx5⟩
    have d0 := (Below.block hx5 w.heap.size (by omega)).trans c0
    have d1 := (Below.block hx5 (w.heap.size + 1) (by omega)).trans c1
    have HX5 := Lib.hid (hx4.trans hx5)
    have HO5 := Lib.hid (HO4.out.ext hx5)
    have HF5 := Lib.hid hf'
    have s5 : W4.heap.size ≤ w5.heap.size := hx5.size
    clear HO4 hf' hx4 hx5 c0 c1
    generalize W4.heap.size = B1 at *
    obtain ⟨m0, m1, m2, m3, m4, m5, m6, m7, m8, m9⟩ := cells10 d0
    have mf : ∀ i, w5.frozen? ⟨w.heap.size, i, none⟩ = false := fun i => free_at d0
    clear hs4
    obtain ⟨qf, nf, cf, hvf⟩ : ∃ q n c, f' = .slice q n c := by obtain ⟨q, c, h, _⟩ := HF5.out.len; exact ⟨_, _, _, h⟩
    subst hvf
    go_wp2_with fail
    refine at_gen (fun W => W.heap[w.heap.size]? = some (.cells #[.int .i64 a, .int .i64 b, .int .i64 c, .int .i64 d, .slice (some ⟨w.heap.size + 1 + 1, 0, none⟩) S.length S.length, .slice qf nf cf, h, .int .i64 st, .int .u64 r, .int .i64 co] 34 (0, 0)) ∧
      Turn [w.heap.size] w5 W ∧ Ext w W ∧ W.heap.size = w5.heap.size) ?_ ?_
    · refine ⟨(Go.Lib.heap_setCell_same d0 _).trans rfl, (Turn.refl _ _).setCell (.inl (by simp)) _, Below.setCell HX5.out (Nat.le_refl _) _, by simp⟩
    · clear d0 m0 m1 m2 m3 m4 m5 m6 m7 m8 m9 mf
      rintro W6 ⟨c0, ht6, hx6, hs6⟩
      have c1 := (ht6.block (w.heap.size + 1) (by omega) (by simp)).trans d1
      have HO6 := Lib.hid (HO5.out.turn ht6 (fun b hb => by simp [Value.ownBlock] at hb; simp; omega))
      have HF6 := Lib.hid (HF5.out.turn ht6 (fun b hb => by have := (HF5.out.own b hb).1; simp; omega))
      clear HO5 HF5 ht6 d1
      refine (clone_h (HH.out.ext hx6) lH).mono ?_
      rintro e w7 ⟨h', rfl, hh', hx7⟩
      have d0 := (Below.block hx7 w.heap.size (by omega)).trans c0
      have d1 := (Below.block hx7 (w.heap.size + 1) (by omega)).trans c1
      have HX7 := Lib.hid (hx6.trans hx7)
      have HO7 := Lib.hid (HO6.out.ext hx7)
      have HF7 := Lib.hid (HF6.out.ext hx7)
      have HH7 := Lib.hid hh'
      have HB2 := Lib.hid (show ∀ b, (Value.slice qf nf cf).ownBlock = some b → b < W6.heap.size from fun b hb => (HF6.out.own b hb).2)
      have s7 : W6.heap.size ≤ w7.heap.size := hx7.size
      clear HO6 HF6 hx6 hx7 hh' c0 c1
      rw [← hs6] at s5
      generalize W6.heap.size = B2 at *
      obtain ⟨m0, m1, m2, m3, m4, m5, m6, m7, m8, m9⟩ := cells10 d0
      have mf : ∀ i, w7.frozen? ⟨w.heap.size, i, none⟩ = false := fun i => free_at d0
      obtain ⟨z0, z1, z2, z3, z4, z5, z6, z7, z8, z9⟩ := cells10 d1
      have zf : ∀ i, w7.frozen? ⟨w.heap.size + 1, i, none⟩ = false := fun i => free_at d1
      obtain ⟨qh, nh, ch, hvh⟩ : ∃ q n c, h' = .slice q n c := by obtain ⟨q, c, h, _⟩ := HH7.out.len; exact ⟨_, _, _, h⟩
      subst hvh
      clear d0 d1 hs6
      go_wp2_with fail
      refine bodyPost_ret (v := machV a b c d (.slice (some ⟨w.heap.size + 1 + 1, 0, none⟩) S.length S.length) (.slice qf nf cf) (.slice qh nh ch) st r co) (by simp [results, Tryd.results20, go_sem, z0, z1, z2, z3, z4, z5, z6, z7, z8, z9, machV]) rfl ?_
      have n1 : w.heap.size ≤ w.heap.size + 1 := by omega
      refine own_end HX7.out HO7.out HF7.out HB2.out HH7.out h3 s5 ?_ ?_
      · iterate 10 refine Below.setCell ?_ n1 _
        refine Below.setCell HX7.out (Nat.le_refl _) _
      · iterate 11 refine Turn.setCell ?_ (.inl (by simp)) _
        exact Turn.refl _ _
end Go.Proofs.YtgiopklnielglaaDoor
/- A region that draws its order, whose last operation waits for all others: the others by 'wpAnyH' (loads first), the last one as in a plain region. -/
namespace Go.Proofs.YtgiopklnielglaaDoor
open Go
section
variable {P : Program} {md : Region.Mode}
/-- the post of all but the last operation -/
def lastQ (P : Program) (ops : Array Oper) (ol : Oper) (Q : Exit → Act → World → Prop) : Exit → Act → World → Prop
  | .normal, a, w => wpList P ops Q [ol] a w
  | e, a, w => Q e a w
theorem lets_last {ops : Array Oper} {ol : Oper} {Q : Exit → Act → World → Prop} (h : LetsOut (lastQ P ops ol Q)) : LetsOut Q := h
theorem Oper.wp_switch {o : Oper} {a : Act} {w : World} {K K' : Act → World → Prop} {Q Q' : Exit → Act → World → Prop} (hK : ∀ a w, K a w → K' a w) (hp : ∀ c a w, Q' (.panic c) a w → Q (.panic c) a w) (hl : LetsOut Q' → LetsOut Q)
    (hh : o.wp P a w K Q') : o.wp P a w K' Q := by
  unfold Oper.wp at *
  generalize (execOp a.eval o).run P w = r at *
  cases r with
  | ok n w' =>
    cases n <;> simp only [Oper.upon] at hh ⊢ <;>
      first
        | exact hK _ _ hh
        | exact Calls.mono hh (fun e w'' he => by cases e <;> first | exact hK _ _ he | exact hp _ _ _ he | exact hl he)
        | exact Rows.mono hh (fun _ _ he => hK _ _ he)
  | halt x w' =>
    cases x <;> simp only [Oper.upon] at hh ⊢ <;> first | exact hp _ _ _ hh | exact hh
/-- the side conditions, as one Bool -/
def lastB (ops : Array Oper) (n : Nat) : Bool :=
  decide (ops.size = n + 1) && Region.sinkB .any ops n && Region.chainB .any ops n &&
  ((List.range (n + 1)).all fun i => match ops[i]? with
    | some o => (o.after.all fun e => !(Region.binds .any e) || decide (e.on < i)) && (match o.guard with | some (g, _) => decide (g < i) | none => true)
    | none => false) &&
  (match ops[n]? with | some o => o.guard.isNone | none => false)
theorem wanted_same {ops init : Array Oper} {n : Nat} (hi : ∀ i, i < n → init[i]? = ops[i]?) {o : Oper} (hg : ∀ g b, o.guard = some (g, b) → g < n) (t : Array Value) : Region.wanted o (yielded init t) = Region.wanted o (yielded ops t) := by
  unfold Region.wanted
  cases h : o.guard with
  | none => rfl
  | some x =>
    obtain ⟨g, b⟩ := x
    have : yielded init t g = yielded ops t g := by unfold yielded; rw [hi g (hg g b h)]
    simp [this]
theorem last_core {ops init : Array Oper} {n : Nat} {ol : Oper} {Q : Exit → Act → World → Prop} (hsz : ops.size = n + 1) (hin : init.size = n) (hi : ∀ i, i < n → init[i]? = ops[i]?)
    (hs : Region.sinkB .any ops n = true) (hc : Region.chainB .any ops n = true) (hedge : ∀ (i : Nat) (o : Oper), ops[i]? = some o → ∀ e ∈ o.after, Region.binds .any e = true → e.on < i) (hguard : ∀ (i : Nat) (o : Oper), ops[i]? = some o → ∀ g b, o.guard = some (g, b) → g < i)
    (hol : ops[n]? = some ol) (_hog : ol.guard = none) :
    ∀ (fuel : Nat) (l' l : Array Bool) (a : Act) (w : World), l'.size = n → (∀ i, i < n → ∀ d, l'.getD i d = l.getD i d) → HeadInv .any ops n l →
      wpAny P .any init (lastQ P ops ol Q) fuel l' a w → wpAny P .any ops Q (fuel + 1) l a w := by
  -- what is ready, in both
  have hready : ∀ (l' l : Array Bool), l'.size = n → (∀ i, i < n → ∀ d, l'.getD i d = l.getD i d) → ∀ i, i < n → (i ∈ Region.ready .any init l' ↔ i ∈ Region.ready .any ops l) := by
    intro l' l hl' hll i hin'
    rw [mem_ready, mem_ready, hll i hin' true, hi i hin']
    constructor
    · rintro ⟨h0, o, ho, h⟩
      refine ⟨h0, o, ho, fun e he hb => ?_⟩
      have := hedge i o ho e he hb
      rw [← hll e.on (by omega)]
      exact h e he hb
    · rintro ⟨h0, o, ho, h⟩
      refine ⟨h0, o, ho, fun e he hb => ?_⟩
      have := hedge i o ho e he hb
      rw [hll e.on (by omega)]
      exact h e he hb
  -- nothing ready: all have come up
  have hall : ∀ (l : Array Bool), l.size = ops.size → (∀ i, i < n → i ∉ Region.ready .any ops l) → ∀ m i, i < m → i < n → l.getD i false = true := by
    intro l hlsz hno m
    induction m with
    | zero => intro i h; omega
    | succ m ih =>
      intro i him hin'
      by_cases hlt : i < m
      · exact ih i hlt hin'
      · obtain rfl : i = m := by omega
        cases hv : l.getD i false with
        | true => rfl
        | false =>
          refine absurd (mem_ready.2 ⟨getD_in (by omega) hv, ?_⟩) (hno i hin')
          obtain ⟨o, ho⟩ : ∃ o, ops[i]? = some o := ⟨_, Array.getElem?_eq_getElem (by omega)⟩
          exact ⟨o, ho, fun e he hb => ih e.on (hedge i o ho e he hb) (by have := hedge i o ho e he hb; omega)⟩
  have hnready : ∀ (l : Array Bool), HeadInv .any ops n l → (∀ i, i < n → l.getD i false = true) → n ∈ Region.ready .any ops l := by
    intro l inv h
    exact mem_ready.2 ⟨inv.tail n (Nat.le_refl _) (by omega), ol, hol, fun e he hb => h e.on (hedge n ol hol e he hb)⟩
  have hdone : ∀ (l : Array Bool), l.size = ops.size → (∀ i, i < n → l.getD i false = true) → Region.ready .any ops (l.setIfInBounds n true) = [] := by
    intro l hlsz h
    refine List.eq_nil_iff_forall_not_mem.2 fun i hr => ?_
    obtain ⟨h0, o, ho, _⟩ := mem_ready.1 hr
    have hlt : i < ops.size := (Array.getElem?_eq_some_iff.1 ho).1
    have h1 := getD_both h0
    by_cases hin' : i < n
    · rw [getD_set_ne false (by omega), h i hin'] at h1; cases h1
    · obtain rfl : i = n := by omega
      rw [Array.getD_eq_getD_getElem?, Array.getElem?_setIfInBounds_self_of_lt (by omega)] at h1
      simp at h1
  have hlast : ∀ (f : Nat) (l : Array Bool) (a : Act) (w : World), l.size = ops.size → (∀ i, i < n → l.getD i false = true) → lastQ P ops ol Q .normal a w → wpOp P ops Q n (wpAny P .any ops Q f (l.setIfInBounds n true)) a w := by
    intro f l a w hlsz h hq
    have hd := hdone l hlsz h
    have hmono : ∀ a w, Q .normal a w → wpAny P .any ops Q f (l.setIfInBounds n true) a w := by
      intro a w hQ
      cases f with
      | zero => exact ⟨hd, hQ⟩
      | succ f => exact ⟨fun _ => hQ, fun i hi' => by rw [hd] at hi'; cases hi'⟩
    unfold wpOp
    rw [hol]
    simp only
    have hq2 : wpList P ops Q [ol] a w := hq
    unfold wpList at hq2
    split at hq2
    · rename_i hw
      rw [if_pos hw]
      refine hq2.imp (Oper.wp_mono fun a w h => ?_) id
      exact hmono a w (by simpa [wpList] using h)
    · rename_i hw
      rw [if_neg hw]
      exact hmono _ _ (by simpa [wpList] using hq2)
  intro fuel
  induction fuel with
  | zero =>
    intro l' l a w hl' hll inv h
    have hno : ∀ i, i < n → i ∉ Region.ready .any ops l := fun i hin' hr => by
      have := (hready l' l hl' hll i hin').2 hr
      rw [h.1] at this; cases this
    have hA := fun i (hin' : i < n) => hall l inv.size hno (i + 1) i (by omega) hin'
    refine ⟨fun h0 => absurd (hnready l inv hA) (by rw [h0]; simp), fun i hr => ?_⟩
    have hin2 : i = n := by
      by_cases hin' : i < n
      · exact absurd hr (hno i hin')
      · obtain ⟨_, o, ho, _⟩ := mem_ready.1 hr
        have : i < ops.size := (Array.getElem?_eq_some_iff.1 ho).1
        omega
    subst hin2
    exact hlast 0 l a w inv.size hA h.2
  | succ fuel ih =>
    intro l' l a w hl' hll inv h
    have hQn : (∀ i, i < n → i ∉ Region.ready .any ops l) → lastQ P ops ol Q .normal a w := by
      intro hno
      refine h.1 (List.eq_nil_iff_forall_not_mem.2 fun i hr => ?_)
      obtain ⟨_, o, ho, _⟩ := mem_ready.1 hr
      have hlt : i < n := by rw [← hin]; exact (Array.getElem?_eq_some_iff.1 ho).1
      exact hno i hlt ((hready l' l hl' hll i hlt).1 hr)
    refine ⟨fun h0 => ?_, fun i hr => ?_⟩
    · have hno : ∀ i, i < n → i ∉ Region.ready .any ops l := fun i _ hr => by rw [h0] at hr; cases hr
      have hA := fun i (hin' : i < n) => hall l inv.size hno (i + 1) i (by omega) hin'
      exact absurd (hnready l inv hA) (by rw [h0]; simp)
    · by_cases hin' : i < n
      · have h2 := h.2 i ((hready l' l hl' hll i hin').2 hr)
        have inv2 := inv.set hr hin'
        unfold wpOp at h2 ⊢
        rw [hi i hin'] at h2
        obtain ⟨_, o, ho, _⟩ := mem_ready.1 hr
        rw [ho] at h2 ⊢
        simp only at h2 ⊢
        rw [wanted_same hi (fun g b hg => by have := hguard i o ho g b hg; omega)] at h2
        have hstep : ∀ a' w', wpAny P .any init (lastQ P ops ol Q) fuel (l'.setIfInBounds i true) a' w' → wpAny P .any ops Q (fuel + 1) (l.setIfInBounds i true) a' w' := fun a' w' hh => by
          refine ih _ _ a' w' (by simpa using hl') (fun k hk d => ?_) inv2 hh
          by_cases hik : i = k
          · subst hik
            have hlsz := inv.size
            simp [Array.getD_eq_getD_getElem?, hl', hlsz, hsz, hk, Nat.lt_succ_of_lt hk]
          · rw [getD_set_ne d hik, getD_set_ne d hik]; exact hll k hk d
        split at h2
        · rename_i hw
          rw [if_pos hw]
          rcases h2 with h2 | ⟨h2, h3⟩
          · exact .inl (Oper.wp_switch (Q' := lastQ P ops ol Q) hstep (fun _ _ _ h => h) (lets_last (P := P) (ops := ops) (ol := ol)) h2)
          · exact .inr ⟨h2, lets_last (P := P) (ops := ops) (ol := ol) h3⟩
        · rename_i hw
          rw [if_neg hw]
          exact hstep _ _ h2
      · obtain ⟨_, o, ho, _⟩ := mem_ready.1 hr
        have hlt : i < ops.size := (Array.getElem?_eq_some_iff.1 ho).1
        obtain rfl : i = n := by omega
        have hno : ∀ k, k < i → k ∉ Region.ready .any ops l := fun k hk hrk => by
          have hun := (mem_ready.1 hrk).1
          exact absurd hr (tail_waits hs hc (by omega) inv _ k rfl hk hun i (Nat.le_refl _))
        exact hlast (fuel + 1) l a w inv.size (fun k hk => hall l inv.size hno (k + 1) k (by omega) hk) (hQn hno)
/-- THE LAW: all but the last by 'wpAnyH' under S, the last one as in a plain region -/
theorem wp_region_last (n : Nat) {id : Nat} {ops : Array Oper} {Q : Exit → Act → World → Prop} {a : Act} {w : World} (S : World → Prop) (hm : P.follows .mixedOrders = true) (hB : lastB ops n = true) (ol : Oper) (hol : ops[n]? = some ol)
    (hS : S w.drew) (h : S w.drew → wpAnyH P .any (ops.toList.take n).toArray (lastQ P ops ol Q) S n (Array.replicate n false) a w.drew) : (Code.region id ops true).wp P Q a w := by
  unfold lastB at hB
  simp only [Bool.and_eq_true, decide_eq_true_eq] at hB
  obtain ⟨⟨⟨⟨hsz, hs⟩, hc⟩, hall⟩, hg⟩ := hB
  have hall' : ∀ (i : Nat) (o : Oper), ops[i]? = some o → (∀ e ∈ o.after, Region.binds .any e = true → e.on < i) ∧ ∀ g b, o.guard = some (g, b) → g < i := by
    intro i o ho
    have hlt : i < ops.size := (Array.getElem?_eq_some_iff.1 ho).1
    have := List.all_eq_true.1 hall i (List.mem_range.2 (by omega))
    rw [ho] at this
    simp only [Bool.and_eq_true] at this
    refine ⟨fun e he hb => ?_, fun g b hgb => ?_⟩
    · have h1 := Array.all_eq_true_iff_forall_mem.1 this.1 e he
      rw [hb] at h1
      simpa using h1
    · have h2 := this.2
      rw [hgb] at h2
      simpa using h2
  have hog : ol.guard = none := by rw [hol] at hg; simpa using hg
  have htl : (ops.toList.take n).length = n := by rw [List.length_take, Array.length_toList, hsz]; omega
  refine wp_region_any hm ?_
  rw [hsz]
  refine last_core (init := (ops.toList.take n).toArray) hsz (by simpa using htl) (fun i hi => ?_) hs hc (fun i o ho => (hall' i o ho).1) (fun i o ho => (hall' i o ho).2) hol hog n (Array.replicate n false) (Array.replicate (n + 1) false) a w.drew
    (by simp) (fun i hi d => by simp [Array.getD_eq_getD_getElem?, hi, Nat.lt_succ_of_lt hi]) ⟨by simp [hsz], (fun j oj _ hl => by rw [getD_replicate_false] at hl; exact absurd hl (by decide)), fun t _ ht => by simp [Array.getD_eq_getD_getElem?, show t < n + 1 by omega]⟩ (wpAny_of_held _ _ _ _ (h hS))
  rw [List.getElem?_toArray, List.getElem?_take_of_lt hi, Array.getElem?_toList]
end
end Go.Proofs.YtgiopklnielglaaDoor
