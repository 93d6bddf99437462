/- The walk of code.Good at the one program of wakes. -/
import Derived.Test.YtfmedddjmcplnaaDoorFrmC
namespace Go.Proofs.YtfmedddjmcplnaaDoor
open Go.RowKit
set_option maxHeartbeats 4000000
set_option maxRecDepth 100000
theorem between_yes (v a b : Int) (w : World) (h1 : a ≤ v) (h2 : v ≤ b) : Calls Tryd.prog 31 #[.int .i64 v, .int .i64 a, .int .i64 b] w fun e w' => e = .returned (.bool true) ∧ w = w' :=
  (between_is v a b w).mono fun _ _ ⟨he, hw⟩ => ⟨by rw [he, decide_eq_true h1, decide_eq_true h2]; rfl, hw⟩
/-- the two instructions of wakes' program, as they lie -/
def TwoIns (w : World) (b : Nat) : Prop := ∀ (j : Nat) (u : Value), ([.int .i64 0, .int .i64 1, .int .i64 0, .int .i64 9, .int .i64 0, .int .i64 0] : List Value)[j]? = some u → w.cell? ⟨b, j, none⟩ = some u
theorem TwoIns.ext {w w' : World} {b : Nat} (h : TwoIns w b) (e : Ext w w') : TwoIns w' b := fun j u hu => e.cell (h j u hu)
theorem function_is {w : World} {b : Nat} (hk : FrmLie w) (hb : TwoIns w b) : Calls Tryd.prog 32 #[.agg #[.int .i64 0, .int .i64 0, .slice (some ⟨b, 0, none⟩) 2 2], .bool true] w (TrueExt w) := by
  have HK := Lib.hid hk
  have HB := Lib.hid hb
  clear hk hb
  go_enter Tryd.func32, Tryd.ntmps32
  go_wp2_with fail
  have bf := heap_alloc_new w (.cells #[.int .i64 0, .int .i64 0, .slice (some ⟨b, 0, none⟩) 2 2] 66)
  have HE := Lib.hid (Ext.alloc w (.cells #[.int .i64 0, .int .i64 0, .slice (some ⟨b, 0, none⟩) 2 2] 66))
  generalize w.alloc (.cells #[.int .i64 0, .int .i64 0, .slice (some ⟨b, 0, none⟩) 2 2] 66) = W at *
  have f0 : W.cell? ⟨w.heap.size, 0, none⟩ = some (.int .i64 0) := by simp [World.cell?, bf]
  have f1 : W.cell? ⟨w.heap.size, 1, none⟩ = some (.int .i64 0) := by simp [World.cell?, bf]
  have f2 : W.cell? ⟨w.heap.size, 2, none⟩ = some (.slice (some ⟨b, 0, none⟩) 2 2) := by simp [World.cell?, bf]
  clear bf
  generalize w.heap.size = fb at *
  go_loopw [13] (fun i wr => ∃ j : Nat, j ≤ 2 ∧ i = .int .i64 j ∧ Ext W wr) (fun i _ => 2 - (intOf i).toNat)
  case atStart => exact ⟨0, by omega, rfl, Ext.refl _⟩
  case round =>
    obtain ⟨j, hj, rfl, hx⟩ := hrel
    replace f0 := hx.cell f0; replace f1 := hx.cell f1; replace f2 := hx.cell f2
    have HX := Lib.hid hx
    clear hx
    match j, hj with
    | 0, _ =>
      have i0 := HB.out 0 _ rfl; have i1 := HB.out 1 _ rfl; have i2 := HB.out 2 _ rfl
      replace i0 := (HE.out.trans HX.out).cell i0; replace i1 := (HE.out.trans HX.out).cell i1; replace i2 := (HE.out.trans HX.out).cell i2
      go_wp2_with fail
      refine (good_int _ (HK.out.ext (HE.out.trans (HX.out.trans (Ext.alloc _ _))))).mono ?_; rintro e w2 ⟨rfl, hx2⟩
      have HX2 := Lib.hid (HX.out.trans ((Ext.alloc _ _).trans hx2))
      clear hx2
      go_wp2_with fail
      exact ⟨⟨1, by omega, by go_num, HX2.out⟩, by simp [intOf]⟩
    | 1, _ =>
      have i0 := HB.out 3 _ rfl; have i1 := HB.out 4 _ rfl; have i2 := HB.out 5 _ rfl
      replace i0 := (HE.out.trans HX.out).cell i0; replace i1 := (HE.out.trans HX.out).cell i1; replace i2 := (HE.out.trans HX.out).cell i2
      go_wp2_with fail
      refine (good_ret _ (HK.out.ext (HE.out.trans (HX.out.trans (Ext.alloc _ _))))).mono ?_; rintro e w2 ⟨rfl, hx2⟩
      have HX2 := Lib.hid (HX.out.trans ((Ext.alloc _ _).trans hx2))
      clear hx2
      go_wp2_with fail
      exact ⟨⟨2, by omega, by go_num, HX2.out⟩, by simp [intOf]⟩
    | 2, _ =>
      have HW := Lib.hid (HE.out.trans HX.out)
      go_wp2_with fail
      refine (between_yes _ _ _ _ (by decide) (by decide)).mono ?_; rintro e w2 ⟨rfl, rfl⟩
      go_wp2_with fail
      refine (between_yes _ _ _ _ (by decide) (by decide)).mono ?_; rintro e w2 ⟨rfl, rfl⟩
      go_wp2_with fail
      refine (between_yes _ _ _ _ (by decide) (by decide)).mono ?_; rintro e w2 ⟨rfl, rfl⟩
      go_wp2_with fail
      go_ret
      exact ⟨rfl, HW.out⟩
/-- wakes' program, as it lies: its one function -/
def OneFunc (w : World) (p : Nat) : Prop := ∃ b, TwoIns w b ∧ w.cell? ⟨p, 0, none⟩ = some (.int .i64 0) ∧ w.cell? ⟨p, 1, none⟩ = some (.int .i64 0) ∧ w.cell? ⟨p, 2, none⟩ = some (.slice (some ⟨b, 0, none⟩) 2 2)
theorem OneFunc.ext {w w' : World} {p : Nat} (h : OneFunc w p) (e : Ext w w') : OneFunc w' p := by
  obtain ⟨b, h0, h1, h2, h3⟩ := h
  exact ⟨b, h0.ext e, e.cell h1, e.cell h2, e.cell h3⟩
theorem good_is {w : World} {p : Nat} (hk : FrmLie w) (hp : OneFunc w p) : Calls Tryd.prog 26 #[.agg #[.slice (some ⟨p, 0, none⟩) 1 1, .slice none 0 0, .slice none 0 0]] w (TrueExt w) := by
  have HK := Lib.hid hk
  have HP := Lib.hid hp
  clear hk hp
  go_enter Tryd.func26, Tryd.ntmps26
  go_wp2_with fail
  refine (between_yes _ _ _ _ (by decide) (by decide)).mono ?_; rintro e w2 ⟨rfl, rfl⟩
  go_wp2_with fail
  have bp := heap_alloc_new w (.cells #[.slice (some ⟨p, 0, none⟩) 1 1, .slice none 0 0, .slice none 0 0] 50)
  have HE := Lib.hid (Ext.alloc w (.cells #[.slice (some ⟨p, 0, none⟩) 1 1, .slice none 0 0, .slice none 0 0] 50))
  generalize w.alloc (.cells #[.slice (some ⟨p, 0, none⟩) 1 1, .slice none 0 0, .slice none 0 0] 50) = W at *
  have q0 : W.cell? ⟨w.heap.size, 0, none⟩ = some (.slice (some ⟨p, 0, none⟩) 1 1) := by simp [World.cell?, bp]
  have q1 : W.cell? ⟨w.heap.size, 1, none⟩ = some (.slice none 0 0) := by simp [World.cell?, bp]
  have q2 : W.cell? ⟨w.heap.size, 2, none⟩ = some (.slice none 0 0) := by simp [World.cell?, bp]
  clear bp
  generalize w.heap.size = pb at *
  go_loopw [29] (fun i wr => ∃ j : Nat, j ≤ 1 ∧ i = .int .i64 j ∧ Ext W wr) (fun i _ => 1 - (intOf i).toNat)
  case atStart => exact ⟨0, by omega, rfl, Ext.refl _⟩
  case round =>
    obtain ⟨j, hj, rfl, hx⟩ := hrel
    replace q0 := hx.cell q0; replace q1 := hx.cell q1; replace q2 := hx.cell q2
    have HX := Lib.hid hx
    clear hx
    match j, hj with
    | 0, _ =>
      obtain ⟨b, hti, p0, p1, p2⟩ := (HP.out.ext HE.out).ext HX.out
      have HTI := Lib.hid hti
      clear hti
      go_wp2_with fail
      refine (function_is (HK.out.ext (HE.out.trans (HX.out.trans (Ext.alloc _ _)))) (HTI.out.ext (Ext.alloc _ _))).mono ?_; rintro e w2 ⟨rfl, hx2⟩
      have HX2 := Lib.hid (HX.out.trans ((Ext.alloc _ _).trans hx2))
      clear hx2
      go_wp2_with fail
      exact ⟨⟨1, by omega, by go_num, HX2.out⟩, by simp [intOf]⟩
    | 1, _ =>
      have HW := Lib.hid (HE.out.trans HX.out)
      clear HX
      go_wp2_with fail
      go_loopw [43] (fun i wx => i = .int .i64 0 ∧ Ext wr wx) (fun _ _ => 0)
      case atStart => exact ⟨rfl, Ext.refl _⟩
      case round =>
        obtain ⟨rfl, hx⟩ := hrel
        replace q2 := hx.cell q2
        have HW2 := Lib.hid (HW.out.trans hx)
        clear hx
        go_wp2_with fail
        generalize hwo : wr = wo at *
        clear hwo
        go_loopw [54] (fun i wx => i = .int .i64 0 ∧ Ext w wx) (fun _ _ => 0)
        case atStart => exact ⟨rfl, HW2.out⟩
        case round =>
          obtain ⟨rfl, hx⟩ := hrel
          have HX3 := Lib.hid hx
          clear hx
          go_wp2_with fail
          go_ret
          exact ⟨rfl, HX3.out⟩
end Go.Proofs.YtfmedddjmcplnaaDoor
