/- Proved here: the contracts and laws of GcC, GcD, GcE, GcF, GcG, GcH, Fifo, FifoM, UMap, GcI, GcJ, GcK of this claim, each beneath its own remark; conditions: those that each theorem names. -/
import Derived.Test.YtinakendlpomnaaGreatM7
import Derived.Test.YtinakendlpomnaaGreatM2
import Derived.Test.YtinakendlpomnaaGreatM3
import Derived.Test.YtinakendlpomnaaGreatM1
import Derived.Test.YtinakendlpomnaaGreatProg
import Derived.Shelf.SlicesG.SearchI
import Derived.Deep.Upon
import Derived.Deep.MidRow
import Derived.Maps.OwnOps
import Derived.Maps.Views
import Derived.Shelf.SlicesE.Clone
import Derived.Lib.SliceRun
/- A mover moves what a word leads to. -/
namespace Go.Proofs.YtinakendlpomnaaGreat
open Go.RowKit Go.Maps Arena
set_option maxHeartbeats 4000000
set_option maxRecDepth 100000
theorem moved_bits {t : Nat} (ht : t ≤ 4000) : movedW t % 256 = 5 ∧ W64 (movedW t) ∧ bits .and .u64 (movedW t / 256) 16777215 = (t : Int) := by
  have h1 : W64 (movedW t) := by unfold W64 movedW; omega
  refine ⟨by unfold movedW; omega, h1, ?_⟩
  rw [and_tag ⟨by have := h1.1; omega, by have := h1.2; omega⟩]
  unfold movedW
  omega
theorem moved_or {t : Nat} (ht : t ≤ 4000) : bits .or .u64 5 ((t : Int) * 256) = movedW t := by
  unfold movedW
  have e := or_apart 8 5 (t * 256) (by omega) (by omega) (by omega) (by omega)
  rw [show ((5 : Nat) : Int) = (5 : Int) from rfl, show ((t * 256 : Nat) : Int) = (t : Int) * 256 by omega] at e
  rw [e]
  omega
theorem q_gen {Q : Exit → Act → World → Prop} {e : Exit} {a : Act} {w : World} (F : World → Prop) (hF : F w) (h : ∀ W, F W → Q e a W) : Q e a w := h w hF
theorem MvAt.put {w : World} {mb p : Nat} {ba t : Int} (m : MvAt w mb p ba t) (t' : Int) : MvAt (w.setCell ⟨mb, 2, none⟩ (.int .i64 t')) mb p ba t' ∧ Turn [mb] w (w.setCell ⟨mb, 2, none⟩ (.int .i64 t')) :=
  ⟨⟨by simp [World.setCell, Array.getElem?_modify, m.blk]⟩, (Turn.refl [mb] w).setCell (.inl (by simp)) _⟩
theorem Sp.turn {w w' : World} {p g bm n : Nat} {ws : List Int} {R : List (Nat × Nat)} {ba H sp : Nat} {A B : List Int} (h : Sp w p g bm n ws R ba H sp A B) {mb : Nat} (t : Turn [mb] w w') (hlo : p < mb ∧ g < mb ∧ bm < mb) : Sp w' p g bm n ws R ba H sp A B :=
  ⟨h.a.turn t (by simp; omega) (by simp; omega) (by simp; omega), h.lw, h.reg, h.one, h.lA, h.lB, h.hi, h.wf⟩
/-- what one more word's object makes of the row of objects -/
def AddL (F F' : List (Nat × Ob)) (L L' : List Ob) : Prop := (F' = F ∧ L' = L) ∨ ∃ y, F' = F ++ [y] ∧ L' = L ++ [y.2]
/-- what a move says -/
structure Moved (p g bm n mb : Nat) (ws : List Int) (R : List (Nat × Nat)) (ba H sp : Nat) (Hs Fin F F' : List (Nat × Ob)) (L : List Ob) (w w' : World) : Prop where
  ex : ∃ A' B' L', Sp w' p g bm n ws R ba H sp A' B' ∧ MvSt ((1 - sp) * H) H Hs Fin F' L' A' B' ∧ AddL F F' L L'
  m : MvAt w' mb p ba (((1 - sp) * H + sizeF F' : Nat) : Int)
  t : Turn [g, mb] w w'
section
variable {w : World} {p g bm n mb : Nat} {ws : List Int} {R : List (Nat × Nat)} {ba H sp : Nat} {Hs Fin F : List (Nat × Ob)} {L : List Ob} {A B : List Int}
theorem move_int {x : Int} (hx : W64 x) (hi : isIntW x = true) (w : World) : Calls Tryz.prog 34 #[.pointer (some ⟨mb, 0, none⟩), .int .u64 x] w fun e w' => e = .returned (.int .u64 x) ∧ Ext w w' := by
  have HA := Lib.hid (fun W => at_is hx W)
  rw [if_pos (Or.inl hi)] at HA
  clear hx hi
  go_enter Tryz.func34, Tryz.ntmps34
  go_wp2_with fail
  refine (HA.out _).mono ?_
  rintro e w1 ⟨rfl, rfl⟩
  go_wp2
  go_ret
  exact ⟨rfl, by first | exact Ext.refl _ | exact Ext.drew _⟩
theorem move_seen (S : Sp w p g bm n ws R ba H sp A B) (M : MvAt w mb p ba (((1 - sp) * H + sizeF F : Nat) : Int)) (st : MvSt ((1 - sp) * H) H Hs Fin F L A B) {x : Int} (hx : W64 x) {y : Nat × Ob} (hg : getL (sp * H) Hs x = some y) (hy : y ∈ F) :
    Calls Tryz.prog 34 #[.pointer (some ⟨mb, 0, none⟩), .int .u64 x] w fun e w' => e = .returned (.int .u64 (newW (sp * H) ((1 - sp) * H) Fin x)) ∧ Ext w w' := by
  obtain ⟨_, h1, h2, h3⟩ := getL_some hg
  have HA := Lib.hid (fun W => at_is hx W)
  rw [if_neg (by rw [h2]; intro h; rcases h with h | h; cases h; omega)] at HA
  obtain ⟨k, hk⟩ : ∃ k : Int, k = x / 2 := ⟨_, rfl⟩
  rw [← hk] at HA
  have hoff : (1 - sp) * H + offF Fin y.1 ≤ 4000 := by
    have e1 := sp_le (sp := 1 - sp) (H := H) (by omega)
    have e2 := S.hi
    have e3 : y ∈ Fin := st.pre.subset hy
    have e4 := offF_lt e3
    have e5 := st.fin.size.1
    have e6 := st.hs.size
    omega
  have HG := Lib.hid (fun W (e : Ext w W) => gget_is (S.a.ext e) (M.ext e) S.wf k)
  have hA := S.getA (st.mvd y hy)
  have hkk : k = ((sp * H + y.1 : Nat) : Int) := by omega
  rw [← hkk] at hA
  rw [hA] at HG
  rw [newW_of hg]
  obtain ⟨t, ht⟩ : ∃ t, t = (1 - sp) * H + offF Fin y.1 := ⟨_, rfl⟩
  rw [← ht] at HG hoff ⊢
  obtain ⟨m1, m2, m3⟩ := moved_bits hoff
  have HK := Lib.hid (fun W => kind_is m2 W)
  rw [m1] at HK
  have HP := Lib.hid (fun W => place_is (n := t) (by omega) W)
  generalize movedW t = hd at HG m2 m3 HK
  have m4 : 0 ≤ hd := m2.1
  clear hA hkk ht m1 m2 S M st hx hg hy h1 h2 h3 hk
  go_enter Tryz.func34, Tryz.ntmps34
  go_wp2_with fail
  refine (HA.out _).mono ?_
  rintro e w1 ⟨rfl, rfl⟩
  go_wp2_with fail
  refine (HG.out _ (by first | exact Ext.refl _ | exact Ext.drew _)).mono ?_
  rintro e w2 ⟨rfl, hx2⟩
  have HX2 := Lib.hid (show Ext w w2 by first | exact hx2 | exact (Ext.drew _).trans hx2)
  clear hx2
  go_wp2_with fail
  refine (HK.out _).mono ?_
  rintro e w3 ⟨rfl, rfl⟩
  go_wp2_with fail
  refine (HP.out _).mono ?_
  rintro e w4 ⟨rfl, rfl⟩
  go_wp2
  go_ret
  exact ⟨rfl, by first | exact HX2.out | exact HX2.out.trans (Ext.drew _)⟩
theorem move_new (S : Sp w p g bm n ws R ba H sp A B) (M : MvAt w mb p ba (((1 - sp) * H + sizeF F : Nat) : Int)) (st : MvSt ((1 - sp) * H) H Hs Fin F L A B) {x : Int} (hx : W64 x) {y : Nat × Ob} (hg : getL (sp * H) Hs x = some y) (hn : inF F y.1 = false) (hp : F ++ [y] <+: Fin) (hmg : mb ≠ g) (hlo : p < mb ∧ g < mb ∧ bm < mb) :
    Calls Tryz.prog 34 #[.pointer (some ⟨mb, 0, none⟩), .int .u64 x] w fun e w' => e = .returned (.int .u64 (newW (sp * H) ((1 - sp) * H) Fin x)) ∧ Moved p g bm n mb ws R ba H sp Hs Fin F (F ++ [y]) L w w' := by
  obtain ⟨hyH, h1, h2, h3⟩ := getL_some hg
  have HA := Lib.hid (fun W => at_is hx W)
  rw [if_neg (by rw [h2]; intro h; rcases h with h | h; cases h; omega)] at HA
  obtain ⟨k, hk⟩ : ∃ k : Int, k = x / 2 := ⟨_, rfl⟩
  rw [← hk] at HA
  have hkk : k = ((sp * H + y.1 : Nat) : Int) := by omega
  have hroom := st.room hp
  have hmy := st.hs.may y hyH
  have hfit := st.hs.fit y hyH
  have hll := layO_len hmy
  have hwp := wordsO_pos y.2
  have hHi := S.hi
  have hsp0 := sp_le (H := H) S.one
  have hsp1 := sp_le (sp := 1 - sp) (H := H) (by omega)
  have hkeep := st.keep y hyH hn
  obtain ⟨hw1, hw2, hw3⟩ := hdW_head hmy
  have h0 : A[y.1]? = some (headO y.2) := by
    have := hkeep 0 (by omega)
    rw [Nat.add_zero] at this
    rw [this]
    rfl
  have HG := Lib.hid (fun W (e : Ext w W) => gget_is (S.a.ext e) (M.ext e) S.wf k)
  have hA := S.getA h0
  rw [← hkk] at hA
  rw [hA] at HG
  have hoffF : offF Fin y.1 = sizeF F := by
    obtain ⟨T, hT⟩ := hp
    rw [← hT, List.append_assoc, List.singleton_append]
    exact offF_new hn T
  rw [newW_of hg, hoffF]
  obtain ⟨tn, htn⟩ : ∃ tn : Nat, tn = (1 - sp) * H + sizeF F := ⟨_, rfl⟩
  have M0 := M
  rw [← htn] at M0 ⊢
  have htb : tn ≤ 4000 := by omega
  have HK := Lib.hid (fun W => kind_is hw3 W)
  rw [hw2] at HK
  have HW := Lib.hid (fun W => words_is hw3 W)
  rw [hw1] at HW
  obtain ⟨nn, hnn⟩ : ∃ nn, nn = wordsO y.2 := ⟨_, rfl⟩
  rw [← hnn] at HW
  have hnb : 1 ≤ nn ∧ nn ≤ 2000 := by omega
  have hkd : (y.2.kind == 5) = false := by
    unfold mayO at hmy
    have := mayK_bounds hmy
    exact beq_false_of_ne (by omega)
  have HP := Lib.hid (fun W => place_is (n := tn) (by omega) W)
  have hor := moved_or htb
  generalize headO y.2 = hd at HG HK HW
  have hka : 0 ≤ k ∧ k ≤ 4000 := by omega
  obtain ⟨hk0, hk1⟩ := hka
  obtain ⟨hn0, hn1⟩ := hnb
  have HS := Lib.hid S; have HM := Lib.hid M0; have HST := Lib.hid st; have HKK := Lib.hid hkk; have HTN := Lib.hid htn; have HNN := Lib.hid hnn; have HKP := Lib.hid hkeep; have HMY := Lib.hid hmy; have HRM := Lib.hid hroom; have HP2 := Lib.hid hp; have HNI := Lib.hid hn; have HYH := Lib.hid hyH; have HLL := Lib.hid hll; have HFT := Lib.hid hfit
  obtain ⟨m0, m1, m2⟩ := cells3 M0.blk
  clear hA M0 S M st hx hg h1 h2 h3 hk hkk htn hnn hkeep hmy hroom hp hn hyH hll hfit hw1 hw2 hw3 h0 hoffF hwp hsp0 hsp1 hHi
  go_enter Tryz.func34, Tryz.ntmps34
  go_wp2_with fail
  refine (HA.out _).mono ?_
  rintro e w1 ⟨rfl, rfl⟩
  go_wp2_with fail
  refine (HG.out _ (by first | exact Ext.refl _ | exact Ext.drew _)).mono ?_
  rintro e w2 ⟨rfl, hx2⟩
  have HX2 := Lib.hid (show Ext w w2 by first | exact hx2 | exact (Ext.drew _).trans hx2)
  have M2 := Lib.hid (HM.out.ext HX2.out)
  have S2 := Lib.hid (HS.out.ext HX2.out)
  clear hx2 m0 m1 m2
  obtain ⟨m0, m1, m2⟩ := cells3 M2.out.blk
  go_wp2_with fail
  refine (HK.out _).mono ?_
  rintro e w3 ⟨rfl, rfl⟩
  go_wp2_with fail
  refine (HW.out _).mono ?_
  rintro e w4 ⟨rfl, rfl⟩
  go_wp2_with fail
  go_loopw [35] (fun i wr => ∃ j : Nat, j ≤ nn ∧ i = .int .i64 j ∧ Sp wr p g bm n ws R ba H sp A (cpB H L y.2 j) ∧ MvAt wr mb p ba (tn : Int) ∧ Turn [g] w wr) (fun i _ => nn - (Go.RowKit.intOf i).toNat)
  case atStart => exact ⟨0, Nat.zero_le _, rfl, by rw [cpB_zero HST.out]; exact S2.out, M2.out, Turn.of_ext HX2.out⟩
  case round =>
    obtain ⟨j, hj, rfl, hS, hM, hT⟩ := hrel
    have S3 := Lib.hid hS; have M3 := Lib.hid hM; have T3 := Lib.hid hT
    clear hS hM hT m0 m1 m2
    obtain ⟨m0, m1, m2⟩ := cells3 M3.out.blk
    by_cases hlt : j < nn
    · obtain ⟨v, hv⟩ : ∃ v, (layO y.2)[j]? = some v := ⟨_, List.getElem?_eq_getElem (by have := HLL.out; have := HNN.out; omega)⟩
      have hgv : getW (regW ws ba (mkV sp A (cpB H L y.2 j))) R ba (k + (j : Int)) = v := by
        have h1 := S3.out.getA (i := y.1 + j) (x := v) (by rw [HKP.out j (by have := HNN.out; omega)]; exact hv)
        rw [show k + (j : Int) = ((sp * H + (y.1 + j) : Nat) : Int) by have := HKK.out; omega]
        exact h1
      have GG := Lib.hid (fun W (e : Ext wr W) => gget_is (S3.out.a.ext e) (M3.out.ext e) S3.out.wf (k + (j : Int)))
      rw [hgv] at GG
      have hsz := HST.out.sz
      have SET := Lib.hid (fun W (h : Sp W p g bm n ws R ba H sp A (cpB H L y.2 j)) => h.setB (i := sizeL L + j) (by have := HRM.out; have := HNN.out; omega) v)
      rw [cpB_set HST.out.may (by rw [hsz]; exact HRM.out) HMY.out hv, show (((1 - sp) * H + (sizeL L + j) : Nat) : Int) = (tn : Int) + (j : Int) by have := HTN.out; omega] at SET
      have hw1 : IntKind.i64.wrap (k + (j : Int)) = k + (j : Int) := IntWalk.i64_in _ (by omega)
      have hw2 : IntKind.i64.wrap ((tn : Int) + (j : Int)) = (tn : Int) + (j : Int) := IntWalk.i64_in _ (by omega)
      clear hsz hgv hv
      go_upto_region 11 with fail
      refine wp_region_noPanic ?_
      refine wp_region_last 16 (S := (fun w' => w'.cell? ⟨mb, 0, none⟩ = some (.pointer (some ⟨p, 0, none⟩)) ∧ w'.cell? ⟨mb, 1, none⟩ = some (.int .i64 ba))) (by kernel_rfl) (by kernel_rfl) _ rfl ?_ (fun hHeld => ?_)
      · (first | with_reducible exact ⟨(Ext.drew _).cell m0, (Ext.drew _).cell m1⟩ | with_reducible exact ⟨hx9.cell m0, hx9.cell m1⟩)
      simp only [List.take_succ_cons, List.take_zero]
      refine wpAnyH_take (i := 0) (v := ?v1) rfl (by kernel_rfl) (by kernel_rfl) (by kernel_rfl) (fun _ _ _ h => h) (Or.inl ⟨by rfl, ?y1⟩) (by assumption) ?r1
      case y1 => intro w hSw; (try dsimp only at hSw); go_simp; (try with_reducible rfl)
      (try simp only [Act.put, List.setIfInBounds_toArray, List.set_cons_zero, List.set_cons_succ, List.getElem_toArray, List.getElem_cons_zero, List.getElem_cons_succ])
      refine wpAnyH_take (i := 1) (v := ?v2) rfl (by kernel_rfl) (by kernel_rfl) (by kernel_rfl) (fun _ _ _ h => h) (Or.inl ⟨by rfl, ?y2⟩) (by assumption) ?r2
      case y2 => intro w hSw; (try dsimp only at hSw); go_simp; (try with_reducible rfl)
      (try simp only [Act.put, List.setIfInBounds_toArray, List.set_cons_zero, List.set_cons_succ, List.getElem_toArray, List.getElem_cons_zero, List.getElem_cons_succ])
      refine wpAnyH_take (i := 2) (v := ?v3) rfl (by kernel_rfl) (by kernel_rfl) (by kernel_rfl) (fun _ _ _ h => h) (Or.inl ⟨by rfl, ?y3⟩) (by assumption) ?r3
      case y3 => intro w hSw; (try dsimp only at hSw); go_simp; (try with_reducible rfl)
      (try simp only [Act.put, List.setIfInBounds_toArray, List.set_cons_zero, List.set_cons_succ, List.getElem_toArray, List.getElem_cons_zero, List.getElem_cons_succ])
      refine wpAnyH_take (i := 3) (v := ?v4) rfl (by kernel_rfl) (by kernel_rfl) (by kernel_rfl) (fun _ _ _ h => h) (Or.inl ⟨by rfl, ?y4⟩) (by assumption) ?r4
      case y4 => intro w hSw; (try dsimp only at hSw); go_simp; (try with_reducible rfl)
      (try simp only [Act.put, List.setIfInBounds_toArray, List.set_cons_zero, List.set_cons_succ, List.getElem_toArray, List.getElem_cons_zero, List.getElem_cons_succ])
      refine wpAnyH_take (i := 4) (v := ?v5) rfl (by kernel_rfl) (by kernel_rfl) (by kernel_rfl) (fun _ _ _ h => h) (Or.inl ⟨by rfl, ?y5⟩) (by assumption) ?r5
      case y5 => intro w hSw; (try dsimp only at hSw); go_simp; (try with_reducible rfl)
      (try simp only [Act.put, List.setIfInBounds_toArray, List.set_cons_zero, List.set_cons_succ, List.getElem_toArray, List.getElem_cons_zero, List.getElem_cons_succ])
      refine wpAnyH_take (i := 5) (v := ?v6) rfl (by kernel_rfl) (by kernel_rfl) (by kernel_rfl) (fun _ _ _ h => h) (Or.inl ⟨by rfl, ?y6⟩) (by assumption) ?r6
      case y6 => intro w hSw; (try dsimp only at hSw); go_simp; (try with_reducible rfl)
      (try simp only [Act.put, List.setIfInBounds_toArray, List.set_cons_zero, List.set_cons_succ, List.getElem_toArray, List.getElem_cons_zero, List.getElem_cons_succ])
      refine wpAnyH_take (i := 6) (v := ?v7) rfl (by kernel_rfl) (by kernel_rfl) (by kernel_rfl) (fun _ _ _ h => h) (Or.inl ⟨by rfl, ?y7⟩) (by assumption) ?r7
      case y7 => intro w hSw; (try dsimp only at hSw); go_simp; (try with_reducible rfl)
      (try simp only [Act.put, List.setIfInBounds_toArray, List.set_cons_zero, List.set_cons_succ, List.getElem_toArray, List.getElem_cons_zero, List.getElem_cons_succ])
      refine wpAnyH_take (i := 7) (v := ?v8) rfl (by kernel_rfl) (by kernel_rfl) (by kernel_rfl) (fun _ _ _ h => h) (Or.inl ⟨by rfl, ?y8⟩) (by assumption) ?r8
      case y8 => intro w hSw; (try dsimp only at hSw); go_simp; (try with_reducible rfl)
      (try simp only [Act.put, List.setIfInBounds_toArray, List.set_cons_zero, List.set_cons_succ, List.getElem_toArray, List.getElem_cons_zero, List.getElem_cons_succ])
      refine wpAnyH_take (i := 8) (v := ?v9) rfl (by kernel_rfl) (by kernel_rfl) (by kernel_rfl) (fun _ _ _ h => h) (Or.inl ⟨by rfl, ?y9⟩) (by assumption) ?r9
      case y9 => intro w hSw; (try dsimp only at hSw); go_simp; (try with_reducible rfl)
      (try simp only [Act.put, List.setIfInBounds_toArray, List.set_cons_zero, List.set_cons_succ, List.getElem_toArray, List.getElem_cons_zero, List.getElem_cons_succ])
      refine wpAnyH_take (i := 9) (v := ?v10) rfl (by kernel_rfl) (by kernel_rfl) (by kernel_rfl) (fun _ _ _ h => h) (Or.inl ⟨by rfl, ?y10⟩) (by assumption) ?r10
      case y10 => intro w hSw; (try dsimp only at hSw); go_simp; (try with_reducible rfl)
      (try simp only [Act.put, List.setIfInBounds_toArray, List.set_cons_zero, List.set_cons_succ, List.getElem_toArray, List.getElem_cons_zero, List.getElem_cons_succ])
      refine wpAnyH_take (i := 10) (v := ?v11) rfl (by kernel_rfl) (by kernel_rfl) (by kernel_rfl) (fun _ _ _ h => h) (Or.inl ⟨by rfl, ?y11⟩) (by assumption) ?r11
      case y11 => intro w hSw; (try dsimp only at hSw); go_simp; (try with_reducible rfl)
      (try simp only [Act.put, List.setIfInBounds_toArray, List.set_cons_zero, List.set_cons_succ, List.getElem_toArray, List.getElem_cons_zero, List.getElem_cons_succ])
      refine wpAnyH_take (i := 11) (v := ?v12) rfl (by kernel_rfl) (by kernel_rfl) (by kernel_rfl) (fun _ _ _ h => h) (Or.inl ⟨by rfl, ?y12⟩) (by assumption) ?r12
      case y12 => intro w hSw; (try dsimp only at hSw); go_simp; (try with_reducible rfl)
      (try simp only [Act.put, List.setIfInBounds_toArray, List.set_cons_zero, List.set_cons_succ, List.getElem_toArray, List.getElem_cons_zero, List.getElem_cons_succ])
      refine wpAnyH_take (i := 12) (v := ?v13) rfl (by kernel_rfl) (by kernel_rfl) (by kernel_rfl) (fun _ _ _ h => h) (Or.inl ⟨by rfl, ?y13⟩) (by assumption) ?r13
      case y13 => intro w hSw; (try dsimp only at hSw); go_simp; (try with_reducible rfl)
      (try simp only [Act.put, List.setIfInBounds_toArray, List.set_cons_zero, List.set_cons_succ, List.getElem_toArray, List.getElem_cons_zero, List.getElem_cons_succ])
      refine wpAnyH_take (i := 13) (v := ?v14) rfl (by kernel_rfl) (by kernel_rfl) (by kernel_rfl) (fun _ _ _ h => h) (Or.inl ⟨by rfl, ?y14⟩) (by assumption) ?r14
      case y14 => intro w hSw; (try dsimp only at hSw); go_simp; (try with_reducible rfl)
      (try simp only [Act.put, List.setIfInBounds_toArray, List.set_cons_zero, List.set_cons_succ, List.getElem_toArray, List.getElem_cons_zero, List.getElem_cons_succ])
      refine wpAnyH_take (i := 14) (v := ?v15) rfl (by kernel_rfl) (by kernel_rfl) (by kernel_rfl) (fun _ _ _ h => h) (Or.inl ⟨by rfl, ?y15⟩) (by assumption) ?r15
      case y15 => intro w hSw; (try dsimp only at hSw); go_simp; (try with_reducible rfl)
      (try simp only [Act.put, List.setIfInBounds_toArray, List.set_cons_zero, List.set_cons_succ, List.getElem_toArray, List.getElem_cons_zero, List.getElem_cons_succ])
      refine wpAnyH_ready (rs := [15]) (by kernel_rfl) (by simp) ?_
      refine AllReadyH.cons rfl (fun K hK => ?_) AllReadyH.nil
      go_simp
      refine (GG.out _ (Ext.drew _)).mono ?_
      rintro e w9 ⟨rfl, hx9⟩
      have hx9 := (Ext.drew wr).trans hx9
      refine hK.out _ _ ?s16 (fun hHeld => ?k16)
      case s16 => ((try dsimp only); (first | with_reducible exact ⟨(Ext.drew _).cell m0, (Ext.drew _).cell m1⟩ | with_reducible exact ⟨hx9.cell m0, hx9.cell m1⟩))
      clear hK K
      (try simp only [Act.put, List.setIfInBounds_toArray, List.set_cons_zero, List.set_cons_succ, List.getElem_toArray, List.getElem_cons_zero, List.getElem_cons_succ])
      refine wpAnyH_done (by kernel_rfl) ?_ _
      show wpList _ _ _ _ _ _
      have HX9 := Lib.hid hx9
      clear hx9 hHeld
      go_wp2_with fail
      refine (SET.out _ (S3.out.ext HX9.out)).mono ?_
      rintro e w10 ⟨rfl, hS10, hT10⟩
      have S10 := Lib.hid hS10; have T10 := Lib.hid hT10
      clear hS10 hT10
      go_wp2
      refine NoPanic.normal ?_
      go_wp2
      exact ⟨⟨j + 1, by omega, by go_num, S10.out, (M3.out.ext HX9.out).turn T10.out hmg, (T3.out.trans (Turn.of_ext HX9.out)).trans T10.out⟩, by simp [Go.RowKit.intOf]; omega⟩
    · obtain rfl : j = nn := by omega
      have hf2 := free_at M3.out.blk (i := 2)
      have hmw : mb < wr.heap.size := (Array.getElem?_eq_some_iff.1 M3.out.blk).1
      go_upto_region 13 with fail
      have hw3 : IntKind.i64.wrap ((tn : Int) + (j : Int)) = (tn : Int) + (j : Int) := IntWalk.i64_in _ (by omega)
      refine wp_region_noPanic ?_
      refine wp_region_last 9 (S := (fun w' => w'.cell? ⟨mb, 2, none⟩ = some (.int .i64 tn) ∧ w'.frozen? ⟨mb, 2, none⟩ = false)) (by kernel_rfl) (by kernel_rfl) _ rfl ?_ (fun hHeld => ?_)
      · (with_reducible exact ⟨(Ext.drew _).cell m2, ((Ext.drew _).frozen m2).trans hf2⟩)
      simp only [List.take_succ_cons, List.take_zero]
      refine wpAnyH_take (i := 0) (v := ?v17) rfl (by kernel_rfl) (by kernel_rfl) (by kernel_rfl) (fun _ _ _ h => h) (Or.inl ⟨by rfl, ?y17⟩) (by assumption) ?r17
      case y17 => intro w hSw; (try dsimp only at hSw); go_simp; (try with_reducible rfl)
      (try simp only [Act.put, List.setIfInBounds_toArray, List.set_cons_zero, List.set_cons_succ, List.getElem_toArray, List.getElem_cons_zero, List.getElem_cons_succ])
      refine wpAnyH_take (i := 1) (v := ?v18) rfl (by kernel_rfl) (by kernel_rfl) (by kernel_rfl) (fun _ _ _ h => h) (Or.inl ⟨by rfl, ?y18⟩) (by assumption) ?r18
      case y18 => intro w hSw; (try dsimp only at hSw); go_simp; (try with_reducible rfl)
      (try simp only [Act.put, List.setIfInBounds_toArray, List.set_cons_zero, List.set_cons_succ, List.getElem_toArray, List.getElem_cons_zero, List.getElem_cons_succ])
      refine wpAnyH_take (i := 2) (v := ?v19) rfl (by kernel_rfl) (by kernel_rfl) (by kernel_rfl) (fun _ _ _ h => h) (Or.inl ⟨by rfl, ?y19⟩) (by assumption) ?r19
      case y19 => intro w hSw; (try dsimp only at hSw); go_simp; (try with_reducible rfl)
      (try simp only [Act.put, List.setIfInBounds_toArray, List.set_cons_zero, List.set_cons_succ, List.getElem_toArray, List.getElem_cons_zero, List.getElem_cons_succ])
      refine wpAnyH_take (i := 3) (v := ?v20) rfl (by kernel_rfl) (by kernel_rfl) (by kernel_rfl) (fun _ _ _ h => h) (Or.inl ⟨by rfl, ?y20⟩) (by assumption) ?r20
      case y20 => intro w hSw; (try dsimp only at hSw); go_simp; (try with_reducible rfl)
      (try simp only [Act.put, List.setIfInBounds_toArray, List.set_cons_zero, List.set_cons_succ, List.getElem_toArray, List.getElem_cons_zero, List.getElem_cons_succ])
      refine wpAnyH_take (i := 4) (v := ?v21) rfl (by kernel_rfl) (by kernel_rfl) (by kernel_rfl) (fun _ _ _ h => h) (Or.inl ⟨by rfl, ?y21⟩) (by assumption) ?r21
      case y21 => intro w hSw; (try dsimp only at hSw); go_simp; (try with_reducible rfl)
      (try simp only [Act.put, List.setIfInBounds_toArray, List.set_cons_zero, List.set_cons_succ, List.getElem_toArray, List.getElem_cons_zero, List.getElem_cons_succ])
      refine wpAnyH_ready (rs := [5]) (by kernel_rfl) (by simp) ?_
      refine AllReadyH.cons rfl (fun K hK => ?_) AllReadyH.nil
      go_simp
      refine (HW.out _).mono ?_
      rintro e w9 ⟨rfl, rfl⟩
      refine hK.out _ _ ?s22 (fun hHeld => ?k22)
      case s22 => ((try dsimp only); (with_reducible exact ⟨(Ext.drew _).cell m2, ((Ext.drew _).frozen m2).trans hf2⟩))
      clear hK K
      (try simp only [Act.put, List.setIfInBounds_toArray, List.set_cons_zero, List.set_cons_succ, List.getElem_toArray, List.getElem_cons_zero, List.getElem_cons_succ])
      refine wpAnyH_take (i := 6) (v := ?v23) rfl (by kernel_rfl) (by kernel_rfl) (by kernel_rfl) (fun _ _ _ h => h) (Or.inl ⟨by rfl, ?y23⟩) (by assumption) ?r23
      case y23 => intro w hSw; (try dsimp only at hSw); go_simp; (try with_reducible rfl)
      (try simp only [Act.put, List.setIfInBounds_toArray, List.set_cons_zero, List.set_cons_succ, List.getElem_toArray, List.getElem_cons_zero, List.getElem_cons_succ])
      refine wpAnyH_take (i := 7) (v := ?v24) rfl (by kernel_rfl) (by kernel_rfl) (by kernel_rfl) (fun _ _ _ h => h) (Or.inl ⟨by rfl, ?y24⟩) (by assumption) ?r24
      case y24 => intro w hSw; (try dsimp only at hSw); go_simp; (try with_reducible rfl)
      (try simp only [Act.put, List.setIfInBounds_toArray, List.set_cons_zero, List.set_cons_succ, List.getElem_toArray, List.getElem_cons_zero, List.getElem_cons_succ])
      refine wpAnyH_take (i := 8) (v := ?v25) rfl (by kernel_rfl) (by kernel_rfl) (by kernel_rfl) (fun _ _ _ h => h) (Or.inl ⟨by rfl, ?y25⟩) (by assumption) ?r25
      case y25 => intro w hSw; (try dsimp only at hSw); go_simp; (try with_reducible rfl)
      (try simp only [Act.put, List.setIfInBounds_toArray, List.set_cons_zero, List.set_cons_succ, List.getElem_toArray, List.getElem_cons_zero, List.getElem_cons_succ])
      refine wpAnyH_done (by kernel_rfl) ?_ _
      show wpList _ _ _ _ _ _
      have hdc := (Ext.drew wr).cell m2
      have hdf := ((Ext.drew wr).frozen m2).trans hf2
      go_wp2
      refine NoPanic.normal ?_
      refine q_gen (fun W => MvAt W mb p ba ((tn : Int) + (j : Int)) ∧ Turn [mb] wr W) ⟨((M3.out.ext (Ext.drew _)).put _).1, (Turn.of_ext (Ext.drew _)).trans ((M3.out.ext (Ext.drew _)).put _).2⟩ fun W11 hW11 => ?_
      have M11 := Lib.hid hW11.1
      have S11 := Lib.hid (S3.out.turn hW11.2 hlo)
      have T11 := Lib.hid hW11.2
      clear hW11 hHeld hdc hdf hw3 m0 m1 m2 hf2
      obtain ⟨m0, m1, m2⟩ := cells3 M11.out.blk
      have SETA := Lib.hid (fun W (h : Sp W p g bm n ws R ba H sp A (cpB H L y.2 j)) => h.setA (i := y.1) (by have := HFT.out; have := wordsO_pos y.2; omega) (movedW tn))
      rw [show ((sp * H + y.1 : Nat) : Int) = k from HKK.out.symm] at SETA
      have hw4 : IntKind.u64.wrap (tn : Int) = (tn : Int) := wrapu_of (by omega) (by omega)
      have hw5 : IntKind.u64.wrap ((tn : Int) * 256) = (tn : Int) * 256 := wrapu_of (by omega) (by omega)
      go_upto_region 14 with fail
      refine wp_region_noPanic ?_
      refine wp_region_last 13 (S := (fun w' => w'.cell? ⟨mb, 0, none⟩ = some (.pointer (some ⟨p, 0, none⟩)) ∧ w'.cell? ⟨mb, 1, none⟩ = some (.int .i64 ba))) (by kernel_rfl) (by kernel_rfl) _ rfl ?_ (fun hHeld => ?_)
      · (with_reducible exact ⟨(Ext.drew _).cell m0, (Ext.drew _).cell m1⟩)
      simp only [List.take_succ_cons, List.take_zero]
      refine wpAnyH_take (i := 0) (v := ?v26) rfl (by kernel_rfl) (by kernel_rfl) (by kernel_rfl) (fun _ _ _ h => h) (Or.inl ⟨by rfl, ?y26⟩) (by assumption) ?r26
      case y26 => intro w hSw; (try dsimp only at hSw); go_simp; (try with_reducible rfl)
      (try simp only [Act.put, List.setIfInBounds_toArray, List.set_cons_zero, List.set_cons_succ, List.getElem_toArray, List.getElem_cons_zero, List.getElem_cons_succ])
      refine wpAnyH_take (i := 1) (v := ?v27) rfl (by kernel_rfl) (by kernel_rfl) (by kernel_rfl) (fun _ _ _ h => h) (Or.inl ⟨by rfl, ?y27⟩) (by assumption) ?r27
      case y27 => intro w hSw; (try dsimp only at hSw); go_simp; (try with_reducible rfl)
      (try simp only [Act.put, List.setIfInBounds_toArray, List.set_cons_zero, List.set_cons_succ, List.getElem_toArray, List.getElem_cons_zero, List.getElem_cons_succ])
      refine wpAnyH_take (i := 2) (v := ?v28) rfl (by kernel_rfl) (by kernel_rfl) (by kernel_rfl) (fun _ _ _ h => h) (Or.inl ⟨by rfl, ?y28⟩) (by assumption) ?r28
      case y28 => intro w hSw; (try dsimp only at hSw); go_simp; (try with_reducible rfl)
      (try simp only [Act.put, List.setIfInBounds_toArray, List.set_cons_zero, List.set_cons_succ, List.getElem_toArray, List.getElem_cons_zero, List.getElem_cons_succ])
      refine wpAnyH_take (i := 3) (v := ?v29) rfl (by kernel_rfl) (by kernel_rfl) (by kernel_rfl) (fun _ _ _ h => h) (Or.inl ⟨by rfl, ?y29⟩) (by assumption) ?r29
      case y29 => intro w hSw; (try dsimp only at hSw); go_simp; (try with_reducible rfl)
      (try simp only [Act.put, List.setIfInBounds_toArray, List.set_cons_zero, List.set_cons_succ, List.getElem_toArray, List.getElem_cons_zero, List.getElem_cons_succ])
      refine wpAnyH_take (i := 4) (v := ?v30) rfl (by kernel_rfl) (by kernel_rfl) (by kernel_rfl) (fun _ _ _ h => h) (Or.inl ⟨by rfl, ?y30⟩) (by assumption) ?r30
      case y30 => intro w hSw; (try dsimp only at hSw); go_simp; (try with_reducible rfl)
      (try simp only [Act.put, List.setIfInBounds_toArray, List.set_cons_zero, List.set_cons_succ, List.getElem_toArray, List.getElem_cons_zero, List.getElem_cons_succ])
      refine wpAnyH_take (i := 5) (v := ?v31) rfl (by kernel_rfl) (by kernel_rfl) (by kernel_rfl) (fun _ _ _ h => h) (Or.inl ⟨by rfl, ?y31⟩) (by assumption) ?r31
      case y31 => intro w hSw; (try dsimp only at hSw); go_simp; (try with_reducible rfl)
      (try simp only [Act.put, List.setIfInBounds_toArray, List.set_cons_zero, List.set_cons_succ, List.getElem_toArray, List.getElem_cons_zero, List.getElem_cons_succ])
      refine wpAnyH_take (i := 6) (v := ?v32) rfl (by kernel_rfl) (by kernel_rfl) (by kernel_rfl) (fun _ _ _ h => h) (Or.inl ⟨by rfl, ?y32⟩) (by assumption) ?r32
      case y32 => intro w hSw; (try dsimp only at hSw); go_simp; (try with_reducible rfl)
      (try simp only [Act.put, List.setIfInBounds_toArray, List.set_cons_zero, List.set_cons_succ, List.getElem_toArray, List.getElem_cons_zero, List.getElem_cons_succ])
      refine wpAnyH_take (i := 7) (v := ?v33) rfl (by kernel_rfl) (by kernel_rfl) (by kernel_rfl) (fun _ _ _ h => h) (Or.inl ⟨by rfl, ?y33⟩) (by assumption) ?r33
      case y33 => intro w hSw; (try dsimp only at hSw); go_simp; (try with_reducible rfl)
      (try simp only [Act.put, List.setIfInBounds_toArray, List.set_cons_zero, List.set_cons_succ, List.getElem_toArray, List.getElem_cons_zero, List.getElem_cons_succ])
      refine wpAnyH_take (i := 8) (v := ?v34) rfl (by kernel_rfl) (by kernel_rfl) (by kernel_rfl) (fun _ _ _ h => h) (Or.inl ⟨by rfl, ?y34⟩) (by assumption) ?r34
      case y34 => intro w hSw; (try dsimp only at hSw); go_simp; (try with_reducible rfl)
      (try simp only [Act.put, List.setIfInBounds_toArray, List.set_cons_zero, List.set_cons_succ, List.getElem_toArray, List.getElem_cons_zero, List.getElem_cons_succ])
      refine wpAnyH_take (i := 9) (v := ?v35) rfl (by kernel_rfl) (by kernel_rfl) (by kernel_rfl) (fun _ _ _ h => h) (Or.inl ⟨by rfl, ?y35⟩) (by assumption) ?r35
      case y35 => intro w hSw; (try dsimp only at hSw); go_simp; (try with_reducible rfl)
      (try simp only [Act.put, List.setIfInBounds_toArray, List.set_cons_zero, List.set_cons_succ, List.getElem_toArray, List.getElem_cons_zero, List.getElem_cons_succ])
      refine wpAnyH_take (i := 10) (v := ?v36) rfl (by kernel_rfl) (by kernel_rfl) (by kernel_rfl) (fun _ _ _ h => h) (Or.inl ⟨by rfl, ?y36⟩) (by assumption) ?r36
      case y36 => intro w hSw; (try dsimp only at hSw); go_simp; (try with_reducible rfl)
      (try simp only [Act.put, List.setIfInBounds_toArray, List.set_cons_zero, List.set_cons_succ, List.getElem_toArray, List.getElem_cons_zero, List.getElem_cons_succ])
      refine wpAnyH_take (i := 11) (v := ?v37) rfl (by kernel_rfl) (by kernel_rfl) (by kernel_rfl) (fun _ _ _ h => h) (Or.inl ⟨by rfl, ?y37⟩) (by assumption) ?r37
      case y37 => intro w hSw; (try dsimp only at hSw); go_simp; (try with_reducible rfl)
      (try simp only [Act.put, List.setIfInBounds_toArray, List.set_cons_zero, List.set_cons_succ, List.getElem_toArray, List.getElem_cons_zero, List.getElem_cons_succ])
      refine wpAnyH_take (i := 12) (v := ?v38) rfl (by kernel_rfl) (by kernel_rfl) (by kernel_rfl) (fun _ _ _ h => h) (Or.inl ⟨by rfl, ?y38⟩) (by assumption) ?r38
      case y38 => intro w hSw; (try dsimp only at hSw); go_simp; (try with_reducible rfl)
      (try simp only [Act.put, List.setIfInBounds_toArray, List.set_cons_zero, List.set_cons_succ, List.getElem_toArray, List.getElem_cons_zero, List.getElem_cons_succ])
      refine wpAnyH_done (by kernel_rfl) ?_ _
      show wpList _ _ _ _ _ _
      clear hHeld
      go_wp2_with fail
      refine (SETA.out _ (S11.out.ext (Ext.drew _))).mono ?_
      rintro e w12 ⟨rfl, hS12, hT12⟩
      have S12 := Lib.hid hS12; have T12 := Lib.hid hT12
      clear hS12 hT12
      go_wp2
      refine NoPanic.normal ?_
      go_wp2_with fail
      refine (HP.out _).mono ?_
      rintro e w13 ⟨rfl, rfl⟩
      go_wp2
      go_ret
      have hst := HST.out.add HYH.out HNI.out HP2.out
      rw [← HNN.out, ← HTN.out] at hst
      have e9 : (((1 - sp) * H + sizeF (F ++ [y]) : Nat) : Int) = (tn : Int) + (j : Int) := by
        rw [sizeF_app]
        simp only [sizeF, Nat.add_zero]
        have := HTN.out
        have := HNN.out
        omega
      have hm12 : MvAt w12 mb p ba (((1 - sp) * H + sizeF (F ++ [y]) : Nat) : Int) := by
        rw [e9]
        exact (M11.out.ext (Ext.drew _)).turn T12.out hmg
      refine ⟨rfl, ⟨⟨_, _, _, S12.out, hst, .inr ⟨y, rfl, rfl⟩⟩, hm12, ?_⟩⟩
      refine Turn.trans (T3.out.sub (fun b hb => .inl (by simp at hb; simp [hb]))) (Turn.trans (T11.out.sub (fun b hb => .inl (by simp at hb; simp [hb]))) ?_)
      exact (Turn.of_ext (Ext.drew _)).trans (T12.out.sub (fun b hb => .inl (by simp at hb; simp [hb])))
end
end Go.Proofs.YtinakendlpomnaaGreat
/- A mover moves any word; it scans what was moved. -/
namespace Go.Proofs.YtinakendlpomnaaGreat
open Go.RowKit Go.Maps Arena
set_option maxHeartbeats 8000000
set_option maxRecDepth 100000
section
variable {w : World} {p g bm n mb : Nat} {ws : List Int} {R : List (Nat × Nat)} {ba H sp : Nat} {Hs Fin F : List (Nat × Ob)} {L : List Ob} {A B : List Int}
theorem move_is (S : Sp w p g bm n ws R ba H sp A B) (M : MvAt w mb p ba (((1 - sp) * H + sizeF F : Nat) : Int)) (st : MvSt ((1 - sp) * H) H Hs Fin F L A B) {x : Int} (hx : W64 x) (hok : fieldOK (Hs.map (·.1)) (sp * H) x = true) (hp : addF (sp * H) Hs F x <+: Fin) (hmg : mb ≠ g) (hlo : p < mb ∧ g < mb ∧ bm < mb) :
    Calls Tryz.prog 34 #[.pointer (some ⟨mb, 0, none⟩), .int .u64 x] w fun e w' => e = .returned (.int .u64 (newW (sp * H) ((1 - sp) * H) Fin x)) ∧ Moved p g bm n mb ws R ba H sp Hs Fin F (addF (sp * H) Hs F x) L w w' := by
  have stay : addF (sp * H) Hs F x = F → ∀ w', Ext w w' → Moved p g bm n mb ws R ba H sp Hs Fin F (addF (sp * H) Hs F x) L w w' := by
    intro e w' hx
    rw [e]
    exact ⟨⟨A, B, L, S.ext hx, st, .inl ⟨rfl, rfl⟩⟩, M.ext hx, Turn.of_ext hx⟩
  rcases ok_cases hok hx with hi | ⟨y, hy⟩
  · rw [newW_int hi]
    exact (move_int hx hi w).mono fun e w' ⟨h1, h2⟩ => ⟨h1, stay (addF_int hi) w' h2⟩
  · cases hb : inF F y.1 with
    | true =>
      have hyF := seen_get st.hs (fun z hz => st.fin.sub z (st.pre.subset hz)) (getL_some hy).1 hb
      exact (move_seen S M st hx hy hyF).mono fun e w' ⟨h1, h2⟩ => ⟨h1, stay (addF_seen hy hb) w' h2⟩
    | false =>
      rw [addF_new hy hb] at hp ⊢
      exact move_new S M st hx hy hb hp hmg hlo
end
end Go.Proofs.YtinakendlpomnaaGreat
/- A mover scans what was moved. -/
namespace Go.Proofs.YtinakendlpomnaaGreat
open Go.RowKit Go.Maps Arena
set_option maxHeartbeats 8000000
set_option maxRecDepth 100000
section
variable {w : World} {p g bm n mb : Nat} {ws : List Int} {R : List (Nat × Nat)} {ba H sp : Nat} {Hs Fin : List (Nat × Ob)}
theorem sizeF_take_le (F : List (Nat × Ob)) (i : Nat) : sizeF (F.take i) ≤ sizeF F := by
  have e : sizeF F = sizeF (F.take i) + sizeF (F.drop i) := by rw [← sizeF_app, List.take_append_drop]
  omega
theorem sizeF_take_succ {F : List (Nat × Ob)} {i : Nat} {y : Nat × Ob} (hy : F[i]? = some y) : sizeF (F.take (i + 1)) = sizeF (F.take i) + wordsO y.2 := by
  obtain ⟨hi, rfl⟩ := List.getElem?_eq_some_iff.1 hy
  rw [List.take_succ_eq_append_getElem hi, sizeF_app]
  simp [sizeF]
theorem sizeF_take_pre {F G : List (Nat × Ob)} (h : F <+: G) {i : Nat} (hi : i ≤ F.length) : sizeF (G.take i) = sizeF (F.take i) := by
  obtain ⟨T, rfl⟩ := h
  rw [List.take_append_of_le_length hi]
/-- a field that is to be moved stands as it was -/
theorem field_at {f : Int → Int} {o1 : Nat} {F : List (Nat × Ob)} {A B : List Int} {i j : Nat} {y : Nat × Ob} (st : MvSt o1 H Hs Fin F (objsAt f i j F) A B) (hy : F[i]? = some y) (h2 : y.2.kind ≠ 2) {x : Int} (hx : y.2.fields[j]? = some x) : B[sizeF (F.take i) + (1 + j)]? = some x := by
  have hL : (objsAt f i j F)[i]? = some (mapUp f j y.2) := by rw [objsAt_get, hy]; simp
  have hm := st.may _ (List.mem_of_getElem? hL)
  have hlt : 1 + j < wordsO (mapUp f j y.2) := by
    rw [mapUp_words]
    have hjl := (List.getElem?_eq_some_iff.1 hx).1
    rw [mapUp_may] at hm
    rw [fields_words hm (by intro e; rw [e] at hjl; simp at hjl)]
    omega
  have := st.getB hL hlt
  rw [objsAt_sizes] at this
  rw [this]
  exact lay_get (o := mapUp f j y.2) h2 (mapUp_get f hx)
theorem field_set {f : Int → Int} {o1 : Nat} {F : List (Nat × Ob)} {A B : List Int} {i j : Nat} {y : Nat × Ob} (st : MvSt o1 H Hs Fin F (objsAt f i j F) A B) (hy : F[i]? = some y) (h2 : y.2.kind ≠ 2) {x : Int} (hx : y.2.fields[j]? = some x) : MvSt o1 H Hs Fin F (objsAt f i (j + 1) F) A (B.set (sizeF (F.take i) + (1 + j)) (f x)) := by
  have hL : (objsAt f i j F)[i]? = some (mapUp f j y.2) := by rw [objsAt_get, hy]; simp
  have hm := st.may _ (List.mem_of_getElem? hL)
  have hlt : 1 + j < wordsO (mapUp f j y.2) := by
    rw [mapUp_words]
    have hjl := (List.getElem?_eq_some_iff.1 hx).1
    rw [mapUp_may] at hm
    rw [fields_words hm (by intro e; rw [e] at hjl; simp at hjl)]
    omega
  have := st.setB hL hlt (lay_set f h2 hx) (by rw [mapUp_words, mapUp_words]) (by rw [mapUp_may, ← mapUp_may f j]; exact hm)
  rw [objsAt_sizes, objsAt_set f hy] at this
  exact this
/-- the first word of what is scanned is its head -/
theorem head_at {f : Int → Int} {o1 : Nat} {F : List (Nat × Ob)} {A B : List Int} {i j : Nat} {y : Nat × Ob} (st : MvSt o1 H Hs Fin F (objsAt f i j F) A B) (hy : F[i]? = some y) : B[sizeF (F.take i) + 0]? = some (headO y.2) := by
  have hL : (objsAt f i j F)[i]? = some (mapUp f j y.2) := by rw [objsAt_get, hy]; simp
  have := st.getB hL (k := 0) (by rw [mapUp_words]; exact wordsO_pos _)
  rw [objsAt_sizes] at this
  rw [this]
  unfold layO
  rw [mapUp_head]
  rfl
/-- the rows of objects behind a move inside a scan -/
theorem addL_at {f : Int → Int} {F F' : List (Nat × Ob)} {i j : Nat} {L' : List Ob} (h : AddL F F' (objsAt f i j F) L') (hi : i < F.length) : L' = objsAt f i j F' := by
  rcases h with ⟨rfl, rfl⟩ | ⟨y, rfl, rfl⟩
  · rfl
  · exact (objsAt_app f hi y).symm
theorem addL_pre {F F' : List (Nat × Ob)} {L L' : List Ob} (h : AddL F F' L L') : F <+: F' := by
  rcases h with ⟨rfl, rfl⟩ | ⟨y, rfl, rfl⟩
  · exact List.prefix_rfl
  · exact List.prefix_append _ _
theorem move_o {o1 k j : Nat} {f : Int → Int} {F : List (Nat × Ob)} {A B : List Int} (ho1 : o1 = (1 - sp) * H) (hf : f = newW (sp * H) ((1 - sp) * H) Fin) (S : Sp w p g bm n ws R ba H sp A B) (M : MvAt w mb p ba ((o1 + sizeF F : Nat) : Int)) (st : MvSt o1 H Hs Fin F (objsAt f k j F) A B) (hk : k < F.length) {x : Int} (hx : W64 x ∧ fieldOK (Hs.map (·.1)) (sp * H) x = true) (hp : addF (sp * H) Hs F x <+: Fin) (hmg : mb ≠ g) (hlo : p < mb ∧ g < mb ∧ bm < mb) :
    Calls Tryz.prog 34 #[.pointer (some ⟨mb, 0, none⟩), .int .u64 x] w fun e w' => e = .returned (.int .u64 (f x)) ∧ ∃ F2 A2 B2, F2 = addF (sp * H) Hs F x ∧ F <+: F2 ∧ Sp w' p g bm n ws R ba H sp A2 B2 ∧ MvAt w' mb p ba ((o1 + sizeF F2 : Nat) : Int) ∧ MvSt o1 H Hs Fin F2 (objsAt f k j F2) A2 B2 ∧ Turn [g, mb] w w' := by
  subst ho1
  subst hf
  refine (move_is S M st hx.1 hx.2 hp hmg hlo).mono ?_
  rintro e w' ⟨rfl, ⟨A', B', L', h1, h2, h3⟩, h4, h5⟩
  have h6 := addL_at h3 hk
  subst h6
  exact ⟨rfl, _, A', B', rfl, addL_pre h3, h1, h4, h2, h5⟩
theorem scan_is {F : List (Nat × Ob)} {A B : List Int} (S : Sp w p g bm n ws R ba H sp A B) (M : MvAt w mb p ba (((1 - sp) * H + sizeF F : Nat) : Int)) (st : MvSt ((1 - sp) * H) H Hs Fin F (F.map (·.2)) A B) (hr : Rest1 (sp * H) Hs Fin 0 F)
    (hok : ∀ y ∈ Hs, ∀ x ∈ y.2.fields, W64 x ∧ fieldOK (Hs.map (·.1)) (sp * H) x = true) (hmg : mb ≠ g) (hlo : p < mb ∧ g < mb ∧ bm < mb) :
    Calls Tryz.prog 35 #[.pointer (some ⟨mb, 0, none⟩), .int .i64 (((1 - sp) * H : Nat) : Int)] w fun e w' => e = .returned (.tuple #[]) ∧ (∃ A', Sp w' p g bm n ws R ba H sp A' (gcB H (newW (sp * H) ((1 - sp) * H) Fin) Fin)) ∧ MvAt w' mb p ba (((1 - sp) * H + sizeF Fin : Nat) : Int) ∧ Turn [g, mb] w w' := by
  obtain ⟨o1, ho1⟩ : ∃ o1, o1 = (1 - sp) * H := ⟨_, rfl⟩
  obtain ⟨f, hf⟩ : ∃ f, f = newW (sp * H) ((1 - sp) * H) Fin := ⟨_, rfl⟩
  have hsp1 := sp_le (sp := 1 - sp) (H := H) (by omega)
  have hHi := S.hi
  have ho1b : o1 ≤ 2000 := by omega
  have st0 : MvSt o1 H Hs Fin F (objsAt f 0 0 F) A B := by rw [objsAt_zero, ho1]; exact st
  have M0 : MvAt w mb p ba ((o1 + sizeF F : Nat) : Int) := by rw [ho1]; exact M
  rw [← hf, ← ho1]
  have HS := Lib.hid S; have HM := Lib.hid M0; have HST := Lib.hid st0; have HR := Lib.hid hr; have HOK := Lib.hid hok; have HO1 := Lib.hid ho1; have HF := Lib.hid hf
  clear S M st hr hok ho1 hf M0 st0 hsp1
  go_enter Tryz.func35, Tryz.ntmps35
  go_wp2_with fail
  go_loopw [1] (fun i wr => ∃ (k : Nat) (F : List (Nat × Ob)) (A B : List Int), k ≤ F.length ∧ i = .int .i64 ((o1 + sizeF (F.take k) : Nat) : Int) ∧ Sp wr p g bm n ws R ba H sp A B ∧ MvAt wr mb p ba ((o1 + sizeF F : Nat) : Int) ∧ MvSt o1 H Hs Fin F (objsAt f k 0 F) A B ∧ Rest1 (sp * H) Hs Fin k F ∧ Turn [g, mb] w wr) (fun i _ => 5000 - (Go.RowKit.intOf i).toNat)
  case atStart => exact ⟨0, F, A, B, Nat.zero_le _, by simp [sizeF], HS.out, HM.out, HST.out, HR.out, Turn.refl _ _⟩
  case round =>
    obtain ⟨k, F', A', B', hk, rfl, hS, hM, hSt, hR, hT⟩ := hrel
    have hfits := hSt.fits
    have htk := sizeF_take_le F' k
    have S1 := Lib.hid hS; have M1 := Lib.hid hM; have ST1 := Lib.hid hSt; have R1 := Lib.hid hR; have T1 := Lib.hid hT
    have hlen := (hSt.fin.pre hSt.pre).size.2
    clear hS hM hSt hR hT
    obtain ⟨m0, m1, m2⟩ := cells3 M1.out.blk
    by_cases hlt : k < F'.length
    · obtain ⟨y, hy⟩ : ∃ y, F'[k]? = some y := ⟨_, List.getElem?_eq_getElem hlt⟩
      have hyF : y ∈ F' := List.mem_of_getElem? hy
      have hyH : y ∈ Hs := (ST1.out.fin.pre ST1.out.pre).sub y hyF
      have hmy := ST1.out.hs.may y hyH
      have hsz := sizeF_take_succ hy
      have hsz2 := sizeF_take_le F' (k + 1)
      have hwp := wordsO_pos y.2
      have hgo : ((o1 + sizeF (F'.take k) : Nat) : Int) < ((o1 + sizeF F' : Nat) : Int) := by omega
      have GH := Lib.hid (fun W (e : Ext wr W) => gget_is (S1.out.a.ext e) (M1.out.ext e) S1.out.wf (((o1 + sizeF (F'.take k) : Nat) : Int)))
      have hgv := S1.out.getB (head_at ST1.out hy)
      rw [Nat.add_zero, ← HO1.out] at hgv
      rw [hgv] at GH
      obtain ⟨hw1, hw2, hw3⟩ := hdW_head hmy
      have HK := Lib.hid (fun W => kind_is hw3 W)
      rw [hw2] at HK
      have HW := Lib.hid (fun W => words_is hw3 W)
      rw [hw1] at HW
      have hR2 := rest1_open R1.out hlen hy
      obtain ⟨at_, hat⟩ : ∃ at_ : Nat, at_ = o1 + sizeF (F'.take k) := ⟨_, rfl⟩
      obtain ⟨nn, hnn⟩ : ∃ nn : Nat, nn = wordsO y.2 := ⟨_, rfl⟩
      rw [← hat] at GH hgo ⊢
      rw [← hnn] at HW
      have hb : at_ ≤ 4000 ∧ nn ≤ 2000 ∧ 1 ≤ nn := by omega
      obtain ⟨hb1, hb2, hb3⟩ := hb
      have HY := Lib.hid hy; have HYH := Lib.hid hyH; have HMY := Lib.hid hmy; have HSZ := Lib.hid hsz; have HAT := Lib.hid hat; have HNN := Lib.hid hnn; have HR2 := Lib.hid hR2; have HFT := Lib.hid hfits; have HTK := Lib.hid htk; have HSZ2 := Lib.hid hsz2; have HL := Lib.hid hlen; have HKL := Lib.hid hlt
      generalize headO y.2 = hd at HK HW GH
      clear hy hyF hyH hmy hsz hsz2 hwp hgv hw1 hw2 hw3 hR2 hat hnn hfits htk hlen hk hlt
      go_wp2_with fail
      refine (GH.out _ (by first | exact Ext.refl _ | exact Ext.drew _)).mono ?_
      rintro e w2 ⟨rfl, hx2⟩
      have HX2 := Lib.hid (show Ext wr w2 by first | exact hx2 | exact (Ext.drew _).trans hx2)
      clear hx2 m0 m1 m2 hgo
      go_wp2_with fail
      refine (HW.out _).mono ?_
      rintro e w3 ⟨rfl, rfl⟩
      go_wp2_with fail
      refine (HK.out _).mono ?_
      rintro e w4 ⟨rfl, rfl⟩
      by_cases h2 : y.2.kind = 2
      · have hkk : (y.2.kind != 2) = false := by rw [h2]; rfl
        have hfl : y.2.fields = [] := by
          have hm := HMY.out
          unfold mayO at hm
          rcases mayK_cases hm with ⟨h, _⟩ | ⟨_, _, h, _⟩ | ⟨h, _⟩ | ⟨h, _⟩
          · omega
          · exact List.eq_nil_of_length_eq_zero h
          · omega
          · omega
        have hR3 := HR2.out
        rw [hfl] at hR3
        have hend : MvSt o1 H Hs Fin F' (objsAt f (k + 1) 0 F') A' B' := by
          rw [← objsAt_next f HY.out (by rw [hfl]; exact Nat.le_refl 0)]
          exact ST1.out
        have HEND := Lib.hid hend
        have HR3 := Lib.hid (rest2_end hR3)
        clear hend hR3 hfl
        go_wp2_with fail
        refine ⟨⟨k + 1, F', A', B', HKL.out, ?_, S1.out.ext HX2.out, M1.out.ext HX2.out, HEND.out, HR3.out, T1.out.trans (Turn.of_ext HX2.out)⟩, ?_⟩
        · rw [HSZ.out]
          have := HAT.out
          have := HNN.out
          show Value.int .i64 _ = Value.int .i64 _
          congr 1
          omega
        · simp [Go.RowKit.intOf]; omega
      · have hkk : (y.2.kind != 2) = true := by simpa using h2
        have hne : y.2.fields.length + 1 = wordsO y.2 := by
          have := HMY.out
          unfold wordsO bodyK
          rw [if_neg h2]
          omega
        have HNE := Lib.hid hne
        have HH2 := Lib.hid h2
        clear hne h2
        go_wp2_with fail
        generalize wr = wz at *
        go_loopw [6] (fun i wx => ∃ (jj : Nat) (F2 : List (Nat × Ob)) (A2 B2 : List Int), 1 ≤ jj ∧ jj ≤ nn ∧ i = .int .i64 jj ∧ F' <+: F2 ∧ Sp wx p g bm n ws R ba H sp A2 B2 ∧ MvAt wx mb p ba ((o1 + sizeF F2 : Nat) : Int) ∧ MvSt o1 H Hs Fin F2 (objsAt f k (jj - 1) F2) A2 B2 ∧ Rest2 (sp * H) Hs Fin k F2 (y.2.fields.drop (jj - 1)) ∧ Turn [g, mb] wz wx) (fun i _ => nn - (Go.RowKit.intOf i).toNat)
        case atStart => exact ⟨1, F', A', B', Nat.le_refl 1, hb3, rfl, List.prefix_rfl, S1.out.ext HX2.out, M1.out.ext HX2.out, ST1.out, HR2.out, Turn.of_ext HX2.out⟩
        case round =>
          obtain ⟨jj, F2, A2, B2, hj1, hj2, rfl, hpre, hS, hM, hSt, hR, hT⟩ := hrel
          obtain ⟨j, rfl⟩ : ∃ j, jj = j + 1 := ⟨jj - 1, by omega⟩
          rw [Nat.add_sub_cancel] at hSt hR
          have S3 := Lib.hid hS; have M3 := Lib.hid hM; have ST3 := Lib.hid hSt; have R3 := Lib.hid hR; have T3 := Lib.hid hT; have HPRE := Lib.hid hpre
          have hy2 : F2[k]? = some y := by
            obtain ⟨T, rfl⟩ := hpre
            rw [List.getElem?_append_left HKL.out]
            exact HY.out
          have HY2 := Lib.hid hy2
          have hk2 : k < F2.length := (List.getElem?_eq_some_iff.1 hy2).1
          have HK2 := Lib.hid hk2
          have htk2 := sizeF_take_pre hpre (i := k) (Nat.le_of_lt HKL.out)
          have HTK2 := Lib.hid htk2
          have hfits2 := hSt.fits
          have HF2 := Lib.hid hfits2
          clear hS hM hSt hR hT hpre hy2 hk2 htk2 hfits2
          obtain ⟨m0, m1, m2⟩ := cells3 M3.out.blk
          obtain ⟨jj, hjj⟩ : ∃ jj, jj = j + 1 := ⟨_, rfl⟩
          rw [← hjj] at hj1 hj2 ⊢
          have HJ := Lib.hid hjj
          clear hjj
          by_cases hlt : jj < nn
          · have hjl : j < y.2.fields.length := by have := HNE.out; have := HNN.out; have := HJ.out; omega
            obtain ⟨x, hx⟩ : ∃ x, y.2.fields[j]? = some x := ⟨_, List.getElem?_eq_getElem hjl⟩
            have hok := HOK.out y HYH.out x (List.mem_of_getElem? hx)
            have hfa := field_at ST3.out HY2.out HH2.out hx
            have hga := S3.out.getB hfa
            have hix : (((1 - sp) * H + (sizeF (F2.take k) + (1 + j)) : Nat) : Int) = (at_ : Int) + (jj : Int) := by
              have := HO1.out; have := HAT.out; have := HTK2.out; have := HJ.out
              omega
            rw [hix] at hga
            have GG := Lib.hid (fun W (e : Ext wr W) => gget_is (S3.out.a.ext e) (M3.out.ext e) S3.out.wf ((at_ : Int) + (jj : Int)))
            rw [hga] at GG
            have hdr : y.2.fields.drop j = x :: y.2.fields.drop (j + 1) := by
              obtain ⟨h1, rfl⟩ := List.getElem?_eq_some_iff.1 hx
              exact List.drop_eq_getElem_cons h1
            have hR4 := R3.out
            rw [hdr] at hR4
            have hR4 := rest2_step hR4
            have hpF := rest2_pre hR4
            have MV := Lib.hid (fun W (e : Ext wr W) => move_o (x := x) HO1.out HF.out (S3.out.ext e) (M3.out.ext e) ST3.out HK2.out hok hpF hmg hlo)
            have HX := Lib.hid hx; have R4 := Lib.hid hR4
            have hw1 : IntKind.i64.wrap ((at_ : Int) + (jj : Int)) = (at_ : Int) + (jj : Int) := IntWalk.i64_in _ (by omega)
            have HIX := Lib.hid hix
            clear hjl hx hok hfa hga hix hdr hR4 hpF
            go_upto_region 7 with fail
            refine wp_region_noPanic ?_
            refine wp_region_last 18 (S := (fun w' => w'.cell? ⟨mb, 0, none⟩ = some (.pointer (some ⟨p, 0, none⟩)) ∧ w'.cell? ⟨mb, 1, none⟩ = some (.int .i64 ba))) (by kernel_rfl) (by kernel_rfl) _ rfl ?_ (fun hHeld => ?_)
            · (first | with_reducible exact ⟨(Ext.drew _).cell m0, (Ext.drew _).cell m1⟩ | with_reducible exact ⟨hx9.cell m0, hx9.cell m1⟩ | with_reducible exact ⟨(cells3 hM3.blk).1, (cells3 hM3.blk).2.1⟩)
            simp only [List.take_succ_cons, List.take_zero]
            refine wpAnyH_take (i := 0) (v := ?v1) rfl (by kernel_rfl) (by kernel_rfl) (by kernel_rfl) (fun _ _ _ h => h) (Or.inl ⟨by rfl, ?y1⟩) (by assumption) ?r1
            case y1 => intro w hSw; (try dsimp only at hSw); go_simp; (try with_reducible rfl)
            (try simp only [Act.put, List.setIfInBounds_toArray, List.set_cons_zero, List.set_cons_succ, List.getElem_toArray, List.getElem_cons_zero, List.getElem_cons_succ])
            refine wpAnyH_take (i := 1) (v := ?v2) rfl (by kernel_rfl) (by kernel_rfl) (by kernel_rfl) (fun _ _ _ h => h) (Or.inl ⟨by rfl, ?y2⟩) (by assumption) ?r2
            case y2 => intro w hSw; (try dsimp only at hSw); go_simp; (try with_reducible rfl)
            (try simp only [Act.put, List.setIfInBounds_toArray, List.set_cons_zero, List.set_cons_succ, List.getElem_toArray, List.getElem_cons_zero, List.getElem_cons_succ])
            refine wpAnyH_take (i := 2) (v := ?v3) rfl (by kernel_rfl) (by kernel_rfl) (by kernel_rfl) (fun _ _ _ h => h) (Or.inl ⟨by rfl, ?y3⟩) (by assumption) ?r3
            case y3 => intro w hSw; (try dsimp only at hSw); go_simp; (try with_reducible rfl)
            (try simp only [Act.put, List.setIfInBounds_toArray, List.set_cons_zero, List.set_cons_succ, List.getElem_toArray, List.getElem_cons_zero, List.getElem_cons_succ])
            refine wpAnyH_take (i := 3) (v := ?v4) rfl (by kernel_rfl) (by kernel_rfl) (by kernel_rfl) (fun _ _ _ h => h) (Or.inl ⟨by rfl, ?y4⟩) (by assumption) ?r4
            case y4 => intro w hSw; (try dsimp only at hSw); go_simp; (try with_reducible rfl)
            (try simp only [Act.put, List.setIfInBounds_toArray, List.set_cons_zero, List.set_cons_succ, List.getElem_toArray, List.getElem_cons_zero, List.getElem_cons_succ])
            refine wpAnyH_take (i := 4) (v := ?v5) rfl (by kernel_rfl) (by kernel_rfl) (by kernel_rfl) (fun _ _ _ h => h) (Or.inl ⟨by rfl, ?y5⟩) (by assumption) ?r5
            case y5 => intro w hSw; (try dsimp only at hSw); go_simp; (try with_reducible rfl)
            (try simp only [Act.put, List.setIfInBounds_toArray, List.set_cons_zero, List.set_cons_succ, List.getElem_toArray, List.getElem_cons_zero, List.getElem_cons_succ])
            refine wpAnyH_take (i := 5) (v := ?v6) rfl (by kernel_rfl) (by kernel_rfl) (by kernel_rfl) (fun _ _ _ h => h) (Or.inl ⟨by rfl, ?y6⟩) (by assumption) ?r6
            case y6 => intro w hSw; (try dsimp only at hSw); go_simp; (try with_reducible rfl)
            (try simp only [Act.put, List.setIfInBounds_toArray, List.set_cons_zero, List.set_cons_succ, List.getElem_toArray, List.getElem_cons_zero, List.getElem_cons_succ])
            refine wpAnyH_take (i := 6) (v := ?v7) rfl (by kernel_rfl) (by kernel_rfl) (by kernel_rfl) (fun _ _ _ h => h) (Or.inl ⟨by rfl, ?y7⟩) (by assumption) ?r7
            case y7 => intro w hSw; (try dsimp only at hSw); go_simp; (try with_reducible rfl)
            (try simp only [Act.put, List.setIfInBounds_toArray, List.set_cons_zero, List.set_cons_succ, List.getElem_toArray, List.getElem_cons_zero, List.getElem_cons_succ])
            refine wpAnyH_take (i := 7) (v := ?v8) rfl (by kernel_rfl) (by kernel_rfl) (by kernel_rfl) (fun _ _ _ h => h) (Or.inl ⟨by rfl, ?y8⟩) (by assumption) ?r8
            case y8 => intro w hSw; (try dsimp only at hSw); go_simp; (try with_reducible rfl)
            (try simp only [Act.put, List.setIfInBounds_toArray, List.set_cons_zero, List.set_cons_succ, List.getElem_toArray, List.getElem_cons_zero, List.getElem_cons_succ])
            refine wpAnyH_take (i := 8) (v := ?v9) rfl (by kernel_rfl) (by kernel_rfl) (by kernel_rfl) (fun _ _ _ h => h) (Or.inl ⟨by rfl, ?y9⟩) (by assumption) ?r9
            case y9 => intro w hSw; (try dsimp only at hSw); go_simp; (try with_reducible rfl)
            (try simp only [Act.put, List.setIfInBounds_toArray, List.set_cons_zero, List.set_cons_succ, List.getElem_toArray, List.getElem_cons_zero, List.getElem_cons_succ])
            refine wpAnyH_take (i := 9) (v := ?v10) rfl (by kernel_rfl) (by kernel_rfl) (by kernel_rfl) (fun _ _ _ h => h) (Or.inl ⟨by rfl, ?y10⟩) (by assumption) ?r10
            case y10 => intro w hSw; (try dsimp only at hSw); go_simp; (try with_reducible rfl)
            (try simp only [Act.put, List.setIfInBounds_toArray, List.set_cons_zero, List.set_cons_succ, List.getElem_toArray, List.getElem_cons_zero, List.getElem_cons_succ])
            refine wpAnyH_take (i := 10) (v := ?v11) rfl (by kernel_rfl) (by kernel_rfl) (by kernel_rfl) (fun _ _ _ h => h) (Or.inl ⟨by rfl, ?y11⟩) (by assumption) ?r11
            case y11 => intro w hSw; (try dsimp only at hSw); go_simp; (try with_reducible rfl)
            (try simp only [Act.put, List.setIfInBounds_toArray, List.set_cons_zero, List.set_cons_succ, List.getElem_toArray, List.getElem_cons_zero, List.getElem_cons_succ])
            refine wpAnyH_take (i := 11) (v := ?v12) rfl (by kernel_rfl) (by kernel_rfl) (by kernel_rfl) (fun _ _ _ h => h) (Or.inl ⟨by rfl, ?y12⟩) (by assumption) ?r12
            case y12 => intro w hSw; (try dsimp only at hSw); go_simp; (try with_reducible rfl)
            (try simp only [Act.put, List.setIfInBounds_toArray, List.set_cons_zero, List.set_cons_succ, List.getElem_toArray, List.getElem_cons_zero, List.getElem_cons_succ])
            refine wpAnyH_take (i := 12) (v := ?v13) rfl (by kernel_rfl) (by kernel_rfl) (by kernel_rfl) (fun _ _ _ h => h) (Or.inl ⟨by rfl, ?y13⟩) (by assumption) ?r13
            case y13 => intro w hSw; (try dsimp only at hSw); go_simp; (try with_reducible rfl)
            (try simp only [Act.put, List.setIfInBounds_toArray, List.set_cons_zero, List.set_cons_succ, List.getElem_toArray, List.getElem_cons_zero, List.getElem_cons_succ])
            refine wpAnyH_take (i := 13) (v := ?v14) rfl (by kernel_rfl) (by kernel_rfl) (by kernel_rfl) (fun _ _ _ h => h) (Or.inl ⟨by rfl, ?y14⟩) (by assumption) ?r14
            case y14 => intro w hSw; (try dsimp only at hSw); go_simp; (try with_reducible rfl)
            (try simp only [Act.put, List.setIfInBounds_toArray, List.set_cons_zero, List.set_cons_succ, List.getElem_toArray, List.getElem_cons_zero, List.getElem_cons_succ])
            refine wpAnyH_take (i := 14) (v := ?v15) rfl (by kernel_rfl) (by kernel_rfl) (by kernel_rfl) (fun _ _ _ h => h) (Or.inl ⟨by rfl, ?y15⟩) (by assumption) ?r15
            case y15 => intro w hSw; (try dsimp only at hSw); go_simp; (try with_reducible rfl)
            (try simp only [Act.put, List.setIfInBounds_toArray, List.set_cons_zero, List.set_cons_succ, List.getElem_toArray, List.getElem_cons_zero, List.getElem_cons_succ])
            refine wpAnyH_take (i := 15) (v := ?v16) rfl (by kernel_rfl) (by kernel_rfl) (by kernel_rfl) (fun _ _ _ h => h) (Or.inl ⟨by rfl, ?y16⟩) (by assumption) ?r16
            case y16 => intro w hSw; (try dsimp only at hSw); go_simp; (try with_reducible rfl)
            (try simp only [Act.put, List.setIfInBounds_toArray, List.set_cons_zero, List.set_cons_succ, List.getElem_toArray, List.getElem_cons_zero, List.getElem_cons_succ])
            refine wpAnyH_ready (rs := [16]) (by kernel_rfl) (by simp) ?_
            refine AllReadyH.cons rfl (fun K hK => ?_) AllReadyH.nil
            go_simp
            refine (GG.out _ (Ext.drew _)).mono ?_
            rintro e w9 ⟨rfl, hx9⟩
            have hx9 := (Ext.drew wr).trans hx9
            refine hK.out _ _ ?s17 (fun hHeld => ?k17)
            case s17 => ((try dsimp only); (first | with_reducible exact ⟨(Ext.drew _).cell m0, (Ext.drew _).cell m1⟩ | with_reducible exact ⟨hx9.cell m0, hx9.cell m1⟩ | with_reducible exact ⟨(cells3 hM3.blk).1, (cells3 hM3.blk).2.1⟩))
            clear hK K
            (try simp only [Act.put, List.setIfInBounds_toArray, List.set_cons_zero, List.set_cons_succ, List.getElem_toArray, List.getElem_cons_zero, List.getElem_cons_succ])
            refine wpAnyH_ready (rs := [17]) (by kernel_rfl) (by simp) ?_
            refine AllReadyH.cons rfl (fun K hK => ?_) AllReadyH.nil
            go_simp
            refine (MV.out _ hx9).mono ?_
            rintro e w10 ⟨rfl, F3, A3, B3, hF3, hp3, hS3, hM3, hst3, hT3⟩
            refine hK.out _ _ ?s18 (fun hHeld => ?k18)
            case s18 => ((try dsimp only); (first | with_reducible exact ⟨(Ext.drew _).cell m0, (Ext.drew _).cell m1⟩ | with_reducible exact ⟨hx9.cell m0, hx9.cell m1⟩ | with_reducible exact ⟨(cells3 hM3.blk).1, (cells3 hM3.blk).2.1⟩))
            clear hK K
            (try simp only [Act.put, List.setIfInBounds_toArray, List.set_cons_zero, List.set_cons_succ, List.getElem_toArray, List.getElem_cons_zero, List.getElem_cons_succ])
            refine wpAnyH_done (by kernel_rfl) ?_ _
            show wpList _ _ _ _ _ _
            have hy3 : F3[k]? = some y := by
              obtain ⟨T, rfl⟩ := hp3
              rw [List.getElem?_append_left HK2.out]
              exact HY2.out
            have htk3 := sizeF_take_pre hp3 (i := k) (Nat.le_of_lt HK2.out)
            have hst4 := field_set hst3 hy3 HH2.out HX.out
            have hfit3 := hst3.fits
            have hsl : sizeF (F3.take k) + (1 + j) < H := by
              have h1 := sizeF_take_le F3 (k + 1)
              rw [sizeF_take_succ hy3] at h1
              have := HNN.out
              have := HJ.out
              omega
            have hset := hS3.setB hsl (f x)
            rw [htk3, HIX.out] at hset
            rw [htk3] at hst4
            have hR5 := R4.out
            rw [← hF3] at hR5
            have SET := Lib.hid hset; have ST4 := Lib.hid hst4; have M4 := Lib.hid hM3; have R5 := Lib.hid hR5
            have HP4 := Lib.hid (HPRE.out.trans hp3)
            have T4 := Lib.hid (show Turn [g, mb] wz w10 from (T3.out.trans (Turn.of_ext hx9)).trans hT3)
            clear hy3 htk3 hst4 hfit3 hsl hset hR5 hF3 hp3 hS3 hM3 hst3 hT3 hx9 hHeld m0 m1 m2
            go_wp2_with fail
            refine SET.out.mono ?_
            rintro e w11 ⟨rfl, hS11, hT11⟩
            have S11 := Lib.hid hS11; have T11 := Lib.hid hT11
            clear hS11 hT11
            go_wp2
            refine NoPanic.normal ?_
            go_wp2
            refine ⟨⟨jj + 1, F3, A3, _, by omega, by omega, by go_num, HP4.out, S11.out, M4.out.turn T11.out hmg, ?_, ?_, T4.out.trans (T11.out.sub (fun b hb => .inl (by simp at hb; simp [hb])))⟩, by simp [Go.RowKit.intOf]; omega⟩
            · rw [show jj + 1 - 1 = j + 1 by have := HJ.out; omega]
              exact ST4.out
            · rw [show jj + 1 - 1 = j + 1 by have := HJ.out; omega]
              exact R5.out
          · obtain rfl : jj = nn := by omega
            have hjl : y.2.fields.length ≤ j := by have := HNE.out; have := HNN.out; have := HJ.out; omega
            have hR4 := R3.out
            rw [List.drop_eq_nil_of_le hjl] at hR4
            have R4 := Lib.hid (rest2_end hR4)
            have hend : MvSt o1 H Hs Fin F2 (objsAt f (k + 1) 0 F2) A2 B2 := by
              rw [← objsAt_next f HY2.out hjl]
              exact ST3.out
            have HEND := Lib.hid hend
            clear hR4 hend hjl
            go_wp2_with fail
            refine ⟨⟨k + 1, F2, A2, B2, HK2.out, ?_, S3.out, M3.out, HEND.out, R4.out, T1.out.trans T3.out⟩, ?_⟩
            · rw [sizeF_take_succ HY2.out]
              have := HAT.out
              have := HNN.out
              have := HTK2.out
              show Value.int .i64 _ = Value.int .i64 _
              congr 1
              omega
            · simp [Go.RowKit.intOf]; omega
    · have hke : F'.length ≤ k := by omega
      have hFin := rest1_end R1.out hke
      subst hFin
      have hgo : ((o1 + sizeF (F'.take k) : Nat) : Int) = ((o1 + sizeF F' : Nat) : Int) := by rw [List.take_of_length_le hke]
      rw [hgo]
      have HB := Lib.hid (ST1.out.done hke)
      clear hgo hlt hk htk hke
      go_wp2_with fail
      go_end0
      refine ⟨rfl, ⟨A', ?_⟩, M1.out, T1.out⟩
      rw [← HB.out]
      exact S1.out
end
end Go.Proofs.YtinakendlpomnaaGreat
/- A mover wipes a semispace. -/
namespace Go.Proofs.YtinakendlpomnaaGreat
open Go.RowKit Go.Maps Arena
set_option maxHeartbeats 8000000
set_option maxRecDepth 100000
section
variable {w : World} {p g bm n mb : Nat} {ws : List Int} {R : List (Nat × Nat)} {ba H sp : Nat}
theorem wiped_set {A : List Int} {k : Nat} (hk : k < A.length) : (List.replicate k 0 ++ A.drop k).set k 0 = List.replicate (k + 1) (0 : Int) ++ A.drop (k + 1) := by
  rw [List.set_append_right _ _ (by simp), List.length_replicate, Nat.sub_self, List.drop_eq_getElem_cons hk, List.set_cons_zero, List.replicate_succ', List.append_assoc]
  rfl
theorem wipe_is {A B : List Int} {t : Int} (S : Sp w p g bm n ws R ba H sp A B) (M : MvAt w mb p ba t) (hmg : mb ≠ g) (s0 tp : Int) :
    Calls Tryz.prog 33 #[.pointer (some ⟨mb, 0, none⟩), .agg #[.int .i64 ba, .int .i64 H, .int .i64 s0, .int .i64 tp], .int .i64 sp] w fun e w' => e = .returned (.tuple #[]) ∧ Sp w' p g bm n ws R ba H sp (List.replicate H 0) B ∧ Turn [g] w w' := by
  have hHi := S.hi
  have hone := S.one
  have hsp := sp_le (H := H) S.one
  obtain ⟨fs, hfs⟩ : ∃ fs : Nat, fs = sp * H := ⟨_, rfl⟩
  rw [← hfs] at hsp
  have hmul : IntKind.i64.wrap ((sp : Int) * (H : Int)) = (fs : Int) := by
    rw [show (sp : Int) * (H : Int) = (fs : Int) by rw [hfs, Int.natCast_mul]]
    exact IntWalk.i64_in _ (by omega)
  have hlA := S.lA
  have hgw : g < w.heap.size := S.a.lt.2.1
  have hmw : mb < w.heap.size := (Array.getElem?_eq_some_iff.1 M.blk).1
  have HS := Lib.hid S; have HM := Lib.hid M; have HFS := Lib.hid hfs; have HLA := Lib.hid hlA
  obtain ⟨m0, m1, m2⟩ := cells3 M.blk
  clear S M hfs hlA
  go_enter Tryz.func33, Tryz.ntmps33
  go_upto_region 1 with fail
  refine wp_alloc1 fun W hE hS0 b0 => ?_
  have HE := Lib.hid hE
  have S0 := Lib.hid (HS.out.ext hE)
  have M0 := Lib.hid (HM.out.ext hE)
  clear hE m0 m1 m2
  obtain ⟨z0, z1, z2, z3⟩ := cells4 b0
  have HB0 := Lib.hid b0
  have hbg : w.heap.size ≠ g := by omega
  have hbm : w.heap.size ≠ mb := by omega
  clear b0 hS0
  generalize w.heap.size = bx at *
  go_wp2_with fail
  go_loopw [9] (fun i wr => ∃ k : Nat, k ≤ H ∧ i = .int .i64 k ∧ Sp wr p g bm n ws R ba H sp (List.replicate k 0 ++ A.drop k) B ∧ Turn [g] W wr) (fun i _ => H - (Go.RowKit.intOf i).toNat)
  case atStart => exact ⟨0, Nat.zero_le _, rfl, by simpa using S0.out, Turn.refl _ _⟩
  case round =>
    obtain ⟨k, hk, rfl, hS, hT⟩ := hrel
    have S1 := Lib.hid hS; have T1 := Lib.hid hT
    have M1 := Lib.hid (M0.out.turn hT hmg)
    have hb1 := (hT.block bx (Array.getElem?_eq_some_iff.1 HB0.out).1 (by simpa using hbg)).trans HB0.out
    clear hS hT z0 z1 z2 z3
    obtain ⟨m0, m1, m2⟩ := cells3 M1.out.blk
    obtain ⟨z0, z1, z2, z3⟩ := cells4 hb1
    clear hb1
    by_cases hlt : k < H
    · have SET := Lib.hid (fun W (h : Sp W p g bm n ws R ba H sp (List.replicate k 0 ++ A.drop k) B) => h.setA (i := k) hlt 0)
      rw [wiped_set (by rw [HLA.out]; exact hlt), ← HFS.out, show ((fs + k : Nat) : Int) = (fs : Int) + (k : Int) by omega] at SET
      have hw1 : IntKind.i64.wrap ((fs : Int) + (k : Int)) = (fs : Int) + (k : Int) := IntWalk.i64_in _ (by omega)
      go_upto_region 4 with fail
      refine wp_region_noPanic ?_
      refine wp_region_last 14 (S := (fun w' => w'.cell? ⟨mb, 0, none⟩ = some (.pointer (some ⟨p, 0, none⟩)) ∧ w'.cell? ⟨mb, 1, none⟩ = some (.int .i64 ba) ∧ w'.cell? ⟨bx, 1, none⟩ = some (.int .i64 H))) (by kernel_rfl) (by kernel_rfl) _ rfl ?_ (fun hHeld => ?_)
      · (with_reducible exact ⟨(Ext.drew _).cell m0, (Ext.drew _).cell m1, (Ext.drew _).cell z1⟩)
      simp only [List.take_succ_cons, List.take_zero]
      refine wpAnyH_take (i := 0) (v := ?v1) rfl (by kernel_rfl) (by kernel_rfl) (by kernel_rfl) (fun _ _ _ h => h) (Or.inl ⟨by rfl, ?y1⟩) (by assumption) ?r1
      case y1 => intro w hSw; (try dsimp only at hSw); go_simp; (try with_reducible rfl)
      (try simp only [Act.put, List.setIfInBounds_toArray, List.set_cons_zero, List.set_cons_succ, List.getElem_toArray, List.getElem_cons_zero, List.getElem_cons_succ])
      refine wpAnyH_take (i := 1) (v := ?v2) rfl (by kernel_rfl) (by kernel_rfl) (by kernel_rfl) (fun _ _ _ h => h) (Or.inl ⟨by rfl, ?y2⟩) (by assumption) ?r2
      case y2 => intro w hSw; (try dsimp only at hSw); go_simp; (try with_reducible rfl)
      (try simp only [Act.put, List.setIfInBounds_toArray, List.set_cons_zero, List.set_cons_succ, List.getElem_toArray, List.getElem_cons_zero, List.getElem_cons_succ])
      refine wpAnyH_take (i := 2) (v := ?v3) rfl (by kernel_rfl) (by kernel_rfl) (by kernel_rfl) (fun _ _ _ h => h) (Or.inl ⟨by rfl, ?y3⟩) (by assumption) ?r3
      case y3 => intro w hSw; (try dsimp only at hSw); go_simp; (try with_reducible rfl)
      (try simp only [Act.put, List.setIfInBounds_toArray, List.set_cons_zero, List.set_cons_succ, List.getElem_toArray, List.getElem_cons_zero, List.getElem_cons_succ])
      refine wpAnyH_take (i := 3) (v := ?v4) rfl (by kernel_rfl) (by kernel_rfl) (by kernel_rfl) (fun _ _ _ h => h) (Or.inl ⟨by rfl, ?y4⟩) (by assumption) ?r4
      case y4 => intro w hSw; (try dsimp only at hSw); go_simp; (try with_reducible rfl)
      (try simp only [Act.put, List.setIfInBounds_toArray, List.set_cons_zero, List.set_cons_succ, List.getElem_toArray, List.getElem_cons_zero, List.getElem_cons_succ])
      refine wpAnyH_take (i := 4) (v := ?v5) rfl (by kernel_rfl) (by kernel_rfl) (by kernel_rfl) (fun _ _ _ h => h) (Or.inl ⟨by rfl, ?y5⟩) (by assumption) ?r5
      case y5 => intro w hSw; (try dsimp only at hSw); go_simp; (try with_reducible rfl)
      (try simp only [Act.put, List.setIfInBounds_toArray, List.set_cons_zero, List.set_cons_succ, List.getElem_toArray, List.getElem_cons_zero, List.getElem_cons_succ])
      refine wpAnyH_take (i := 5) (v := ?v6) rfl (by kernel_rfl) (by kernel_rfl) (by kernel_rfl) (fun _ _ _ h => h) (Or.inl ⟨by rfl, ?y6⟩) (by assumption) ?r6
      case y6 => intro w hSw; (try dsimp only at hSw); go_simp; (try with_reducible rfl)
      (try simp only [Act.put, List.setIfInBounds_toArray, List.set_cons_zero, List.set_cons_succ, List.getElem_toArray, List.getElem_cons_zero, List.getElem_cons_succ])
      refine wpAnyH_take (i := 6) (v := ?v7) rfl (by kernel_rfl) (by kernel_rfl) (by kernel_rfl) (fun _ _ _ h => h) (Or.inl ⟨by rfl, ?y7⟩) (by assumption) ?r7
      case y7 => intro w hSw; (try dsimp only at hSw); go_simp; (try with_reducible rfl)
      (try simp only [Act.put, List.setIfInBounds_toArray, List.set_cons_zero, List.set_cons_succ, List.getElem_toArray, List.getElem_cons_zero, List.getElem_cons_succ])
      refine wpAnyH_take (i := 7) (v := ?v8) rfl (by kernel_rfl) (by kernel_rfl) (by kernel_rfl) (fun _ _ _ h => h) (Or.inl ⟨by rfl, ?y8⟩) (by assumption) ?r8
      case y8 => intro w hSw; (try dsimp only at hSw); go_simp; (try with_reducible rfl)
      (try simp only [Act.put, List.setIfInBounds_toArray, List.set_cons_zero, List.set_cons_succ, List.getElem_toArray, List.getElem_cons_zero, List.getElem_cons_succ])
      refine wpAnyH_take (i := 8) (v := ?v9) rfl (by kernel_rfl) (by kernel_rfl) (by kernel_rfl) (fun _ _ _ h => h) (Or.inl ⟨by rfl, ?y9⟩) (by assumption) ?r9
      case y9 => intro w hSw; (try dsimp only at hSw); go_simp; (try with_reducible rfl)
      (try simp only [Act.put, List.setIfInBounds_toArray, List.set_cons_zero, List.set_cons_succ, List.getElem_toArray, List.getElem_cons_zero, List.getElem_cons_succ])
      refine wpAnyH_take (i := 9) (v := ?v10) rfl (by kernel_rfl) (by kernel_rfl) (by kernel_rfl) (fun _ _ _ h => h) (Or.inl ⟨by rfl, ?y10⟩) (by assumption) ?r10
      case y10 => intro w hSw; (try dsimp only at hSw); go_simp; (try with_reducible rfl)
      (try simp only [Act.put, List.setIfInBounds_toArray, List.set_cons_zero, List.set_cons_succ, List.getElem_toArray, List.getElem_cons_zero, List.getElem_cons_succ])
      refine wpAnyH_take (i := 10) (v := ?v11) rfl (by kernel_rfl) (by kernel_rfl) (by kernel_rfl) (fun _ _ _ h => h) (Or.inl ⟨by rfl, ?y11⟩) (by assumption) ?r11
      case y11 => intro w hSw; (try dsimp only at hSw); go_simp; (try with_reducible rfl)
      (try simp only [Act.put, List.setIfInBounds_toArray, List.set_cons_zero, List.set_cons_succ, List.getElem_toArray, List.getElem_cons_zero, List.getElem_cons_succ])
      refine wpAnyH_take (i := 11) (v := ?v12) rfl (by kernel_rfl) (by kernel_rfl) (by kernel_rfl) (fun _ _ _ h => h) (Or.inl ⟨by rfl, ?y12⟩) (by assumption) ?r12
      case y12 => intro w hSw; (try dsimp only at hSw); go_simp; (try with_reducible rfl)
      (try simp only [Act.put, List.setIfInBounds_toArray, List.set_cons_zero, List.set_cons_succ, List.getElem_toArray, List.getElem_cons_zero, List.getElem_cons_succ])
      refine wpAnyH_take (i := 12) (v := ?v13) rfl (by kernel_rfl) (by kernel_rfl) (by kernel_rfl) (fun _ _ _ h => h) (Or.inl ⟨by rfl, ?y13⟩) (by assumption) ?r13
      case y13 => intro w hSw; (try dsimp only at hSw); go_simp; (try with_reducible rfl)
      (try simp only [Act.put, List.setIfInBounds_toArray, List.set_cons_zero, List.set_cons_succ, List.getElem_toArray, List.getElem_cons_zero, List.getElem_cons_succ])
      refine wpAnyH_take (i := 13) (v := ?v14) rfl (by kernel_rfl) (by kernel_rfl) (by kernel_rfl) (fun _ _ _ h => h) (Or.inl ⟨by rfl, ?y14⟩) (by assumption) ?r14
      case y14 => intro w hSw; (try dsimp only at hSw); go_simp; (try with_reducible rfl)
      (try simp only [Act.put, List.setIfInBounds_toArray, List.set_cons_zero, List.set_cons_succ, List.getElem_toArray, List.getElem_cons_zero, List.getElem_cons_succ])
      refine wpAnyH_done (by kernel_rfl) ?_ _
      show wpList _ _ _ _ _ _
      clear hHeld
      go_wp2_with fail
      refine (SET.out _ (S1.out.ext (Ext.drew _))).mono ?_
      rintro e w9 ⟨rfl, hS9, hT9⟩
      have S9 := Lib.hid hS9; have T9 := Lib.hid hT9
      clear hS9 hT9
      go_wp2
      refine NoPanic.normal ?_
      go_wp2
      exact ⟨⟨k + 1, by omega, by go_num, S9.out, (T1.out.trans (Turn.of_ext (Ext.drew _))).trans T9.out⟩, by simp [Go.RowKit.intOf]; omega⟩
    · obtain rfl : k = H := by omega
      go_wp2_with fail
      go_end0
      refine ⟨rfl, ?_, (Turn.of_ext HE.out).trans T1.out⟩
      have h1 := S1.out
      rw [List.drop_eq_nil_of_le (by rw [HLA.out]; exact Nat.le_refl _), List.append_nil] at h1
      exact h1
end
end Go.Proofs.YtinakendlpomnaaGreat
/- gc.may: may a heap be, and its roots. -/
namespace Go.Proofs.YtinakendlpomnaaGreat
open Go.RowKit Go.Maps Arena
set_option maxHeartbeats 4000000
set_option maxRecDepth 100000
theorem search_none (a : Option Addr) (c : Nat) (x : Int) (w : World) : Calls Tryz.prog 51 #[.slice a 0 c, .int .i64 x] w fun e w' => e = .returned (.tuple #[.int .i64 0, .bool false]) ∧ Ext w w' := by
  go_enter Tryz.func51, Tryz.ntmps51
  go_wp2_with fail
  go_loopw [7, 8] (fun s7 s8 wr => s7 = .int .i64 0 ∧ s8 = .int .i64 0 ∧ Ext w wr) (fun _ _ _ => 0)
  case atStart => exact ⟨rfl, rfl, by first | exact Ext.refl _ | exact Ext.drew _⟩
  case round =>
    obtain ⟨rfl, rfl, hx⟩ := hrel
    have HX := Lib.hid hx
    clear hx
    go_wp2_with fail
    go_ret2
    exact ⟨rfl, by first | exact HX.out | exact HX.out.trans (Ext.drew _)⟩
theorem search_is {w : World} {first c : Nat} {q : Option Addr} {L : List (Nat × Ob)} (hR : RowsP w (.slice q L.length c) 1 (L.map (plC first))) (hs : L.Pairwise (fun a b => a.1 < b.1)) (hl : L.length ≤ 100000) (x : Int) :
    Calls Tryz.prog 51 #[.slice q L.length c, .int .i64 x] w fun e w' => ∃ i : Int, e = .returned (.tuple #[.int .i64 i, .bool (L.any fun y => decide (((first + y.1 : Nat) : Int) = x))]) ∧ Ext w w' := by
  rcases hR.2 with ⟨_, h0⟩ | ⟨b, off, c', h1, h2, h3, h4⟩
  · obtain rfl : L = [] := by simpa using h0
    exact (search_none q c x w).mono fun e w' ⟨h1, h2⟩ => ⟨0, h1, h2⟩
  · obtain ⟨rfl, -, rfl⟩ := Value.slice.inj h1
    have hz : (L.map fun y => ((first + y.1 : Nat) : Int)).length = L.length := by simp
    have hst : ((L.map fun y => ((first + y.1 : Nat) : Int)).take L.length) = L.map fun y => ((first + y.1 : Nat) : Int) := List.take_of_length_le (by simp)
    refine (AnyG.slices_BinarySearch_int Tryz.searchA b off L.length c (L.map fun y => ((first + y.1 : Nat) : Int)) x w (by simp) (by omega) (fun j hj => ?_) ?_).mono ?_
    · rw [hz] at hj
      have h5 := h4 j (.int .i64 ((first + L[j].1 : Nat) : Int)) (by
        have : (L.map (plC first)).flatten = L.map fun y => Value.int .i64 ((first + y.1 : Nat) : Int) := by
          generalize L = M
          induction M with
          | nil => rfl
          | cons a M ih => simp only [List.map_cons, List.flatten_cons, ih]; rfl
        rw [this, List.getElem?_map, List.getElem?_eq_getElem hj]
        rfl)
      rw [h5, List.getD_eq_getElem?_getD, List.getElem?_map, List.getElem?_eq_getElem hj]
      rfl
    · rw [hst, List.pairwise_map]
      exact hs.imp fun h => by omega
    · rintro e w' ⟨rfl, qd, rfl⟩
      rw [hst]
      have hc : (L.map fun y => ((first + y.1 : Nat) : Int)).contains x = L.any fun y => decide (((first + y.1 : Nat) : Int) = x) := by
        rw [List.contains_eq_any_beq, List.any_map]
        congr 1
        funext y
        simp only [Function.comp_apply]
        rw [Bool.eq_iff_iff]
        simp only [beq_iff_eq, decide_eq_true_eq]
        exact eq_comm
      rw [hc]
      exact ⟨_, rfl, Ext.drewN _ _⟩
theorem sizeF_ge : ∀ (L : List (Nat × Ob)), L.length ≤ sizeF L
  | [] => Nat.le_refl _
  | y :: L => by have := sizeF_ge L; have := wordsO_pos y.2; simp only [List.length_cons, sizeF]; omega
theorem gcmay_is {w : World} {p g bm n : Nat} {ws : List Int} {R : List (Nat × Nat)} (H : ArenaAt w p g bm n ws R) (h : Hp) (hw : (Lit.int .i64 h.base).wf = true) (hW : ∀ x ∈ ws, W64 x) {q : Option Addr} {c : Nat} {roots : List Int} (hr : RowsP w (.slice q roots.length c) 1 (roots.map wordC)) (hr64 : ∀ x ∈ roots, W64 x) (hrl : roots.length ≤ 100000) :
    Calls Tryz.prog 27 #[.pointer (some ⟨p, 0, none⟩), .agg #[.int .i64 h.base, .int .i64 h.half, .int .i64 h.space, .int .i64 h.top], .slice q roots.length c] w fun e w' => e = .returned (.bool (mayH ws R h roots).isSome) ∧ Ext w w' := by
  have HA := Lib.hid (fun W (e : Ext w W) => oall_is (H.ext e) h hw hW)
  have hpl : ∀ L, allH ws R h = some L → L.Pairwise (fun a b => a.1 < b.1) ∧ L.length ≤ 100000 := by
    intro L hL
    obtain ⟨ht, hS⟩ := allH_there hL
    obtain ⟨ho, _⟩ := allS_some hS
    have h1 := allH_ok H.good H.len hL
    have h2 := sizeF_ge L
    have h3 := h1.size
    obtain ⟨⟨a1, a2, _⟩, _⟩ := thereB_ok ht
    exact ⟨objs_places ho, by omega⟩
  obtain ⟨L, hLd⟩ : ∃ L, L = (allH ws R h).getD [] := ⟨_, rfl⟩
  obtain ⟨okB, hokd⟩ : ∃ b, b = (allH ws R h).isSome := ⟨_, rfl⟩
  have hres : (mayH ws R h roots).isSome = (okB && roots.all (fieldOK (L.map (·.1)) (firstN h))) := by
    unfold mayH
    rw [hLd, hokd]
    cases allH ws R h with
    | none => rfl
    | some L => simp only [Option.getD_some, Option.isSome_some, Bool.true_and]; split <;> simp_all
  rw [hres]
  generalize hfi : firstN h = first at *
  have HL := Lib.hid (show ∀ W, Ext w W → Calls Tryz.prog 49 #[.pointer (some ⟨p, 0, none⟩), .agg #[.int .i64 h.base, .int .i64 h.half, .int .i64 h.space, .int .i64 h.top]] W fun e w' => ∃ q c, e = .returned (.tuple #[.slice q L.length c, .bool okB]) ∧ Ext W w' ∧ RowsP w' (.slice q L.length c) 1 (L.map (plC first)) from fun W e => by
    refine (HA.out W e).mono ?_
    rintro e w' ⟨q, l, c, rfl, hx, h0, h1⟩
    cases hall : allH ws R h with
    | none =>
      obtain ⟨rfl, rfl, rfl⟩ := h0 hall
      have e1 : L = [] := by rw [hLd, hall]; rfl
      subst e1
      exact ⟨none, 0, by rw [hokd, hall]; rfl, hx, ⟨Rows1.nil 1, .inl ⟨.inl rfl, rfl⟩⟩⟩
    | some M =>
      obtain ⟨rfl, ho⟩ := h1 M hall
      have e1 : L = M := by rw [hLd, hall]; rfl
      subst e1
      exact ⟨q, c, by rw [hokd, hall], hx, ho.p⟩)
  have hLP : L.Pairwise (fun a b => a.1 < b.1) ∧ L.length ≤ 100000 := by
    cases hall : allH ws R h with
    | none => rw [hLd, hall]; exact ⟨.nil, by simp⟩
    | some M => rw [hLd, hall]; exact hpl M hall
  have HP := Lib.hid hLP
  have HR := Lib.hid hr; have HR64 := Lib.hid hr64
  clear hpl hLd hokd hres hfi hLP hr hr64 HA H hw hW
  go_enter Tryz.func27, Tryz.ntmps27
  go_wp2_with fail
  refine at_alloc1 fun W hE hS b0 => ?_
  refine (HL.out W hE).mono ?_
  rintro e w1 ⟨ql, cl, rfl, hx1, hl1⟩
  have HX1 := Lib.hid (hE.trans hx1)
  have HL1 := Lib.hid hl1
  obtain ⟨qn, cn, hv, hcn1, hcn2, -⟩ := hl1.at
  rw [List.length_map] at hv hcn1
  obtain ⟨rfl, -, rfl⟩ := Value.slice.inj hv
  clear hE hS b0 hx1 hl1 hv
  go_wp2_with fail
  go_loopw [23] (fun i wr => ∃ k : Nat, k ≤ roots.length ∧ i = .int .i64 k ∧ Hid ((roots.take k).all (fieldOK (L.map (·.1)) first) = true) ∧ Ext w1 wr) (fun i _ => roots.length - (Go.RowKit.intOf i).toNat)
  case atStart => exact ⟨0, Nat.zero_le _, rfl, Lib.hid rfl, by first | exact Ext.refl _ | exact Ext.drew _⟩
  case round =>
    obtain ⟨k, hk, rfl, HFA, hxk⟩ := hrel
    have HXK := Lib.hid hxk
    clear hxk
    by_cases hlt : k < roots.length
    · obtain ⟨x, hx⟩ : ∃ x, roots[k]? = some x := ⟨_, List.getElem?_eq_getElem hlt⟩
      have hx64 := HR64.out x (List.mem_of_getElem? hx)
      obtain ⟨q2, c2, hv2, _, _, hcell⟩ := ((HR.out.ext HX1.out).ext HXK.out).at
      rw [List.length_map] at hv2
      obtain ⟨rfl, -, rfl⟩ := Value.slice.inj hv2
      obtain ⟨bb, off, rfl, hcc⟩ := hcell k (wordC x) (by rw [List.getElem?_map, hx]; rfl)
      have hcx := hcc 0 _ rfl
      rw [Nat.add_zero, Nat.mul_one] at hcx
      have HAT := Lib.hid (fun W => at_is hx64 W)
      have HIS := Lib.hid (fun W => isInt_is hx64 W)
      have hnext : fieldOK (L.map (·.1)) first x = true → (roots.take (k + 1)).all (fieldOK (L.map (·.1)) first) = true := by
        intro hf
        obtain ⟨h1, rfl⟩ := List.getElem?_eq_some_iff.1 hx
        rw [List.take_succ_eq_append_getElem h1, List.all_append, HFA.out]
        simp [hf]
      have hbad : fieldOK (L.map (·.1)) first x = false → roots.all (fieldOK (L.map (·.1)) first) = false := by
        intro hf
        rw [List.all_eq_false]
        exact ⟨x, List.mem_of_getElem? hx, by rw [hf]; simp⟩
      have HNX := Lib.hid hnext; have HBD := Lib.hid hbad
      have hfo : fieldOK (L.map (·.1)) first x = (isIntW x || (decide (x / 2 < 4294967296) && L.any fun y => decide (((first + y.1 : Nat) : Int) = x / 2))) := by
        unfold fieldOK
        rw [List.any_map]
        rfl
      have HFO := Lib.hid hfo
      clear hnext hbad hfo hx hcc hcell hv2
      obtain ⟨ib, hib⟩ : ∃ ib, ib = isIntW x := ⟨_, rfl⟩
      rw [← hib] at HAT HIS HFO
      obtain ⟨fb, hfb⟩ : ∃ fb, fb = decide (x / 2 < 4294967296) := ⟨_, rfl⟩
      by_cases hout : ib = true ∨ 4294967296 ≤ x / 2
      · rw [if_pos hout] at HAT
        have HO := Lib.hid hout
        have SE := Lib.hid (fun W (e : Ext w1 W) => search_is (HL1.out.ext e) HP.out.1 HP.out.2 0)
        generalize (L.any fun y => decide (((first + y.1 : Nat) : Int) = 0)) = sb at SE
        clear hib hfb hout
        go_wp2_with fail
        refine (HAT.out _).mono ?_
        rintro e w2 ⟨rfl, rfl⟩
        go_wp2_with fail
        refine (SE.out _ (by first | exact HXK.out | exact HXK.out.trans (Ext.drew _))).mono ?_
        rintro e w3 ⟨si, rfl, hx3⟩
        have HX3 := Lib.hid (show Ext w1 w3 by first | exact HXK.out.trans hx3 | exact (HXK.out.trans (Ext.drew _)).trans hx3)
        clear hx3 hcx
        go_wp2_with fail
        refine (HIS.out _).mono ?_
        rintro e w4 ⟨rfl, rfl⟩
        cases ib with
        | true =>
          go_wp2_with fail
          exact ⟨⟨k + 1, by omega, by go_num, Lib.hid (HNX.out (by rw [HFO.out]; rfl)), HX3.out⟩, by simp [Go.RowKit.intOf]; omega⟩
        | false =>
          go_wp2_with fail
          go_ret
          refine ⟨?_, HX1.out.trans HX3.out⟩
          have : fieldOK (L.map (·.1)) first x = false := by
            rw [HFO.out]
            rcases HO.out with h | h
            · cases h
            · rw [decide_eq_false (by omega)]; rfl
          rw [HBD.out this, Bool.and_false]
          rfl
      · rw [if_neg hout] at HAT
        have hi0 : ib = false := by cases ib with | false => rfl | true => exact absurd (.inl rfl) hout
        have hf0 : x / 2 < 4294967296 := by
          by_cases h : x / 2 < 4294967296
          · exact h
          · exact absurd (.inr (by omega)) hout
        have hx0 : 0 ≤ x / 2 := by have := hx64.1; omega
        rw [hi0] at HIS HFO
        rw [decide_eq_true hf0] at HFO
        obtain ⟨x2, hx2⟩ : ∃ x2, x2 = x / 2 := ⟨_, rfl⟩
        rw [← hx2] at HAT HFO
        have SE := Lib.hid (fun W (e : Ext w1 W) => search_is (HL1.out.ext e) HP.out.1 HP.out.2 x2)
        generalize (L.any fun y => decide (((first + y.1 : Nat) : Int) = x2)) = sb at SE HFO
        clear hib hfb hout hi0 hf0 hx0 hx2
        go_wp2_with fail
        refine (HAT.out _).mono ?_
        rintro e w2 ⟨rfl, rfl⟩
        go_wp2_with fail
        refine (SE.out _ (by first | exact HXK.out | exact HXK.out.trans (Ext.drew _))).mono ?_
        rintro e w3 ⟨si, rfl, hx3⟩
        have HX3 := Lib.hid (show Ext w1 w3 by first | exact HXK.out.trans hx3 | exact (HXK.out.trans (Ext.drew _)).trans hx3)
        clear hx3 hcx
        go_wp2_with fail
        refine (HIS.out _).mono ?_
        rintro e w4 ⟨rfl, rfl⟩
        cases sb with
        | true =>
          go_wp2_with fail
          exact ⟨⟨k + 1, by omega, by go_num, Lib.hid (HNX.out (by rw [HFO.out]; rfl)), HX3.out⟩, by simp [Go.RowKit.intOf]; omega⟩
        | false =>
          go_wp2_with fail
          go_ret
          refine ⟨?_, HX1.out.trans HX3.out⟩
          rw [HBD.out (by rw [HFO.out]; rfl), Bool.and_false]
          rfl
    · obtain rfl : k = roots.length := by omega
      go_wp2_with fail
      go_ret
      refine ⟨?_, HX1.out.trans HXK.out⟩
      have := HFA.out
      rw [List.take_length] at this
      rw [this, Bool.and_true]
      rfl
end Go.Proofs.YtinakendlpomnaaGreat
/- gc.Collect. -/
namespace Go.Proofs.YtinakendlpomnaaGreat
open Go.RowKit Go.Maps Arena
set_option maxHeartbeats 8000000
set_option maxRecDepth 100000
def zeroHV : Value := .agg #[.int .i64 0, .int .i64 0, .int .i64 0, .int .i64 0]
/-- what a collection says -/
def CollSaid (ws : List Int) (R : List (Nat × Nat)) (p g bm n : Nat) (h : Hp) (roots : List Int) (w : World) (e : Ending) (w' : World) : Prop :=
  match mayH ws R h roots with
  | none => e = .returned (.tuple #[zeroHV, .slice none 0 0, .bool false]) ∧ Ext w w'
  | some Hs => ∃ q c, e = .returned (.tuple #[hpV (collH h (liveF (firstN h) Hs roots)), .slice q roots.length c, .bool true]) ∧ ArenaAt w' p g bm n (collWs ws h (liveF (firstN h) Hs roots)) R ∧
      OwnP w' w.heap.size 51 (.slice q roots.length c) 1 ((roots.map (newW (firstN h) (otherN h) (liveF (firstN h) Hs roots))).map wordC) ∧ Turn [g] w w'
theorem coll_no {w : World} {p g bm n : Nat} {ws : List Int} {R : List (Nat × Nat)} (H : ArenaAt w p g bm n ws R) (h : Hp) (hw : (Lit.int .i64 h.base).wf = true) (hW : ∀ x ∈ ws, W64 x) {q : Option Addr} {c : Nat} {roots : List Int} (hr : RowsP w (.slice q roots.length c) 1 (roots.map wordC)) (hr64 : ∀ x ∈ roots, W64 x) (hrl : roots.length ≤ 100000) (hm : mayH ws R h roots = none) :
    Calls Tryz.prog 12 #[.pointer (some ⟨p, 0, none⟩), .agg #[.int .i64 h.base, .int .i64 h.half, .int .i64 h.space, .int .i64 h.top], .slice q roots.length c] w (CollSaid ws R p g bm n h roots w) := by
  have HM := Lib.hid (fun W (e : Ext w W) => gcmay_is (H.ext e) h hw hW (hr.ext e) hr64 hrl)
  unfold CollSaid
  rw [hm] at HM ⊢
  dsimp only
  rw [Option.isSome_none] at HM
  clear H hw hW hr hr64 hm
  go_enter Tryz.func12, Tryz.ntmps12
  go_wp2_with fail
  refine at_alloc2 fun W hE hS b0 b1 => ?_
  refine (HM.out W hE).mono ?_
  rintro e w1 ⟨rfl, hx1⟩
  have c1 := (Below.block hx1 (w.heap.size + 1) (by omega)).trans b1
  have HX := Lib.hid (hE.trans hx1)
  have hl1 : w.heap.size + 1 < w1.heap.size := (Array.getElem?_eq_some_iff.1 c1).1
  clear hx1 hE hS b0 b1
  have f0 := free_at c1 (i := 0)
  have f1 := free_at c1 (i := 1)
  have f2 := free_at c1 (i := 2)
  have f3 := free_at c1 (i := 3)
  obtain ⟨y0, y1, y2, y3⟩ := cells4 c1
  go_wp2
  refine post_fill4 c1 fun W4 c4 hT4 hS4 => ?_
  obtain ⟨y0, y1, y2, y3⟩ := cells4 c4
  refine bodyPost_ret (v := .tuple #[zeroHV, .slice none 0 0, .bool false]) (by simp [results, Tryz.results12, go_sem, y0, y1, y2, y3, zeroHV]) rfl ?_
  exact ⟨rfl, Turn.after HX.out hT4 (by intro b hb; rw [List.mem_singleton.1 hb]; omega)⟩
theorem move_r {w : World} {p g bm n mb : Nat} {ws : List Int} {R : List (Nat × Nat)} {ba H sp : Nat} {Hs Fin : List (Nat × Ob)} {o1 : Nat} {f : Int → Int} {F : List (Nat × Ob)} {A B : List Int} (ho1 : o1 = (1 - sp) * H) (hf : f = newW (sp * H) ((1 - sp) * H) Fin) (S : Sp w p g bm n ws R ba H sp A B) (M : MvAt w mb p ba ((o1 + sizeF F : Nat) : Int)) (st : MvSt o1 H Hs Fin F (F.map (·.2)) A B) {x : Int} (hx : W64 x) (hok : fieldOK (Hs.map (·.1)) (sp * H) x = true) (hp : addF (sp * H) Hs F x <+: Fin) (hmg : mb ≠ g) (hlo : p < mb ∧ g < mb ∧ bm < mb) :
    Calls Tryz.prog 34 #[.pointer (some ⟨mb, 0, none⟩), .int .u64 x] w fun e w' => e = .returned (.int .u64 (f x)) ∧ ∃ F2 A2 B2, F2 = addF (sp * H) Hs F x ∧ Sp w' p g bm n ws R ba H sp A2 B2 ∧ MvAt w' mb p ba ((o1 + sizeF F2 : Nat) : Int) ∧ MvSt o1 H Hs Fin F2 (F2.map (·.2)) A2 B2 ∧ Turn [g, mb] w w' := by
  subst ho1
  subst hf
  refine (move_is S M st hx hok hp hmg hlo).mono ?_
  rintro e w' ⟨rfl, ⟨A', B', L', h1, h2, h3⟩, h4, h5⟩
  have h6 : L' = (addF (sp * H) Hs F x).map (·.2) := by
    rcases h3 with ⟨e1, rfl⟩ | ⟨y, e1, rfl⟩
    · rw [e1]
    · rw [e1, List.map_append]; rfl
  subst h6
  exact ⟨rfl, _, A', B', rfl, h1, h4, h2, h5⟩
theorem scan_o {w : World} {p g bm n mb : Nat} {ws : List Int} {R : List (Nat × Nat)} {ba H sp : Nat} {Hs Fin : List (Nat × Ob)} {o1 : Nat} {f : Int → Int} {F : List (Nat × Ob)} {A B : List Int} (ho1 : o1 = (1 - sp) * H) (hf : f = newW (sp * H) ((1 - sp) * H) Fin) (S : Sp w p g bm n ws R ba H sp A B) (M : MvAt w mb p ba ((o1 + sizeF F : Nat) : Int)) (st : MvSt o1 H Hs Fin F (F.map (·.2)) A B) (hr : Rest1 (sp * H) Hs Fin 0 F)
    (hok : ∀ y ∈ Hs, ∀ x ∈ y.2.fields, W64 x ∧ fieldOK (Hs.map (·.1)) (sp * H) x = true) (hmg : mb ≠ g) (hlo : p < mb ∧ g < mb ∧ bm < mb) :
    Calls Tryz.prog 35 #[.pointer (some ⟨mb, 0, none⟩), .int .i64 o1] w fun e w' => e = .returned (.tuple #[]) ∧ (∃ A', Sp w' p g bm n ws R ba H sp A' (gcB H f Fin)) ∧ MvAt w' mb p ba ((o1 + sizeF Fin : Nat) : Int) ∧ Turn [g, mb] w w' := by
  subst ho1
  subst hf
  exact scan_is S M st hr hok hmg hlo
theorem coll_yes {w : World} {p g bm n : Nat} {ws : List Int} {R : List (Nat × Nat)} (H : ArenaAt w p g bm n ws R) (h : Hp) (hw : (Lit.int .i64 h.base).wf = true) (hW : ∀ x ∈ ws, W64 x) {q : Option Addr} {c : Nat} {roots : List Int} (hr : RowStay w g (.slice q roots.length c) (roots.map wordC)) (hr64 : ∀ x ∈ roots, W64 x) (hrl : roots.length ≤ 100000) {Hs : List (Nat × Ob)} (hm : mayH ws R h roots = some Hs) :
    Calls Tryz.prog 12 #[.pointer (some ⟨p, 0, none⟩), .agg #[.int .i64 h.base, .int .i64 h.half, .int .i64 h.space, .int .i64 h.top], .slice q roots.length c] w (CollSaid ws R p g bm n h roots w) := by
  have HM := Lib.hid (fun W (e : Ext w W) => gcmay_is (H.ext e) h hw hW (hr W (Turn.of_ext e)) hr64 hrl)
  unfold CollSaid
  rw [hm] at HM ⊢
  dsimp only
  rw [Option.isSome_some] at HM
  obtain ⟨ha, hok⟩ := mayH_some hm
  obtain ⟨ht, _⟩ := allH_there ha
  obtain ⟨ba, Hh, sp, N⟩ := hpN_of H.good ht
  have gc := gc_of H.good H.len hW ha N roots
  obtain ⟨A, B, hA, hB, hws, hsemi, -⟩ := N.split H.len
  have hwrd := allH_words H.good H.len hW ha hsemi
  rw [N.collWs, N.first, N.other]
  rw [N.first, N.other] at gc
  rw [N.first] at hok
  obtain ⟨hb, hh, hs, htp⟩ := h
  have e1 : hb = (ba : Int) := N.base
  have e2 : hh = (Hh : Int) := N.half
  have e3 : hs = (sp : Int) := N.space
  subst e1; subst e2; subst e3
  have hrest := rest0_start (sp * Hh) Hs roots
  generalize hFd : liveF (sp * Hh) Hs roots = Fin at gc hrest ⊢
  obtain ⟨f, hf⟩ : ∃ f, f = newW (sp * Hh) ((1 - sp) * Hh) Fin := ⟨_, rfl⟩
  rw [← hf]
  have hone := N.one
  have hHi := N.hi
  have hlo8 := N.lo
  have hspl := sp_le (H := Hh) hone
  obtain ⟨osp, hosp⟩ : ∃ osp, osp = 1 - sp := ⟨_, rfl⟩
  obtain ⟨o1, ho1⟩ : ∃ o1, o1 = osp * Hh := ⟨_, rfl⟩
  have hspl1 : o1 ≤ Hh := by rw [ho1]; exact sp_le (by omega)
  have hs1 : (1 : Int) - (sp : Int) = (osp : Int) := by omega
  have hmul : (osp : Int) * (Hh : Int) = (o1 : Int) := by rw [ho1, Int.natCast_mul]
  have hosp1 : osp ≤ 1 := by omega
  have hmul2 : IntKind.i64.wrap ((osp : Int) * (Hh : Int)) = (o1 : Int) := by rw [hmul]; exact IntWalk.i64_in _ (by omega)
  have hmk := run_make_row' (P := Tryz.prog) 22 51 (.int .u64 0) 8 Tryz.underlying22 info_u64 rfl .i64 .i64 roots.length (by omega) (by omega)
  have HS := Lib.hid (show Sp w p g bm n ws R ba Hh sp A B from ⟨by rw [← hws]; exact H, H.len, N.reg, hone, hA, hB, hHi, hw⟩)
  obtain ⟨lp, lg, lm⟩ := H.lt
  have HG := Lib.hid gc; have HR := Lib.hid hr; have HR64 := Lib.hid hr64; have HOK := Lib.hid hok; have HF := Lib.hid hf; have HREST := Lib.hid hrest; have HWRD := Lib.hid hwrd; have HOSP := Lib.hid hosp; have HO1 := Lib.hid ho1; have HMUL := Lib.hid hmul; have HA := Lib.hid hA
  clear H hw hW hr hr64 hm ha hok ht N gc hA hB hws hsemi hwrd hrest hFd hf hosp ho1 hmul
  go_enter Tryz.func12, Tryz.ntmps12
  go_wp2_with fail
  refine at_alloc2 fun W hE hS b0 b1 => ?_
  refine (HM.out W hE).mono ?_
  rintro e w1 ⟨rfl, hx1⟩
  have c0 := (Below.block hx1 w.heap.size (by omega)).trans b0
  have c1 := (Below.block hx1 (w.heap.size + 1) (by omega)).trans b1
  have HX := Lib.hid (hE.trans hx1)
  have hl1 : w.heap.size + 1 < w1.heap.size := (Array.getElem?_eq_some_iff.1 c1).1
  clear hx1 hE hS b0 b1 HM
  obtain ⟨z0, z1, z2, z3⟩ := cells4 c0
  go_upto_region 5 with fail
  refine wp_alloc1 fun W2 hE2 hS2 b2 => ?_
  have M2 := Lib.hid (show MvAt W2 w1.heap.size p ba (o1 : Int) from ⟨b2⟩)
  have S2 := Lib.hid (show Sp W2 p g bm n ws R ba Hh osp B A by rw [HOSP.out]; exact (HS.out.ext (HX.out.trans hE2)).swap)
  have HX2 := Lib.hid (HX.out.trans hE2)
  have d0 := (Below.block hE2 w.heap.size (by omega)).trans c0
  have d1 := (Below.block hE2 (w.heap.size + 1) (by omega)).trans c1
  have hmg : w1.heap.size ≠ g := by omega
  have hlo : p < w1.heap.size ∧ g < w1.heap.size ∧ bm < w1.heap.size := by omega
  have hww : w.heap.size < w1.heap.size ∧ w.heap.size + 1 < w1.heap.size := by omega
  clear hE2 hS2 b2 c0 c1 z0 z1 z2 z3 hl1
  generalize hmb : w1.heap.size = mb at *
  clear hmb
  obtain ⟨z0, z1, z2, z3⟩ := cells4 d0
  go_wp2_with fail
  refine (wipe_is S2.out M2.out hmg (sp : Int) htp).mono ?_
  rintro e w3 ⟨rfl, hS3, hT3⟩
  have S3 := Lib.hid hS3; have T3 := Lib.hid hT3
  have M3 := Lib.hid (M2.out.turn hT3 hmg)
  have e0 := (hT3.block w.heap.size (Array.getElem?_eq_some_iff.1 d0).1 (by simp; omega)).trans d0
  have e1 := (hT3.block (w.heap.size + 1) (Array.getElem?_eq_some_iff.1 d1).1 (by simp; omega)).trans d1
  have hmw3 : mb < w3.heap.size := (Array.getElem?_eq_some_iff.1 M3.out.blk).1
  clear hS3 hT3 d0 d1 z0 z1 z2 z3
  have TT3 := Lib.hid (show Turn [g] w w3 from (Turn.of_ext HX2.out).trans T3.out)
  have hgw3 : g < w3.heap.size := by omega
  go_wp2_with (refine wpList_copy_rows E64 (by rfl) _ _ (by rfl) w3.heap.size (.slice (some ⟨w3.heap.size, 0, none⟩) roots.length roots.length) _ (List.replicate roots.length [.int .u64 0]) (roots.map wordC) (by rfl) (made_at rfl rfl (Nat.le_refl _) (by unfold maxLen; omega)) (by rfl) (HR.out _ (TT3.out.trans (Turn.of_ext (Ext.alloc _ _)))) ?_)
  intro w4 ho hg hsz4
  rw [show (roots.map wordC).take roots.length = roots.map wordC from List.take_of_length_le (by simp)] at ho
  have hx4 : Ext w3 w4 := Below.grown (Below.alloc (Ext.refl w3) (by omega) _) hg (by simp) (fun b hb => by simp [Value.ownBlock] at hb; omega)
  have HO4 := Lib.hid ho
  have S4 := Lib.hid (show Sp w4 p g bm n ws R ba Hh sp A (List.replicate Hh 0) by
    have h := (S3.out.ext hx4).swap
    rw [show 1 - osp = sp by have := HOSP.out; omega] at h
    exact h)
  have M4 := Lib.hid (M3.out.ext hx4)
  have TT4 := Lib.hid (TT3.out.trans (Turn.of_ext hx4))
  have k0 := (Below.block hx4 _ (Array.getElem?_eq_some_iff.1 e0).1).trans e0
  have k1 := (Below.block hx4 _ (Array.getElem?_eq_some_iff.1 e1).1).trans e1
  have HK0 := Lib.hid k0; have HK1 := Lib.hid k1
  have hob : mb < w3.heap.size ∧ w.heap.size + 1 < w3.heap.size ∧ g < w3.heap.size := by omega
  have hbw : w.heap.size ≤ w3.heap.size := by omega
  obtain ⟨hob1, hob2, hob3⟩ := hob
  clear ho hg hsz4 hx4 k0 k1 e0 e1 hmw3 hgw3 hmk S2 M2 S3 M3 T3 HX2 HX HS
  generalize w3.heap.size = ob at *
  have HST := Lib.hid (show MvSt o1 Hh Hs Fin [] (([] : List (Nat × Ob)).map (·.2)) A (List.replicate Hh 0) from mvSt_start HA.out HG.out.hs HG.out.fin HWRD.out)
  have HO1' := Lib.hid (show o1 = (1 - sp) * Hh by rw [HO1.out, HOSP.out])
  go_wp2_with fail
  go_loopw [44] (fun i wr => ∃ (k : Nat) (F : List (Nat × Ob)) (A2 B2 : List Int), k ≤ roots.length ∧ i = .int .i64 k ∧ OwnP wr ob 51 (.slice (some ⟨ob, 0, none⟩) roots.length roots.length) 1 (((roots.take k).map f ++ roots.drop k).map wordC) ∧ Sp wr p g bm n ws R ba Hh sp A2 B2 ∧ MvAt wr mb p ba ((o1 + sizeF F : Nat) : Int) ∧ MvSt o1 Hh Hs Fin F (F.map (·.2)) A2 B2 ∧ Rest0 (sp * Hh) Hs Fin F (roots.drop k) ∧ Turn [g, mb, ob] w4 wr) (fun i _ => roots.length - (Go.RowKit.intOf i).toNat)
  case atStart => exact ⟨0, [], A, _, Nat.zero_le _, rfl, HO4.out, S4.out, by simpa [sizeF] using M4.out, HST.out, HREST.out, Turn.refl _ _⟩
  case round =>
    obtain ⟨k, F, A2, B2, hk, rfl, hO, hS, hM, hSt, hRs, hT⟩ := hrel
    have O5 := Lib.hid hO; have S5 := Lib.hid hS; have M5 := Lib.hid hM; have ST5 := Lib.hid hSt; have R5 := Lib.hid hRs; have T5 := Lib.hid hT
    clear hO hS hM hSt hRs hT
    by_cases hlt : k < roots.length
    · obtain ⟨x, hx⟩ : ∃ x, roots[k]? = some x := ⟨_, List.getElem?_eq_getElem hlt⟩
      have hxm := List.mem_of_getElem? hx
      have hdr : roots.drop k = x :: roots.drop (k + 1) := by
        obtain ⟨h1, rfl⟩ := List.getElem?_eq_some_iff.1 hx
        exact List.drop_eq_getElem_cons h1
      have hrow : (((roots.take k).map f ++ roots.drop k).map wordC)[k]? = some (wordC x) := by
        rw [List.getElem?_map, List.getElem?_append_right (by simp; omega), List.length_map, List.length_take, Nat.min_eq_left hk, Nat.sub_self, List.getElem?_drop, Nat.add_zero, hx]
        rfl
      obtain ⟨_, e9, -, hc, -⟩ := O5.out.cell (f := 0) (u := .int .u64 x) hrow rfl
      obtain ⟨rfl, -⟩ := Addr.mk.inj (Option.some.inj e9)
      rw [Nat.add_zero, Nat.mul_one] at hc
      have hR6 := R5.out
      rw [hdr] at hR6
      have hR6 := rest0_step hR6
      have hpF := rest0_pre hR6
      have MV := Lib.hid (move_r HO1'.out HF.out S5.out M5.out ST5.out (HR64.out x hxm) (HOK.out x hxm) hpF hmg hlo)
      have HDR := Lib.hid hdr; have HX := Lib.hid hx; have R6 := Lib.hid hR6; have HROW := Lib.hid hrow
      clear hxm hdr hrow hR6 hpF e9 hx
      go_wp2_with fail
      refine MV.out.mono ?_
      rintro e w9 ⟨rfl, F2, A3, B3, hF2, hS9, hM9, hst9, hT9⟩
      have hO9 := O5.out.turn hT9 (fun b hb hm => by simp [Value.ownBlock] at hb; subst hb; simp at hm; omega)
      obtain ⟨_, e9, -, hc9, hf9⟩ := hO9.cell (f := 0) (u := .int .u64 x) HROW.out rfl
      obtain ⟨rfl, -⟩ := Addr.mk.inj (Option.some.inj e9)
      have hst := hO9.store (f := 0) (u := .int .u64 (f x)) HROW.out (by omega) rfl
      rw [Nat.add_zero, Nat.mul_one] at hc9 hf9 hst
      rw [show (wordC x).set 0 (.int .u64 (f x)) = wordC (f x) from rfl, ← List.map_set] at hst
      have hset : ((roots.take k).map f ++ roots.drop k).set k (f x) = (roots.take (k + 1)).map f ++ roots.drop (k + 1) := by
        obtain ⟨h1, rfl⟩ := List.getElem?_eq_some_iff.1 HX.out
        rw [List.set_append_right _ _ (by simp; omega), List.length_map, List.length_take, Nat.min_eq_left hk, Nat.sub_self, HDR.out, List.set_cons_zero, List.take_succ_eq_append_getElem h1, List.map_append, List.append_assoc]
        rfl
      rw [hset] at hst
      have hR7 := R6.out
      rw [← hF2] at hR7
      have hTs : Turn [ob] w9 (w9.setCell ⟨ob, k, none⟩ (.int .u64 (f x))) := (Turn.refl [ob] w9).setCell (.inl (by simp)) _
      have O9 := Lib.hid hst; have S9 := Lib.hid (hS9.turn hTs (by omega)); have M9 := Lib.hid (hM9.turn (g := ob) hTs (by omega)); have ST9 := Lib.hid hst9; have R9 := Lib.hid hR7
      have T9 := Lib.hid (show Turn [g, mb, ob] w4 (w9.setCell ⟨ob, k, none⟩ (.int .u64 (f x))) from (T5.out.trans (hT9.mono (by simp))).trans (hTs.mono (by simp)))
      clear hF2 hS9 hM9 hst9 hT9 hO9 e9 hst hset hR7 hTs
      go_wp2
      exact ⟨⟨k + 1, F2, A3, B3, by omega, by go_num, O9.out, S9.out, M9.out, ST9.out, R9.out, T9.out⟩, by simp [Go.RowKit.intOf]; omega⟩
    · obtain rfl : k = roots.length := by omega
      have hO := O5.out
      rw [List.take_length, List.drop_length, List.append_nil] at hO
      have hR6 := R5.out
      rw [List.drop_length] at hR6
      have SC := Lib.hid (scan_o HO1'.out HF.out S5.out M5.out ST5.out (rest0_scan hR6) HG.out.ok hmg hlo)
      have O6 := Lib.hid hO
      have kb0 := (T5.out.block w.heap.size (Array.getElem?_eq_some_iff.1 HK0.out).1 (by simp; omega)).trans HK0.out
      have kb1 := (T5.out.block (w.heap.size + 1) (Array.getElem?_eq_some_iff.1 HK1.out).1 (by simp; omega)).trans HK1.out
      clear hO hR6
      obtain ⟨z0, z1, z2, z3⟩ := cells4 kb0
      go_wp2_with fail
      refine SC.out.mono ?_
      rintro e w9 ⟨rfl, ⟨A3, hS9⟩, hM9, hT9⟩
      have S9 := Lib.hid hS9; have M9 := Lib.hid hM9
      have O9 := Lib.hid (O6.out.turn hT9 (fun b hb hm => by simp [Value.ownBlock] at hb; subst hb; simp at hm; omega))
      have T9 := Lib.hid (T5.out.trans (hT9.mono (by simp)))
      have kc0 := (hT9.block w.heap.size (Array.getElem?_eq_some_iff.1 kb0).1 (by simp; omega)).trans kb0
      have kc1 := (hT9.block (w.heap.size + 1) (Array.getElem?_eq_some_iff.1 kb1).1 (by simp; omega)).trans kb1
      clear hS9 hM9 hT9 kb0 kb1 z0 z1 z2 z3 SC
      obtain ⟨z0, z1, z2, z3⟩ := cells4 kc0
      go_wp2_with fail
      refine (wipe_is S9.out M9.out hmg (sp : Int) htp).mono ?_
      rintro e w10 ⟨rfl, hS10, hT10⟩
      have S10 := Lib.hid hS10
      have M10 := Lib.hid (M9.out.turn hT10 hmg)
      have O10 := Lib.hid (O9.out.turn hT10 (fun b hb hm => by simp [Value.ownBlock] at hb; subst hb; simp at hm; omega))
      have T10 := Lib.hid (T9.out.trans (hT10.mono (by simp)))
      have kd0 := (hT10.block w.heap.size (Array.getElem?_eq_some_iff.1 kc0).1 (by simp; omega)).trans kc0
      have kd1 := (hT10.block (w.heap.size + 1) (Array.getElem?_eq_some_iff.1 kc1).1 (by simp; omega)).trans kc1
      clear hS10 hT10 kc0 kc1 z0 z1 z2 z3
      obtain ⟨z0, z1, z2, z3⟩ := cells4 kd0
      have f2 := free_at kd0 (i := 2)
      have f3 := free_at kd0 (i := 3)
      obtain ⟨m0, m1, m2⟩ := cells3 M10.out.blk
      have hne : ¬ w.heap.size = mb := by omega
      go_upto_region 15 with fail
      go_region
      have hw6 : wrap64 ((o1 : Int) + (sizeF Fin : Int) - (o1 : Int)) = (sizeF Fin : Int) := by
        have h1 := HG.out.size
        rw [← IntWalk.i64_left, IntWalk.i64_in _ (by omega)]
        omega
      rw [hw6]
      refine q_gen (fun W => W.heap[w.heap.size]? = some (.cells #[.int .i64 ba, .int .i64 Hh, .int .i64 osp, .int .i64 (sizeF Fin)] 24 (0, 0)) ∧ Turn [w.heap.size] w10 W) ⟨by simp [World.setCell, World.drew, Array.getElem?_modify, kd0], ((((Turn.refl [w.heap.size] w10).setCell (.inl (by simp)) _).setCell (.inl (by simp)) _).trans (Turn.of_ext (Ext.drew _)))⟩ fun W11 hW11 => ?_
      obtain ⟨ke0, hT11⟩ := hW11
      have ke1 := (hT11.block (w.heap.size + 1) (Array.getElem?_eq_some_iff.1 kd1).1 (by simp)).trans kd1
      have S11 := Lib.hid (S10.out.turn hT11 (by omega))
      have O11 := Lib.hid (O10.out.turn hT11 (fun b hb hm => by simp [Value.ownBlock] at hb; subst hb; simp at hm; omega))
      have T11 := Lib.hid (show Turn [g, mb, ob, w.heap.size] w4 W11 from (T10.out.mono (by simp)).trans (hT11.mono (by simp)))
      clear hT11 hw6 z0 z1 z2 z3 f2 f3 m0 m1 m2 kd0 kd1
      obtain ⟨z0, z1, z2, z3⟩ := cells4 ke0
      obtain ⟨y0, y1, y2, y3⟩ := cells4 ke1
      have f0 := free_at ke1 (i := 0)
      have f1 := free_at ke1 (i := 1)
      have f2 := free_at ke1 (i := 2)
      have f3 := free_at ke1 (i := 3)
      go_wp2
      refine post_fill4 ke1 fun W12 c12 hT12 hS12 => ?_
      obtain ⟨y0, y1, y2, y3⟩ := cells4 c12
      refine bodyPost_ret (v := .tuple #[.agg #[.int .i64 ba, .int .i64 Hh, .int .i64 osp, .int .i64 (sizeF Fin)], .slice (some ⟨ob, 0, none⟩) roots.length roots.length, .bool true]) (by simp [results, Tryz.results12, go_sem, y0, y1, y2, y3]) rfl ?_
      have S12 := S11.out.turn (mb := w.heap.size + 1) hT12 (by omega)
      have hO12 := O11.out.turn hT12 (fun b hb hm => by simp [Value.ownBlock] at hb; subst hb; simp at hm; omega)
      refine ⟨some ⟨ob, 0, none⟩, roots.length, ?_, ?_, hO12.mono (by omega), ?_⟩
      · unfold hpV collH
        dsimp only
        rw [hs1]
      · exact S12.a
      · refine Turn.sub ((TT4.out.mono (cs := [g, mb, ob, w.heap.size, w.heap.size + 1]) (by simp)).trans ((T11.out.mono (cs := [g, mb, ob, w.heap.size, w.heap.size + 1]) (by simp)).trans (hT12.mono (by simp)))) (fun b hb => ?_)
        simp only [List.mem_cons, List.not_mem_nil, or_false] at hb
        rcases hb with rfl | rfl | rfl | rfl | rfl
        · exact .inl (by simp)
        all_goals exact .inr (by omega)
theorem coll_is {w : World} {p g bm n : Nat} {ws : List Int} {R : List (Nat × Nat)} (H : ArenaAt w p g bm n ws R) (h : Hp) (hw : (Lit.int .i64 h.base).wf = true) (hW : ∀ x ∈ ws, W64 x) {q : Option Addr} {c : Nat} {roots : List Int} (hr : RowStay w g (.slice q roots.length c) (roots.map wordC)) (hr64 : ∀ x ∈ roots, W64 x) (hrl : roots.length ≤ 100000) :
    Calls Tryz.prog 12 #[.pointer (some ⟨p, 0, none⟩), .agg #[.int .i64 h.base, .int .i64 h.half, .int .i64 h.space, .int .i64 h.top], .slice q roots.length c] w (CollSaid ws R p g bm n h roots w) := by
  cases hm : mayH ws R h roots with
  | none => exact coll_no H h hw hW (hr w (Turn.refl _ _)) hr64 hrl hm
  | some Hs => exact coll_yes H h hw hW hr hr64 hrl hm
end Go.Proofs.YtinakendlpomnaaGreat
/- A slice of one-cell elements that is cut at its head ('l = l[1:]') and appended to: at whatever place of its block. -/
namespace Go.Proofs.YtinakendlpomnaaGreat
open Go Go.RowKit
set_option maxHeartbeats 1000000
/-- a row at some place of a block of the call's own; behind it, up to the capacity, room -/
def FifoP (w : World) (base : Nat) (T : TypeId) (v : Value) (l : List Value) : Prop := (∀ u ∈ l, u.oneCell' = true) ∧ ((v = .slice none 0 0 ∧ l = []) ∨
  ∃ b off cap cur, v = .slice (some ⟨b, off, none⟩) l.length cap ∧ base ≤ b ∧ w.heap[b]? = some (.cells cur T (0, 0)) ∧ l.length ≤ cap ∧ cap ≤ maxLen ∧ off + cap ≤ cur.size ∧ ∀ (j : Nat) (u : Value), l[j]? = some u → cur[off + j]? = some u)
theorem FifoP.nil (w : World) (base : Nat) (T : TypeId) : FifoP w base T (.slice none 0 0) [] := ⟨fun _ h => (by cases h), .inl ⟨rfl, rfl⟩⟩
theorem FifoP.own {w : World} {base : Nat} {T : TypeId} {v : Value} {l : List Value} (h : FifoP w base T v l) : ∀ b, v.ownBlock = some b → base ≤ b ∧ b < w.heap.size := by
  intro b hb
  rcases h.2 with ⟨rfl, _⟩ | ⟨b', off, cap, cur, rfl, h1, h2, _⟩
  · simp [Value.ownBlock] at hb
  · simp only [Value.ownBlock, Option.some.injEq] at hb
    subst hb
    exact ⟨h1, (Array.getElem?_eq_some_iff.1 h2).1⟩
theorem FifoP.turn {w w' : World} {base : Nat} {T : TypeId} {v : Value} {l : List Value} {bs : List Nat} (h : FifoP w base T v l) (t : Turn bs w w') (hb : ∀ b, v.ownBlock = some b → b ∉ bs) : FifoP w' base T v l := by
  refine ⟨h.1, h.2.imp id fun ⟨b, off, cap, cur, h1, h0, h2, h3⟩ => ⟨b, off, cap, cur, h1, h0, ?_, h3⟩⟩
  exact (t.block b (Array.getElem?_eq_some_iff.1 h2).1 (hb b (by rw [h1]; rfl))).trans h2
theorem FifoP.ext {w w' : World} {base : Nat} {T : TypeId} {v : Value} {l : List Value} (h : FifoP w base T v l) (e : Ext w w') : FifoP w' base T v l := h.turn (bs := []) (Turn.of_ext e) (by simp)
theorem FifoP.len {w : World} {base : Nat} {T : TypeId} {v : Value} {l : List Value} (h : FifoP w base T v l) : ∃ q c, v = .slice q l.length c ∧ l.length ≤ c ∧ c ≤ maxLen := by
  rcases h.2 with ⟨rfl, rfl⟩ | ⟨b, off, cap, cur, rfl, _, _, h3, h4, _⟩
  · exact ⟨none, 0, rfl, Nat.le_refl _, Nat.zero_le _⟩
  · exact ⟨_, cap, rfl, h3, h4⟩
theorem FifoP.head {w : World} {base : Nat} {T : TypeId} {q : Option Addr} {n c : Nat} {x : Value} {l : List Value} (h : FifoP w base T (.slice q n c) (x :: l)) : ∃ b off, q = some ⟨b, off, none⟩ ∧ n = l.length + 1 ∧ w.cell? ⟨b, off, none⟩ = some x ∧
    FifoP w base T (.slice (if c = 1 then some ⟨b, off, none⟩ else some ⟨b, off + 1, none⟩) l.length (c - 1)) l := by
  rcases h.2 with ⟨_, h⟩ | ⟨b, off, cap, cur, h1, h0, h2, h3, h4, h5, h6⟩
  · cases h
  · obtain ⟨rfl, rfl, rfl⟩ := Value.slice.inj h1
    have h60 := h6 0 x rfl
    refine ⟨b, off, rfl, rfl, by simpa [World.cell?, h2] using h60, fun u hu => h.1 u (.tail _ hu), .inr ?_⟩
    simp only [List.length_cons] at h3
    by_cases hc : c = 1
    · subst hc
      rw [if_pos rfl]
      have hl : l = [] := List.eq_nil_of_length_eq_zero (by omega)
      subst hl
      exact ⟨b, off, 0, cur, rfl, h0, h2, Nat.le_refl _, Nat.zero_le _, by omega, fun j u hu => by simp at hu⟩
    · rw [if_neg hc]
      refine ⟨b, off + 1, c - 1, cur, rfl, h0, h2, by omega, by omega, by omega, fun j u hu => ?_⟩
      have := h6 (j + 1) u hu
      rw [← this]
      congr 1
      omega
theorem run_fifo_tail {P : Program} {ST T : TypeId} {bytes : Nat} (E : ElemT P ST T 1 bytes) (w : World) (b off n c : Nat) (hn : 1 ≤ n) (_hc : n ≤ c) : (Instr.slice ST (.slice (some ⟨b, off, none⟩) n c) (some (.int .i64 1)) none none).run P w = .ok (.slice (if c = 1 then some ⟨b, off, none⟩ else some ⟨b, off + 1, none⟩) (n - 1) (c - 1)) w := by
  obtain ⟨z, hinfo, _⟩ := E.info
  obtain ⟨i0, hi, hz0, hz1, hz2⟩ := info_parts hinfo
  have hel : P.elem ST = T := by simp [Program.elem, E.under]
  have hsz : (sizeOf (P.elem ST)).run P w = .ok 1 w := by rw [hel]; simp [sizeOf, typeInfo, hi, hz1]
  rw [run_slice_l w ST (some ⟨b, off, none⟩) n c (by rw [hel]; exact E.under) .i64 1 (by omega) (by omega), hsz]
  by_cases h : c = 1 <;> simp [sliced, h, Addr.add]
theorem run_append_fifo {P : Program} {ST T : TypeId} {bytes : Nat} (E : ElemT P ST T 1 bytes) {w : World} (ty : TypeId) {base : Nat} {v x : Value} {g : Nat} {l : List Value} (hv : FifoP w base T v l) (hbase : base ≤ w.heap.size) (hx : w.cell? ⟨g, 0, none⟩ = some x) (h1 : x.oneCell' = true)
    (h63 : l.length + 1 ≤ maxLen) (hbytes : (l.length + 1) * bytes ≤ 140737488355328) :
    ∃ v' w', (Builtin.append_ #[ST, ST] ty #[v, .slice (some ⟨g, 0, none⟩) 1 1]).run P w = .ok v' w' ∧ FifoP w' base T v' (l ++ [x]) ∧ Turn v.ownBlock.toList w w' ∧ (v'.ownBlock = v.ownBlock ∨ v'.ownBlock = some w.heap.size) := by
  obtain ⟨z, hinfo, hz⟩ := E.info
  obtain ⟨i0, hi, hz0, hz1, hz2⟩ := info_parts hinfo
  have hs : Src P i0.size ST (.slice (some ⟨g, 0, none⟩) 1 1) 1 [x] w := Src.ofSlice w E.under ⟨g, 0, none⟩ 1 1 [x] (by rw [hz1]; rfl) (fun j u hj => by
    cases j with
    | zero => simp at hj; subst hj; simpa [Addr.add] using hx
    | succ j => simp at hj) (by intro u hu; simp at hu; subst hu; exact h1)
  have hone : ∀ u ∈ l ++ [x], u.oneCell' = true := fun u hu => by
    rcases List.mem_append.1 hu with hu | hu
    · exact hv.1 u hu
    · rw [List.mem_singleton.1 hu]; exact h1
  have grow : ∀ (q : Option Addr) (c : Nat), v = .slice q l.length c → c < l.length + 1 → (Builtin.firstCells i0.size l.length (.slice q l.length c)).run P w.drew = .ok l.toArray w.drew →
      ∃ v' w', (Builtin.append_ #[ST, ST] ty #[v, .slice (some ⟨g, 0, none⟩) 1 1]).run P w = .ok v' w' ∧ FifoP w' base T v' (l ++ [x]) ∧ Turn v.ownBlock.toList w w' ∧ (v'.ownBlock = v.ownBlock ∨ v'.ownBlock = some w.heap.size) := by
    rintro q c rfl hc hold
    have hrun := run_append_grow_src (P := P) w ST ST ty T i0 z E.under hi hz0 q l.length c l hold _ 1 [x] hs hc (by unfold maxLen at h63; omega) (growslice_fits hc (by rw [hz2]; exact hbytes))
    refine ⟨_, _, hrun, ⟨hone, .inr ⟨w.heap.size, 0, _, _, by rw [List.length_append]; rfl, hbase, heap_alloc_new w.drew _, ?_, grownCap_le_maxLen w (l.length + 1) c T h63, ?_, fun j u hj => ?_⟩⟩, (Turn.of_ext ((Ext.drew w).trans (Ext.alloc w.drew _))), .inr rfl⟩
    · rw [List.length_append]; exact grownCap_ge w (l.length + 1) c T
    · rw [Nat.zero_add, Array.size_append, List.size_toArray, List.length_append, size_zeroCells, hz]
      have := grownCap_ge w (l.length + 1) c T
      simp
      omega
    · have hjl : j < (l ++ [x]).length := (List.getElem?_eq_some_iff.1 hj).1
      rw [Nat.zero_add, Array.getElem?_append_left (by simpa using hjl), List.getElem?_toArray]
      exact hj
  rcases hv.2 with ⟨rfl, rfl⟩ | ⟨b, off, cap, cur, rfl, h0, h2, h3, h4, h5, h6⟩
  · exact grow none 0 rfl (by simp) (run_firstCells_none w.drew _ _ _ _)
  · by_cases hroom : l.length + 1 ≤ cap
    · have hcell : ∀ j, j < [x].length → (w.cell? ⟨b, off + l.length * i0.size + j, none⟩).isSome = true := fun j hj => by
        simp only [List.length_singleton] at hj
        have : off + l.length * i0.size + j < cur.size := by rw [hz1]; omega
        simp [World.cell?, h2, this]
      have hfz : ∀ j, j < [x].length → w.frozen? ⟨b, off + l.length * i0.size + j, none⟩ = false := fun j hj => by simp [World.frozen?, h2]
      have hrun := run_append_room_src (P := P) w ST ST ty T i0 E.under hi b off l.length cap _ 1 [x] hs hroom hcell hfz
      rw [hz1, Nat.mul_one] at hrun
      have hset := Go.Lib.heap_setCell_same (i := off + l.length) h2 x
      refine ⟨_, _, hrun, ⟨hone, .inr ⟨b, off, cap, _, by rw [List.length_append]; rfl, h0, hset, by rw [List.length_append]; exact hroom, h4, by simpa using h5, fun j u hj => ?_⟩⟩, (Turn.refl _ w).setCell (.inl (by simp [Value.ownBlock])) x, .inl rfl⟩
      by_cases hjl : j < l.length
      · rw [List.getElem?_append_left hjl] at hj
        rw [Array.getElem?_setIfInBounds_ne (by omega)]
        exact h6 j u hj
      · have hjl2 : j < (l ++ [x]).length := (List.getElem?_eq_some_iff.1 hj).1
        rw [List.length_append, List.length_singleton] at hjl2
        obtain rfl : j = l.length := by omega
        rw [List.getElem?_append_right (Nat.le_refl _), Nat.sub_self] at hj
        obtain rfl : x = u := by simpa using hj
        rw [Array.getElem?_setIfInBounds_self_of_lt (by omega)]
    · refine grow _ _ rfl (by omega) ?_
      refine run_firstCells_some (P := P) w.drew _ _ _ _ _ l (by rw [hz1, Nat.mul_one]) (fun j u hj => ?_)
      rw [Go.WideShapes.add_plain]
      have := h6 j u hj
      show w.cell? _ = _
      simpa [World.cell?, h2] using this
/-- append, at a plain region's list -/
theorem wpList_append_fifo {P : Program} {ST T : TypeId} {bytes : Nat} (E : ElemT P ST T 1 bytes) {w : World} {ops : Array Oper} {rest : List Oper} {o : Oper} {a : Act} {Q : Exit → Act → World → Prop} (hgd : o.guard = none) (so xo : Operand)
    (ho : o.op = .call { callee := .builtin .append, args := #[so, xo], argTypes := #[ST, ST] })
    (base : Nat) (v x : Value) (g : Nat) (l : List Value) (hs : a.eval so = v) (hv : FifoP w base T v l) (hbase : base ≤ w.heap.size) (hxo : a.eval xo = .slice (some ⟨g, 0, none⟩) 1 1) (hx : w.cell? ⟨g, 0, none⟩ = some x) (h1 : x.oneCell' = true)
    (h63 : l.length + 1 ≤ maxLen) (hbytes : (l.length + 1) * bytes ≤ 140737488355328)
    (h : ∀ v' w', FifoP w' base T v' (l ++ [x]) → Turn v.ownBlock.toList w w' → (v'.ownBlock = v.ownBlock ∨ v'.ownBlock = some w.heap.size) → wpList P ops Q rest (a.put o.dst v') w') :
    wpList P ops Q (o :: rest) a w := by
  obtain ⟨v', w', hr, h2, h3, h4⟩ := run_append_fifo E o.type hv hbase hx h1 h63 hbytes
  refine wpList_plain hgd fun K hK => ?_
  unfold Oper.wp execOp
  simp only [ho, resolve, invoke, builtin, Sem.run_bind, Sem.run_pure, Result.andThen_ok, List.map_toArray, List.map_cons, List.map_nil, hs, hxo, hr]
  exact hK _ _ (h v' w' h2 h3 h4)
end Go.Proofs.YtinakendlpomnaaGreat
/- A slice that is cut at its head, and appended to: many elements at once. -/
namespace Go.Proofs.YtinakendlpomnaaGreat
open Go Go.RowKit
set_option maxHeartbeats 2000000
/-- cells stored in a block, one behind the other -/
theorem setCells_block (b : Nat) (T : TypeId) : ∀ (vs : List Value) (k : Nat) (w : World) (cur : Array Value), w.heap[b]? = some (.cells cur T (0, 0)) → k + vs.length ≤ cur.size →
    ∃ cur', (w.setCells b k vs).heap[b]? = some (.cells cur' T (0, 0)) ∧ cur'.size = cur.size ∧ (∀ j, j < k → cur'[j]? = cur[j]?) ∧ ∀ (j : Nat) (u : Value), vs[j]? = some u → cur'[k + j]? = some u
  | [], k, w, cur, h, _ => ⟨cur, h, rfl, fun _ _ => rfl, fun j u hu => by simp at hu⟩
  | x :: vs, k, w, cur, h, hk => by
    rw [List.length_cons] at hk
    have h1 := Go.Lib.heap_setCell_same (i := k) h x
    obtain ⟨cur', c1, c2, c3, c4⟩ := setCells_block b T vs (k + 1) _ _ h1 (by rw [Array.size_setIfInBounds]; omega)
    refine ⟨cur', c1, by rw [c2, Array.size_setIfInBounds], fun j hj => ?_, fun j u hu => ?_⟩
    · rw [c3 j (by omega), Array.getElem?_setIfInBounds_ne (by omega)]
    · cases j with
      | zero =>
        obtain rfl : x = u := by simpa using hu
        rw [Nat.add_zero, c3 k (by omega), Array.getElem?_setIfInBounds_self_of_lt (by omega)]
      | succ j =>
        have := c4 j u (by simpa using hu)
        rw [show k + (j + 1) = k + 1 + j by omega]
        exact this
theorem setCells_turn (b : Nat) : ∀ (vs : List Value) (k : Nat) (w : World), Turn [b] w (w.setCells b k vs)
  | [], _, _ => Turn.refl _ _
  | x :: vs, k, w => ((Turn.refl [b] w).setCell (a := ⟨b, k, none⟩) (.inl (by simp)) x).trans (setCells_turn b vs (k + 1) _)
theorem run_append_fifos {P : Program} {ST T : TypeId} {bytes : Nat} (E : ElemT P ST T 1 bytes) {w : World} (ty : TypeId) {base : Nat} {v u : Value} {l : List Value} {L : List (List Value)} (hv : FifoP w base T v l) (hbase : base ≤ w.heap.size) (hu : RowsP w u 1 L)
    (h63 : l.length + L.length ≤ maxLen) (hbytes : (l.length + L.length) * bytes ≤ 140737488355328) :
    ∃ v' w', (Builtin.append_ #[ST, ST] ty #[v, u]).run P w = .ok v' w' ∧ FifoP w' base T v' (l ++ L.flatten) ∧ Turn v.ownBlock.toList w w' ∧ (v'.ownBlock = v.ownBlock ∨ v'.ownBlock = some w.heap.size) := by
  obtain ⟨z, hinfo, hz⟩ := E.info
  obtain ⟨i0, hi, hz0, hz1, hz2⟩ := info_parts hinfo
  have hfl : L.flatten.length = L.length := flat1 hu.1
  have hs : Src P i0.size ST u L.length L.flatten w := by
    rcases hu.2 with ⟨rfl | ⟨a, c, rfl, hc⟩, rfl⟩ | ⟨b, off, c, rfl, h4, h5, h6⟩
    · exact Src.ofNil w E.under 0
    · exact Src.ofSlice w E.under a 0 c [] (by simp) (fun j u hj => by simp at hj) (fun u hu => by simp at hu)
    · exact Src.ofSlice w E.under ⟨b, off, none⟩ L.length c L.flatten (by rw [hz1, Nat.mul_one, hfl]) (fun j y hj => by rw [Go.WideShapes.add_plain]; exact h6 j y hj) (flat_one hu.1)
  have hone : ∀ u ∈ l ++ L.flatten, u.oneCell' = true := fun x hx => by
    rcases List.mem_append.1 hx with hx | hx
    · exact hv.1 x hx
    · exact flat_one hu.1 x hx
  have hlen : (l ++ L.flatten).length = l.length + L.length := by rw [List.length_append, hfl]
  have grow : ∀ (q : Option Addr) (c : Nat), v = .slice q l.length c → c < l.length + L.length → (Builtin.firstCells i0.size l.length (.slice q l.length c)).run P w.drew = .ok l.toArray w.drew →
      ∃ v' w', (Builtin.append_ #[ST, ST] ty #[v, u]).run P w = .ok v' w' ∧ FifoP w' base T v' (l ++ L.flatten) ∧ Turn v.ownBlock.toList w w' ∧ (v'.ownBlock = v.ownBlock ∨ v'.ownBlock = some w.heap.size) := by
    rintro q c rfl hc hold
    have hrun := run_append_grow_src (P := P) w ST ST ty T i0 z E.under hi hz0 q l.length c l hold _ L.length L.flatten hs hc (by unfold maxLen at h63; omega) (growslice_fits hc (by rw [hz2]; exact hbytes))
    refine ⟨_, _, hrun, ⟨hone, .inr ⟨w.heap.size, 0, _, _, by rw [hlen], hbase, heap_alloc_new w.drew _, ?_, grownCap_le_maxLen w (l.length + L.length) c T h63, ?_, fun j x hj => ?_⟩⟩, (Turn.of_ext ((Ext.drew w).trans (Ext.alloc w.drew _))), .inr rfl⟩
    · rw [hlen]; exact grownCap_ge w (l.length + L.length) c T
    · rw [Nat.zero_add, Array.size_append, List.size_toArray, hlen, size_zeroCells, hz]
      have := grownCap_ge w (l.length + L.length) c T
      omega
    · have hjl : j < (l ++ L.flatten).length := (List.getElem?_eq_some_iff.1 hj).1
      rw [Nat.zero_add, Array.getElem?_append_left (by simpa using hjl), List.getElem?_toArray]
      exact hj
  rcases hv.2 with ⟨rfl, rfl⟩ | ⟨b, off, cap, cur, rfl, h0, h2, h3, h4, h5, h6⟩
  · by_cases hL : L.length = 0
    · have hLn : L = [] := List.eq_nil_of_length_eq_zero hL
      subst hLn
      have hown : World.ownsRow w base T 1 (.slice none 0 0) 0 [] := World.ownsRow_nil w base T 1
      have hr := run_append_owned_none (P := P) w base ST ty T i0 1 E.under hi (.slice none 0 0) 0 [] hown
      rcases hu.2 with ⟨rfl | ⟨a, c, rfl, hc⟩, -⟩ | ⟨b, off, c, rfl, _⟩
      · exact ⟨_, w, hr, by simpa using FifoP.nil w base T, Turn.refl _ _, .inl rfl⟩
      · obtain ⟨v', w', hr, ho, hg, hn, hb⟩ := run_append_own_at (P := P) w base ST ty T i0 z 1 bytes E.under hi hz0 hz1 hz2 hz (by decide) (.slice none 0 0) 0 [] hown a 0 c ([] : List Value) (by simp)
          (fun j y hj => by simp at hj) (fun u hu => by simp at hu) (by simp) (by simp) hbase
        have e := hn.2 ⟨rfl, rfl⟩
        subst e
        refine ⟨_, w', hr, by simpa using FifoP.nil w' base T, ⟨hg.os, hg.tape, hg.output, hg.size, fun i hi _ => hg.block i hi (by simp [Value.ownBlock])⟩, .inl rfl⟩
      · obtain ⟨v', w', hr, ho, hg, hn, hb⟩ := run_append_own_at (P := P) w base ST ty T i0 z 1 bytes E.under hi hz0 hz1 hz2 hz (by decide) (.slice none 0 0) 0 [] hown ⟨b, off, none⟩ 0 c ([] : List Value) (by simp)
          (fun j y hj => by simp at hj) (fun u hu => by simp at hu) (by simp) (by simp) hbase
        have e := hn.2 ⟨rfl, rfl⟩
        subst e
        refine ⟨_, w', hr, by simpa using FifoP.nil w' base T, ⟨hg.os, hg.tape, hg.output, hg.size, fun i hi _ => hg.block i hi (by simp [Value.ownBlock])⟩, .inl rfl⟩
    · exact grow none 0 rfl (by simp; omega) (run_firstCells_none w.drew _ _ _ _)
  · by_cases hroom : l.length + L.length ≤ cap
    · have hcell : ∀ j, j < L.flatten.length → (w.cell? ⟨b, off + l.length * i0.size + j, none⟩).isSome = true := fun j hj => by
        rw [hfl] at hj
        have : off + l.length * i0.size + j < cur.size := by rw [hz1]; omega
        simp [World.cell?, h2, this]
      have hfz : ∀ j, j < L.flatten.length → w.frozen? ⟨b, off + l.length * i0.size + j, none⟩ = false := fun j hj => by simp [World.frozen?, h2]
      have hrun := run_append_room_src (P := P) w ST ST ty T i0 E.under hi b off l.length cap _ L.length L.flatten hs hroom hcell hfz
      rw [hz1, Nat.mul_one] at hrun
      obtain ⟨cur', c1, c2, c3, c4⟩ := setCells_block b T L.flatten (off + l.length) w cur h2 (by rw [hfl]; omega)
      refine ⟨_, _, hrun, ⟨hone, .inr ⟨b, off, cap, cur', by rw [hlen], h0, c1, by rw [hlen]; exact hroom, h4, by omega, fun j x hj => ?_⟩⟩, (setCells_turn b _ _ w).mono (by simp [Value.ownBlock]), .inl rfl⟩
      by_cases hjl : j < l.length
      · rw [List.getElem?_append_left hjl] at hj
        rw [c3 _ (by omega)]
        exact h6 j x hj
      · rw [List.getElem?_append_right (by omega)] at hj
        have := c4 _ x hj
        rw [show off + l.length + (j - l.length) = off + j by omega] at this
        exact this
    · refine grow _ _ rfl (by omega) ?_
      refine run_firstCells_some (P := P) w.drew _ _ _ _ _ l (by rw [hz1, Nat.mul_one]) (fun j x hj => ?_)
      rw [Go.WideShapes.add_plain]
      have := h6 j x hj
      show w.cell? _ = _
      simpa [World.cell?, h2] using this
/-- append, at a plain region's list -/
theorem wpList_append_fifos {P : Program} {ST T : TypeId} {bytes : Nat} (E : ElemT P ST T 1 bytes) {w : World} {ops : Array Oper} {rest : List Oper} {o : Oper} {a : Act} {Q : Exit → Act → World → Prop} (hgd : o.guard = none) (so xo : Operand)
    (ho : o.op = .call { callee := .builtin .append, args := #[so, xo], argTypes := #[ST, ST] })
    (base : Nat) (v u : Value) (l : List Value) (L : List (List Value)) (hs : a.eval so = v) (hv : FifoP w base T v l) (hbase : base ≤ w.heap.size) (hxo : a.eval xo = u) (hu : RowsP w u 1 L)
    (h63 : l.length + L.length ≤ maxLen) (hbytes : (l.length + L.length) * bytes ≤ 140737488355328)
    (h : ∀ v' w', FifoP w' base T v' (l ++ L.flatten) → Turn v.ownBlock.toList w w' → (v'.ownBlock = v.ownBlock ∨ v'.ownBlock = some w.heap.size) → wpList P ops Q rest (a.put o.dst v') w') :
    wpList P ops Q (o :: rest) a w := by
  obtain ⟨v', w', hr, h2, h3, h4⟩ := run_append_fifos E o.type hv hbase hu h63 hbytes
  refine wpList_plain hgd fun K hK => ?_
  unfold Oper.wp execOp
  simp only [ho, resolve, invoke, builtin, Sem.run_bind, Sem.run_pure, Result.andThen_ok, List.map_toArray, List.map_cons, List.map_nil, hs, hxo, hr]
  exact hK _ _ (h v' w' h2 h3 h4)
end Go.Proofs.YtinakendlpomnaaGreat
/- Maps of the call's own from ints to whatever values: what is looked up is what was stored, to the value. -/
namespace Go.Proofs.YtinakendlpomnaaGreat
open Go.RowKit Go.Maps
def heldU : Value → Option (DataW Value × List MemPlace) := fun v => some (.held v, [])
def UMap (w : World) (b n : Nat) (f : Int → Option Value) : Prop := ∃ D : DataW Value, IsMap D ∧ w.ownsMap Tryz.prog 51 heldU b n D ∧ ∀ k : Int, D.atKey (.int .u64 k) .nil = match f k with | some v => .held v | none => .nil
theorem umap_law : Keyed Tryz.prog 51 := int_keyed Tryz.underlying51
theorem umap_key {k : Int} (hw : (Lit.int .u64 k).wf = true) : keyOf Tryz.prog 51 (.int .u64 k) = some (.int .u64 k) := keyOf_int_mk Tryz.underlying51 hw
theorem UMap.made (w : World) : UMap (w.alloc (.map #[] 0)) w.heap.size 0 (fun _ => none) := ⟨.map [], ⟨_, rfl⟩, World.ownsMap_made _ _ _ _, fun _ => rfl⟩
theorem UMap.lt {w : World} {b n : Nat} {f : Int → Option Value} (h : UMap w b n f) : b < w.heap.size := by
  obtain ⟨D, _, h, _⟩ := h; exact h.lt
theorem UMap.stays {w w' : World} {b n : Nat} {f : Int → Option Value} (h : UMap w b n f) (hb : w'.heap[b]? = w.heap[b]?) : UMap w' b n f := by
  obtain ⟨D, hD, ⟨es, clock, h0, h1, h2, h3⟩, hf⟩ := h
  exact ⟨D, hD, ⟨es, clock, hb.trans h0, h1, h2, h3⟩, hf⟩
theorem UMap.ext {w w' : World} {b n : Nat} {f : Int → Option Value} (h : UMap w b n f) (e : Ext w w') : UMap w' b n f := h.stays (Below.block e b h.lt)
theorem UMap.turn {w w' : World} {b n : Nat} {f : Int → Option Value} {bs : List Nat} (h : UMap w b n f) (t : Turn bs w w') (hb : b ∉ bs) : UMap w' b n f := h.stays (t.block b h.lt hb)
theorem UMap.look {w : World} {b n : Nat} {f : Int → Option Value} (h : UMap w b n f) {T E : TypeId} (ht : Tryz.prog.underlying T = some (.map 51 E)) {z : Value} (hz : (zeroValue E).run Tryz.prog w = .ok z w) (c : Bool) {k : Int} (hw : (Lit.int .u64 k).wf = true) :
    (Instr.lookup T (.map (some b)) (.int .u64 k) c).run Tryz.prog w = .ok (if c then .tuple #[(f k).getD z, .bool (f k).isSome] else (f k).getD z) w := by
  obtain ⟨D, _, ⟨es, clock, hb, F, hs, rfl⟩, hf⟩ := h
  have hfk := hf k
  rcases Maps.fit_look c umap_law ht hz hb F (umap_key hw) with ⟨hr, _, hat⟩ | ⟨e0, y, _, _, hr, hR, hat, _⟩
  · rw [hat .nil] at hfk
    cases hk : f k with
    | none => rw [hr]; rfl
    | some v => rw [hk] at hfk; cases hfk
  · obtain rfl : y = (.held e0.val, []) := (Option.some.inj hR).symm
    rw [hat .nil] at hfk
    cases hk : f k with
    | none => rw [hk] at hfk; cases hfk
    | some v =>
      rw [hk] at hfk
      obtain rfl : e0.val = v := DataW.held.inj hfk
      rw [hr]; rfl
def ufput (f : Int → Option Value) (k : Int) (v : Value) : Int → Option Value := fun x => if x = k then some v else f x
theorem ufput_same (f : Int → Option Value) (k : Int) (v : Value) : ufput f k v k = some v := if_pos rfl
theorem ufput_other {f : Int → Option Value} {k x : Int} {v : Value} (h : x ≠ k) : ufput f k v x = f x := if_neg h
/-- m[k] = v, at a plain region's list -/
theorem wpList_put_umap {w : World} {ops : Array Oper} {rest : List Oper} {o : Oper} {a : Act} {Q : Exit → Act → World → Prop} (hg : o.guard = none) (m x v : Operand) {T E : TypeId} (hop : o.op = Op.mapUpdate T m x v) (ht : Tryz.prog.underlying T = some (.map 51 E))
    (b n : Nat) (f : Int → Option Value) (hm : a.eval m = .map (some b)) (hown : UMap w b n f) (hn : n < maxLen) (k : Int) (val : Value) (hx : a.eval x = .int .u64 k) (hv : a.eval v = val) (hw : (Lit.int .u64 k).wf = true)
    (hK : ∀ w', UMap w' b (n + 1) (ufput f k val) → w.grownBy w' (some b) → wpList Tryz.prog ops Q rest (a.put o.dst undef) w') : wpList Tryz.prog ops Q (o :: rest) a w := by
  obtain ⟨D, hD, ho, hf⟩ := hown
  refine wpList_mapUpdate_own w hg m x v T hop 51 E umap_law ht heldU b n D hm ho hn _ val (.int .u64 k) hx hv (umap_key hw) (.held val) [] rfl (fun w' h1 h2 => hK w' ⟨_, ?_, h1, fun k' => ?_⟩ h2)
  · obtain ⟨es, rfl⟩ := hD; exact ⟨_, rfl⟩
  · by_cases h : k' = k
    · subst h
      rw [ufput_same, atKey_put_same hD (show WideAt.IsKeyLit (.int .u64 _) from trivial)]
    · rw [ufput_other h, atKey_put_other (by intro e; exact h (by injection e))]
      exact hf k'
end Go.Proofs.YtinakendlpomnaaGreat
/- slices.Clone at words. -/
namespace Go.Proofs.YtinakendlpomnaaGreat
open Go.RowKit Go.Maps Arena
set_option maxHeartbeats 4000000
set_option maxRecDepth 100000
theorem own_empty2 (W : World) (T : TypeId) : OwnP (W.alloc (.cells #[] T)) W.heap.size T (.slice (some ⟨W.heap.size, 0, none⟩) 0 0) 1 [] :=
  OwnP.of_form (l := []) (cap := 0) (cur := #[]) (Rows1.nil 1) (Nat.le_refl _) (heap_alloc_new _ _) (Nat.le_refl _) (Nat.zero_le _) rfl rfl
theorem clone_w {w : World} {v : Value} {F : List (List Value)} (h : RowsP w v 1 F) (hl : F.length ≤ 1000000) : Calls Tryz.prog 28 #[v] w fun e w' => ∃ v', e = .returned v' ∧ OwnP w' w.heap.size 51 v' 1 F ∧ Ext w w' := by
  obtain ⟨z, hinfo, hz⟩ := E64.info
  obtain ⟨i0, hi, hz0, hz1, hz2⟩ := info_parts hinfo
  have h0 := h
  obtain ⟨h1, h2⟩ := h
  rcases h2 with ⟨rfl | ⟨a, c, rfl, hc⟩, rfl⟩ | ⟨b, off, c, rfl, h4, h5, h6⟩
  · exact (AnyE.slices_Clone_nil Tryz.cloneA 0 0 w).mono fun e w' ⟨he, hw⟩ => ⟨_, he, OwnP.nil _ _ _ _, by rw [hw]; exact Ext.refl _⟩
  · have hen : ∀ W, (binOp .eql 22 (.slice (some a) 0 c) (.slice none 0 0)).run Tryz.prog W = .ok (.bool false) W := fun W => by rw [Lib.run_eql_slice_nil W 22 51 (some a) 0 c 0 0 Tryz.underlying22]; rfl
    have HV := Lib.hid h0
    clear h0 h1 hi hz0 hz1 hz2 hinfo hz
    go_enter Tryz.func28, Tryz.ntmps28
    go_wp2_with (refine wpList_append_rows E64 (by rfl) _ _ (by rfl) w.heap.size (.slice (some ⟨w.heap.size, 0, none⟩) 0 0) (.slice (some a) 0 c) [] [] (by rfl) (own_empty2 w _) (by rfl) (RowsP.ext HV.out (Ext.alloc _ _)) (by simp) (by simp) (by simp) ?_)
    intro v2 w2 ho2 hg2 hb2 _
    have hx2 : Ext w w2 := Below.grown (Below.alloc (Ext.refl w) (by omega) _) hg2 (by simp) (fun b hb => by simp [Value.ownBlock] at hb; omega)
    have HO2 := Lib.hid ho2
    have HX2 := Lib.hid hx2
    clear ho2 hg2 hb2 hx2
    go_wp2
    go_ret
    exact ⟨v2, rfl, HO2.out, HX2.out⟩
  · exact (AnyE.slices_Clone Tryz.cloneA i0 z 1 8 hi hz0 hz1 hz2 hz (by decide) (fun W => by kernel_rfl) b off F.length c F.flatten w (flat_len h1) (by unfold maxLen; omega) (by omega) h6 (flat_one h1)).mono
      fun e w' ⟨v', he, ho, _, hb⟩ => ⟨v', he, ⟨h1, ho⟩, hb⟩
/-- a row of the call's own is one that may be cut at its head -/
theorem FifoP.of_own {w : World} {base : Nat} {T : TypeId} {v : Value} {L : List (List Value)} (h : OwnP w base T v 1 L) : FifoP w base T v L.flatten := by
  have hfl : L.flatten.length = L.length := flat1 h.1
  refine ⟨flat_one h.1, ?_⟩
  rcases h.forms with ⟨rfl, rfl⟩ | ⟨g, cap, cur, rfl, hb, hg, h2, h3, h4, h5⟩
  · exact .inl ⟨rfl, rfl⟩
  · refine .inr ⟨g, 0, cap, cur, by rw [hfl], hb, hg, by omega, h3, by omega, fun j u hu => ?_⟩
    rw [Nat.zero_add, ← Array.getElem?_toList]
    rw [Nat.mul_one] at h5
    rw [← h5] at hu
    have hj : j < L.length := by have := (List.getElem?_eq_some_iff.1 hu).1; rw [List.length_take] at this; omega
    rw [List.getElem?_take_of_lt hj] at hu
    exact hu
end Go.Proofs.YtinakendlpomnaaGreat
/- gc.Live. -/
namespace Go.Proofs.YtinakendlpomnaaGreat
open Go.RowKit Go.Maps Arena
set_option maxHeartbeats 8000000
set_option maxRecDepth 100000
def liveN (ws : List Int) (R : List (Nat × Nat)) (h : Hp) (roots : List Int) : Nat := match mayH ws R h roots with | none => 0 | some Hs => sizeF (liveF (firstN h) Hs roots)
def lenV : Value → Nat | .slice _ n _ => n | _ => 0
/-- the words that were met -/
def MetF (o0 : Nat) (Hs F : List (Nat × Ob)) (fm : Int → Option Value) : Prop := ∀ y ∈ Hs, fm ((2 * (o0 + y.1) : Nat) : Int) = if inF F y.1 then some (.bool true) else none
theorem MetF.put {o0 H : Nat} {Hs F : List (Nat × Ob)} {fm : Int → Option Value} (h : MetF o0 Hs F fm) (_hH : HsOK H Hs) {y : Nat × Ob} (_hy : y ∈ Hs) : MetF o0 Hs (F ++ [y]) (ufput fm ((2 * (o0 + y.1) : Nat) : Int) (.bool true)) := by
  intro z hz
  rw [inF_app]
  by_cases e : z.1 = y.1
  · rw [e, ufput_same]
    have : inF [y] y.1 = true := inF_true.2 ⟨y, by simp, rfl⟩
    rw [this, Bool.or_true, if_pos rfl]
  · rw [ufput_other (by omega), h z hz]
    have : inF [y] z.1 = false := by unfold inF; simp; omega
    rw [this, Bool.or_false]
theorem flat_words (l : List Int) : (l.map wordC).flatten = l.map (Value.int .u64) := by
  induction l with
  | nil => rfl
  | cons a l ih => simp only [List.map_cons, List.flatten_cons, ih]; rfl
theorem live_no {w : World} {p g bm n : Nat} {ws : List Int} {R : List (Nat × Nat)} (H : ArenaAt w p g bm n ws R) (h : Hp) (hw : (Lit.int .i64 h.base).wf = true) (hW : ∀ x ∈ ws, W64 x) {q : Option Addr} {c : Nat} {roots : List Int} (hr : RowsP w (.slice q roots.length c) 1 (roots.map wordC)) (hr64 : ∀ x ∈ roots, W64 x) (hrl : roots.length ≤ 100000) (hm : mayH ws R h roots = none) :
    Calls Tryz.prog 8 #[.pointer (some ⟨p, 0, none⟩), .agg #[.int .i64 h.base, .int .i64 h.half, .int .i64 h.space, .int .i64 h.top], .slice q roots.length c] w fun e w' => e = .returned (.tuple #[.int .i64 0, .bool false]) ∧ Ext w w' := by
  have HM := Lib.hid (fun W (e : Ext w W) => gcmay_is (H.ext e) h hw hW (hr.ext e) hr64 hrl)
  rw [hm] at HM
  rw [Option.isSome_none] at HM
  clear H hw hW hr hr64 hm
  go_enter Tryz.func8, Tryz.ntmps8
  go_wp2_with fail
  refine at_alloc1 fun W hE hS b0 => ?_
  refine (HM.out W hE).mono ?_
  rintro e w1 ⟨rfl, hx1⟩
  have HX := Lib.hid (hE.trans hx1)
  clear hx1 hE hS b0
  go_wp2_with fail
  go_ret2
  exact ⟨rfl, HX.out⟩
theorem live_yes {w : World} {p g bm n : Nat} {ws : List Int} {R : List (Nat × Nat)} (H : ArenaAt w p g bm n ws R) (h : Hp) (hw : (Lit.int .i64 h.base).wf = true) (hW : ∀ x ∈ ws, W64 x) {q : Option Addr} {c : Nat} {roots : List Int} (hr : RowsP w (.slice q roots.length c) 1 (roots.map wordC)) (hr64 : ∀ x ∈ roots, W64 x) (hrl : roots.length ≤ 100000) {Hs : List (Nat × Ob)} (hm : mayH ws R h roots = some Hs) :
    Calls Tryz.prog 8 #[.pointer (some ⟨p, 0, none⟩), .agg #[.int .i64 h.base, .int .i64 h.half, .int .i64 h.space, .int .i64 h.top], .slice q roots.length c] w fun e w' => e = .returned (.tuple #[.int .i64 (sizeF (liveF (firstN h) Hs roots) : Nat), .bool true]) ∧ Ext w w' := by
  have HM := Lib.hid (fun W (e : Ext w W) => gcmay_is (H.ext e) h hw hW (hr.ext e) hr64 hrl)
  rw [hm] at HM
  rw [Option.isSome_some] at HM
  obtain ⟨ha, hok⟩ := mayH_some hm
  obtain ⟨ht, _⟩ := allH_there ha
  obtain ⟨ba, Hh, sp, N⟩ := hpN_of H.good ht
  have gc := gc_of H.good H.len hW ha N roots
  have hq0 := queue_start (firstN h) Hs hok
  have hGET := Lib.hid (fun W (e : Ext w W) (x : Int) (hx : W64 x) => get_is (H.ext e) h hw hW hx)
  have hgetH : ∀ x, getH ws R h x = getL (firstN h) Hs x := fun x => by unfold getH; rw [ha]; rfl
  have hCL := Lib.hid (fun W (e : Ext w W) => clone_w (hr.ext e) (by rw [List.length_map]; omega))
  have hHb : Hh ≤ 2000 := N.hi
  have hsm := N.small
  generalize hFd : liveF (firstN h) Hs roots = Fin at gc hq0 ⊢
  generalize firstN h = o0 at gc hq0 hgetH hsm
  have HGH := Lib.hid hgetH
  have HG := Lib.hid gc; have HQ := Lib.hid hq0; have HR64 := Lib.hid hr64
  have hHsl : Hs.length ≤ 2000 := by
    have h1 := sizeF_ge Hs
    have h2 := gc.hs.size
    omega
  obtain ⟨lp, lg, lm⟩ := H.lt
  have ho0 : o0 ≤ 4000 := by omega
  clear H hw hW hr hr64 hm ha hok ht N gc hq0 hFd hgetH hsm
  go_enter Tryz.func8, Tryz.ntmps8
  go_wp2_with fail
  refine at_alloc1 fun W hE hS b0 => ?_
  refine (HM.out W hE).mono ?_
  rintro e w1 ⟨rfl, hx1⟩
  have HX1 := Lib.hid (hE.trans hx1)
  have c0 := (Below.block hx1 w.heap.size (by omega)).trans b0
  have hl1 : w.heap.size < w1.heap.size := (Array.getElem?_eq_some_iff.1 c0).1
  clear hx1 hE hS b0 HM
  have hmm := @run_makeMap Tryz.prog
  go_upto_region 4 with fail
  clear hmm
  refine wp_gen (fun W => UMap W w1.heap.size 0 (fun _ => none) ∧ Ext w1 W ∧ W.heap.size = w1.heap.size + 1) ⟨UMap.made w1, Ext.alloc _ _, by simp⟩ fun WA hF => ?_
  obtain ⟨hmp, hA, hszA⟩ := hF
  have HMP := Lib.hid hmp
  have HXA := Lib.hid (HX1.out.trans hA)
  have HD0 := Lib.hid ((Below.block hA w.heap.size hl1).trans c0)
  clear hA c0 hmp
  go_wp2_with fail
  refine (hCL.out _ HXA.out).mono ?_
  rintro e w2 ⟨v2, rfl, ho2, hx2⟩
  have FI := Lib.hid (FifoP.of_own ho2)
  have HX2 := Lib.hid (HXA.out.trans hx2)
  have HMP2 := Lib.hid (HMP.out.ext hx2)
  have HE0 := Lib.hid ((Below.block hx2 w.heap.size (by omega)).trans HD0.out)
  have hB : w.heap.size < w1.heap.size ∧ w1.heap.size < WA.heap.size ∧ WA.heap.size ≤ w2.heap.size := by have := Below.size hx2; omega
  obtain ⟨hB1, hB2, hB3⟩ := hB
  clear ho2 hx2 HMP HXA HD0 hszA hl1 HX1
  generalize w1.heap.size = mb at *
  generalize WA.heap.size = B at *
  rw [flat_words] at FI
  have hbn : w.heap.size ≤ mb ∧ w.heap.size < mb := by omega
  have hzb : ∀ W, (zeroValue 4).run Tryz.prog W = .ok (.bool false) W := fun W => by kernel_rfl
  go_wp2_with fail
  go_loopw [9, 10] (fun rv nv wr => ∃ (F : List (Nat × Ob)) (row : List Int) (fm : Int → Option Value), FifoP wr B 51 rv (row.map (Value.int .u64)) ∧ nv = .int .i64 (sizeF F : Nat) ∧ UMap wr mb F.length fm ∧ MetF o0 Hs F fm ∧ FinF Hs F ∧ Queue o0 Hs Fin F row ∧ row.length ≤ roots.length + 400 * F.length ∧ (∀ x ∈ row, W64 x) ∧ Ext w wr ∧ wr.heap[w.heap.size]? = some (.cells #[.int .i64 h.base, .int .i64 h.half, .int .i64 h.space, .int .i64 h.top] 24 (0, 0)) ∧ B ≤ wr.heap.size) (fun rv nv _ => (4000 - (Go.RowKit.intOf nv).toNat) * 500 + lenV rv)
  case atStart => exact ⟨[], roots, fun _ => none, FI.out, rfl, HMP2.out, fun y hy => rfl, FinF.nil Hs, HQ.out, by simp, HR64.out, HX2.out, HE0.out, hB3⟩
  case round =>
    obtain ⟨F, row, fm, hfi, rfl, hum, hmet, hfin, hqu, hrl2, hr2, hx, hbx, hBr⟩ := hrel
    have hFl := hfin.size.2
    have hFs := hfin.size.1
    have hHsz := HG.out.hs.size
    cases row with
    | nil =>
      have hF := queue_end hqu hFl
      subst hF
      obtain ⟨qv, cv, rfl, _, _⟩ := hfi.len
      have HX := Lib.hid hx
      clear hfi hum hmet hfin hqu hrl2 hr2 hx hbx
      go_wp2_with fail
      go_ret2
      exact ⟨rfl, HX.out⟩
    | cons x row =>
      obtain ⟨qv, cv, rfl, hcv1, hcv2⟩ := hfi.len
      rw [List.map_cons] at hfi
      obtain ⟨bb, off, rfl, -, hc0, hta⟩ := FifoP.head hfi
      rw [List.length_map] at hta hcv1 ⊢
      rw [List.length_cons] at hcv1 hrl2 ⊢
      have hsl := fun W => run_fifo_tail (P := Tryz.prog) E64 W bb off (row.length + 1) cv (by omega) hcv1
      rw [Nat.add_sub_cancel] at hsl
      generalize hqx : (if cv = 1 then some (⟨bb, off, none⟩ : Addr) else some ⟨bb, off + 1, none⟩) = qx at hta hsl
      have hx64 := hr2 x (.head _)
      have hxok : fieldOK (Hs.map (·.1)) o0 x = true := by
        obtain ⟨_, _, _, _, _, h4⟩ := hqu
        exact h4 x (.head _)
      have HIS := Lib.hid (fun W => isInt_is hx64 W)
      have TA := Lib.hid hta; have UM := Lib.hid hum; have MT := Lib.hid hmet; have FN := Lib.hid hfin; have QU := Lib.hid hqu; have RL := Lib.hid hrl2; have R2 := Lib.hid (fun z hz => hr2 z (List.mem_cons_of_mem x hz)); have HX := Lib.hid hx; have BX := Lib.hid hbx; have FL := Lib.hid hFl; have FS := Lib.hid (show sizeF F ≤ 2000 by omega); have X64 := Lib.hid hx64
      clear hqx hfi hta hum hmet hfin hqu hrl2 hr2 hx hbx hFl hFs hHsz
      rcases ok_cases hxok hx64 with hi | ⟨y, hy⟩
      · rw [hi] at HIS
        have hsk := queue_skip QU.out FL.out (addF_int hi)
        have SK := Lib.hid hsk
        clear hi hxok hx64 hsk
        go_wp2_with fail
        refine (HIS.out _).mono ?_
        rintro e w3 ⟨rfl, rfl⟩
        go_wp2_with fail
        exact ⟨⟨F, row, fm, TA.out, rfl, UM.out, MT.out, FN.out, SK.out, by have := RL.out; omega, R2.out, HX.out, BX.out, hBr⟩, by simp [Go.RowKit.intOf, lenV]⟩
      · obtain ⟨hyH, hy1, hy2, hy3⟩ := getL_some hy
        rw [hy2] at HIS
        have hxe : x = ((2 * (o0 + y.1) : Nat) : Int) := by
          have : ¬ x % 2 = 1 := by unfold isIntW at hy2; exact of_decide_eq_false hy2
          omega
        have hfm := MT.out y hyH
        rw [← hxe] at hfm
        have hkw : (Lit.int .u64 x).wf = true := WalkArith.wf_u64 (by have := hx64.1; have := hx64.2; omega)
        have hlk := UM.out.look Tryz.underlying67 (hzb wr) false hkw
        rw [hfm] at hlk
        have HY := Lib.hid hy; have HYH := Lib.hid hyH; have HXE := Lib.hid hxe; have HKW := Lib.hid hkw
        clear hxe hfm hyH hy1 hy2 hy3 hkw
        cases hb : inF F y.1 with
        | true =>
          rw [hb] at hlk
          have hsk := queue_skip QU.out FL.out (addF_seen hy hb)
          have SK := Lib.hid hsk
          clear hxok hx64 hsk hy hb
          have hlk' : (Instr.lookup 67 (.map (some mb)) (.int .u64 x) false).run Tryz.prog wr = .ok (.bool true) wr := hlk
          clear hlk
          go_wp2_with fail
          refine (HIS.out _).mono ?_
          rintro e w3 ⟨rfl, rfl⟩
          go_wp2_with fail
          exact ⟨⟨F, row, fm, TA.out, rfl, UM.out, MT.out, FN.out, SK.out, by have := RL.out; omega, R2.out, HX.out, BX.out, hBr⟩, by simp [Go.RowKit.intOf, lenV]⟩
        | false =>
          rw [hb] at hlk
          have hmt := queue_meet QU.out FL.out (addF_new hy hb) (fun z hz => (HG.out.ok y HYH.out z hz).2)
          have hfin2 := FN.out.add (o0 := o0) x
          rw [addF_new hy hb] at hfin2
          have MQ := Lib.hid hmt; have FN2 := Lib.hid hfin2
          have MT2 := Lib.hid (MT.out.put HG.out.hs HYH.out)
          rw [← HXE.out] at MT2
          have hmy := HG.out.hs.may y HYH.out
          have hfl400 : y.2.fields.length ≤ 400 := by unfold mayO at hmy; exact (mayK_bounds hmy).2.2.2.2.1
          have HWD := Lib.hid (fun q c W => owords_is y.2 c q W (by omega))
          rw [if_pos hmy] at HWD
          have HGX := Lib.hid (fun W e => hGET.out W e x X64.out)
          rw [HGH.out x, HY.out] at HGX
          have hsz2 : sizeF F + wordsO y.2 ≤ 2000 := by
            have h1 := hfin2.size.1
            have h2 := HG.out.hs.size
            rw [sizeF_app] at h1
            simp only [sizeF] at h1
            omega
          have hwp := wordsO_pos y.2
          have hFl2 : F.length + 1 ≤ 2000 := by
            have h1 := hfin2.size.2
            rw [List.length_append, List.length_singleton] at h1
            omega
          have hlk' : (Instr.lookup 67 (.map (some mb)) (.int .u64 x) false).run Tryz.prog wr = .ok (.bool false) wr := hlk
          clear hxok hx64 hmt hfin2 hy hb hlk hmy
          go_wp2_with fail
          refine (HIS.out _).mono ?_
          rintro e w3 ⟨rfl, rfl⟩
          go_upto_region 11 with (refine wpList_put_umap (by rfl) _ _ _ (by rfl) Tryz.underlying67 mb F.length fm (by rfl) UM.out (by unfold maxLen; omega) x (.bool true) (by rfl) (by rfl) HKW.out ?_)
          intro w5 him5 hg5
          have t5 : Turn [mb] wr w5 := Turn.of_grown hg5 (fun b e => .inl (by rw [← Option.some.inj e]; simp))
          have TA5 := Lib.hid (TA.out.turn t5 (fun b hb hm => by have := (TA.out.own b hb).1; rw [List.mem_singleton.1 hm] at this; omega))
          have HX5 := Lib.hid (show Ext w w5 from grown_ext HX.out hg5 (by intro b e; obtain rfl := Option.some.inj e; omega) (by omega))
          have BX5 := Lib.hid ((t5.block w.heap.size (Array.getElem?_eq_some_iff.1 BX.out).1 (by simp; omega)).trans BX.out)
          have UM5 := Lib.hid him5
          have hB5 : B ≤ w5.heap.size := by have := t5.size; omega
          clear him5 hg5 t5 UM TA HX BX hlk' hc0 hBr hsl
          obtain ⟨z0, z1, z2, z3⟩ := cells4 BX5.out
          go_wp2_with fail
          refine (HGX.out _ HX5.out).mono ?_
          rintro e w6 ⟨v, rfl, hx6, -, hv⟩
          obtain ⟨qg, cg, rfl, hog⟩ := hv y rfl
          have TA6 := Lib.hid (TA5.out.ext hx6)
          have HX6 := Lib.hid (HX5.out.trans hx6)
          have UM6 := Lib.hid (UM5.out.ext hx6)
          have BX6 := Lib.hid ((Below.block hx6 w.heap.size (Array.getElem?_eq_some_iff.1 BX5.out).1).trans BX5.out)
          have OG6 := Lib.hid hog.p
          have hB6 : B ≤ w6.heap.size := by have := Below.size hx6; omega
          clear hx6 hv hog z0 z1 z2 z3 TA5 HX5 UM5 BX5 hB5
          go_upto_region 12 with fail
          refine wp_alloc1 fun W7 hE7 hS7 b7 => ?_
          have TA7 := Lib.hid (TA6.out.ext hE7)
          have HX7 := Lib.hid (HX6.out.trans hE7)
          have UM7 := Lib.hid (UM6.out.ext hE7)
          have BX7 := Lib.hid ((Below.block hE7 w.heap.size (Array.getElem?_eq_some_iff.1 BX6.out).1).trans BX6.out)
          have OG7 := Lib.hid (OG6.out.ext hE7)
          have B7 := Lib.hid b7
          have hB7 : B ≤ W7.heap.size := by omega
          clear hE7 hS7 TA6 HX6 UM6 BX6 OG6
          generalize w6.heap.size = bo at *
          obtain ⟨z0, z1, z2, z3⟩ := cells4 B7.out
          clear b7
          go_wp2_with fail
          refine (HWD.out qg cg _).mono ?_
          rintro e w8 ⟨rfl, hx8⟩
          have TA8 := Lib.hid (TA7.out.ext hx8)
          have HX8 := Lib.hid (HX7.out.trans hx8)
          have UM8 := Lib.hid (UM7.out.ext hx8)
          have BX8 := Lib.hid ((Below.block hx8 w.heap.size (Array.getElem?_eq_some_iff.1 BX7.out).1).trans BX7.out)
          have OG8 := Lib.hid (OG7.out.ext hx8)
          have b8 := (Below.block hx8 bo (Array.getElem?_eq_some_iff.1 B7.out).1).trans B7.out
          have hB8 : B ≤ w8.heap.size := by have := Below.size hx8; omega
          clear hx8 TA7 HX7 UM7 BX7 OG7 B7 z0 z1 z2 z3 hB7 hB6
          obtain ⟨z0, z1, z2, z3⟩ := cells4 b8
          clear b8
          go_wp2_with (refine wpList_append_fifos E64 (by rfl) _ _ (by rfl) B (.slice qx row.length (cv - 1)) (.slice qg y.2.fields.length cg) (row.map (Value.int .u64)) (y.2.fields.map wordC) (by rfl) TA8.out (by omega) (by rfl) OG8.out (by simp; have := RL.out; unfold maxLen; omega) (by simp; have := RL.out; omega) ?_)
          intro v9 w9 hf9 ht9 hb9
          have hown : ∀ b ∈ (Value.slice qx row.length (cv - 1)).ownBlock.toList, B ≤ b := fun b hb => (TA8.out.own b (by simpa using hb)).1
          have FI9 := Lib.hid hf9
          have HX9 := Lib.hid (Turn.after HX8.out ht9 (fun b hb => by have := hown b hb; omega))
          have UM9 := Lib.hid (UM8.out.turn ht9 (fun hb => by have := hown mb hb; omega))
          have BX9 := Lib.hid ((ht9.block w.heap.size (Array.getElem?_eq_some_iff.1 BX8.out).1 (fun hb => by have := hown _ hb; omega)).trans BX8.out)
          have hB9 : B ≤ w9.heap.size := by have := ht9.size; omega
          clear hf9 ht9 hb9 hown TA8 HX8 UM8 BX8 OG8 z0 z1 z2 z3 hB8
          rw [flat_words, ← List.map_append] at FI9
          obtain ⟨qv9, cv9, rfl, hcv9, hcv9'⟩ := FI9.out.len
          rw [List.length_map, List.length_append] at FI9 hcv9 ⊢
          go_wp2_with fail
          refine ⟨⟨F ++ [y], row ++ y.2.fields, _, FI9.out, ?_, by rw [List.length_append]; exact UM9.out, MT2.out, FN2.out, MQ.out, ?_, ?_, HX9.out, BX9.out, hB9⟩, ?_⟩
          · rw [sizeF_app]
            simp [sizeF]
          · rw [List.length_append, List.length_append, List.length_singleton]
            have := RL.out
            omega
          · intro z hz
            rcases List.mem_append.1 hz with hz | hz
            · exact R2.out z hz
            · exact (HG.out.ok y HYH.out z hz).1
          · simp [Go.RowKit.intOf, lenV]
            omega
theorem live_is {w : World} {p g bm n : Nat} {ws : List Int} {R : List (Nat × Nat)} (H : ArenaAt w p g bm n ws R) (h : Hp) (hw : (Lit.int .i64 h.base).wf = true) (hW : ∀ x ∈ ws, W64 x) {q : Option Addr} {c : Nat} {roots : List Int} (hr : RowsP w (.slice q roots.length c) 1 (roots.map wordC)) (hr64 : ∀ x ∈ roots, W64 x) (hrl : roots.length ≤ 100000) :
    Calls Tryz.prog 8 #[.pointer (some ⟨p, 0, none⟩), .agg #[.int .i64 h.base, .int .i64 h.half, .int .i64 h.space, .int .i64 h.top], .slice q roots.length c] w fun e w' => e = .returned (.tuple #[.int .i64 (liveN ws R h roots : Nat), .bool (mayH ws R h roots).isSome]) ∧ Ext w w' := by
  unfold liveN
  cases hm : mayH ws R h roots with
  | none => exact live_no H h hw hW hr hr64 hrl hm
  | some Hs => exact live_yes H h hw hW hr hr64 hrl hm
end Go.Proofs.YtinakendlpomnaaGreat
/- gc.Room. -/
namespace Go.Proofs.YtinakendlpomnaaGreat
open Go.RowKit Go.Maps Arena
set_option maxHeartbeats 8000000
set_option maxRecDepth 100000
/-- what making room says -/
def RoomSaid (ws : List Int) (R : List (Nat × Nat)) (p g bm n : Nat) (h : Hp) (roots : List Int) (k : Int) (w : World) (e : Ending) (w' : World) : Prop :=
  match (if k < 0 then none else mayH ws R h roots) with
  | none => e = .returned (.tuple #[zeroHV, .slice none 0 0, .bool false]) ∧ Ext w w'
  | some Hs => if k ≤ h.half - h.top then ∃ q c, e = .returned (.tuple #[hpV h, .slice q roots.length c, .bool true]) ∧ OwnP w' w.heap.size 51 (.slice q roots.length c) 1 (roots.map wordC) ∧ Ext w w'
    else ∃ q c, e = .returned (.tuple #[hpV (collH h (liveF (firstN h) Hs roots)), .slice q roots.length c, .bool (decide (k ≤ h.half - (sizeF (liveF (firstN h) Hs roots) : Nat)))]) ∧ ArenaAt w' p g bm n (collWs ws h (liveF (firstN h) Hs roots)) R ∧
      OwnP w' w.heap.size 51 (.slice q roots.length c) 1 ((roots.map (newW (firstN h) (otherN h) (liveF (firstN h) Hs roots))).map wordC) ∧ Turn [g] w w'
theorem hp4 {w w' : World} (e : Ext w w') {b : Nat} {v0 v1 v2 v3 : Value} (h : w.cell? ⟨b, 0, none⟩ = some v0 ∧ w.cell? ⟨b, 1, none⟩ = some v1 ∧ w.cell? ⟨b, 2, none⟩ = some v2 ∧ w.cell? ⟨b, 3, none⟩ = some v3) : w'.cell? ⟨b, 0, none⟩ = some v0 ∧ w'.cell? ⟨b, 1, none⟩ = some v1 ∧ w'.cell? ⟨b, 2, none⟩ = some v2 ∧ w'.cell? ⟨b, 3, none⟩ = some v3 :=
  ⟨e.cell h.1, e.cell h.2.1, e.cell h.2.2.1, e.cell h.2.2.2⟩
theorem hp4s {w : World} {b d : Nat} {v0 v1 v2 v3 u0 u1 u2 u3 : Value} (h : w.cell? ⟨b, 0, none⟩ = some v0 ∧ w.cell? ⟨b, 1, none⟩ = some v1 ∧ w.cell? ⟨b, 2, none⟩ = some v2 ∧ w.cell? ⟨b, 3, none⟩ = some v3) (hb : b ≠ d) :
    ((((w.setCell ⟨d, 0, none⟩ u0).setCell ⟨d, 1, none⟩ u1).setCell ⟨d, 2, none⟩ u2).setCell ⟨d, 3, none⟩ u3).cell? ⟨b, 0, none⟩ = some v0 ∧ ((((w.setCell ⟨d, 0, none⟩ u0).setCell ⟨d, 1, none⟩ u1).setCell ⟨d, 2, none⟩ u2).setCell ⟨d, 3, none⟩ u3).cell? ⟨b, 1, none⟩ = some v1 ∧ ((((w.setCell ⟨d, 0, none⟩ u0).setCell ⟨d, 1, none⟩ u1).setCell ⟨d, 2, none⟩ u2).setCell ⟨d, 3, none⟩ u3).cell? ⟨b, 2, none⟩ = some v2 ∧ ((((w.setCell ⟨d, 0, none⟩ u0).setCell ⟨d, 1, none⟩ u1).setCell ⟨d, 2, none⟩ u2).setCell ⟨d, 3, none⟩ u3).cell? ⟨b, 3, none⟩ = some v3 := by
  have t : Turn [d] w ((((w.setCell ⟨d, 0, none⟩ u0).setCell ⟨d, 1, none⟩ u1).setCell ⟨d, 2, none⟩ u2).setCell ⟨d, 3, none⟩ u3) := ((((Turn.refl [d] w).setCell (.inl (by simp)) u0).setCell (.inl (by simp)) u1).setCell (.inl (by simp)) u2).setCell (.inl (by simp)) u3
  exact ⟨t.cell (by simpa using hb) h.1, t.cell (by simpa using hb) h.2.1, t.cell (by simpa using hb) h.2.2.1, t.cell (by simpa using hb) h.2.2.2⟩
theorem room_is {w : World} {p g bm n : Nat} {ws : List Int} {R : List (Nat × Nat)} (H : ArenaAt w p g bm n ws R) (h : Hp) (hw : (Lit.int .i64 h.base).wf = true) (hW : ∀ x ∈ ws, W64 x) {q : Option Addr} {c : Nat} {roots : List Int} (hr : RowStay w g (.slice q roots.length c) (roots.map wordC)) (hr64 : ∀ x ∈ roots, W64 x) (hrl : roots.length ≤ 100000) (k : Int) :
    Calls Tryz.prog 15 #[.pointer (some ⟨p, 0, none⟩), .agg #[.int .i64 h.base, .int .i64 h.half, .int .i64 h.space, .int .i64 h.top], .slice q roots.length c, .int .i64 k] w (RoomSaid ws R p g bm n h roots k w) := by
  have HM := Lib.hid (fun W (e : Ext w W) => gcmay_is (H.ext e) h hw hW (hr W (Turn.of_ext e)) hr64 hrl)
  have HC := Lib.hid (fun W (e : Ext w W) => coll_is (H.ext e) h hw hW (fun V t => hr V ((Turn.of_ext e).trans t)) hr64 hrl)
  have HCL := Lib.hid (show ∀ W, Ext w W → Calls Tryz.prog 28 #[.slice q roots.length c] W fun e w' => ∃ q2 c2, e = .returned (.slice q2 roots.length c2) ∧ OwnP w' W.heap.size 51 (.slice q2 roots.length c2) 1 (roots.map wordC) ∧ Ext W w' from fun W e => (clone_w (hr W (Turn.of_ext e)) (by rw [List.length_map]; omega)).mono (by
    rintro e w' ⟨v', rfl, ho, hx⟩
    obtain ⟨q2, c2, rfl, _, _⟩ := ho.len
    rw [List.length_map] at ho ⊢
    exact ⟨q2, c2, rfl, ho, hx⟩))
  obtain ⟨lp, lg, lm⟩ := H.lt
  unfold RoomSaid
  by_cases hk : k < 0
  · rw [if_pos hk]
    dsimp only
    clear H hw hW hr hr64 HM HC HCL
    go_enter Tryz.func15, Tryz.ntmps15
    go_upto_region 1 with fail
    refine wp_alloc2 fun W hE hS b0 b1 => ?_
    have HX := Lib.hid hE
    have f0 := free_at b1 (i := 0)
    have f1 := free_at b1 (i := 1)
    have f2 := free_at b1 (i := 2)
    have f3 := free_at b1 (i := 3)
    obtain ⟨y0, y1, y2, y3⟩ := cells4 b1
    go_wp2
    refine post_fill4 b1 fun W4 c4 hT4 hS4 => ?_
    obtain ⟨y0, y1, y2, y3⟩ := cells4 c4
    refine bodyPost_ret (v := .tuple #[zeroHV, .slice none 0 0, .bool false]) (by simp [results, Tryz.results15, go_sem, y0, y1, y2, y3, zeroHV]) rfl ?_
    exact ⟨rfl, Turn.after HX.out hT4 (by intro b hb; rw [List.mem_singleton.1 hb]; omega)⟩
  · rw [if_neg hk]
    cases hm : mayH ws R h roots with
    | none =>
      dsimp only
      rw [hm] at HM
      rw [Option.isSome_none] at HM
      clear H hw hW hr hr64 HC HCL hm
      go_enter Tryz.func15, Tryz.ntmps15
      go_wp2_with fail
      refine at_alloc2 fun W hE hS b0 b1 => ?_
      refine (HM.out W hE).mono ?_
      rintro e w1 ⟨rfl, hx1⟩
      have c1 := (Below.block hx1 (w.heap.size + 1) (by omega)).trans b1
      have HX := Lib.hid (hE.trans hx1)
      clear hx1 hE hS b0 b1
      have f0 := free_at c1 (i := 0)
      have f1 := free_at c1 (i := 1)
      have f2 := free_at c1 (i := 2)
      have f3 := free_at c1 (i := 3)
      obtain ⟨y0, y1, y2, y3⟩ := cells4 c1
      go_wp2
      refine post_fill4 c1 fun W4 c4 hT4 hS4 => ?_
      obtain ⟨y0, y1, y2, y3⟩ := cells4 c4
      refine bodyPost_ret (v := .tuple #[zeroHV, .slice none 0 0, .bool false]) (by simp [results, Tryz.results15, go_sem, y0, y1, y2, y3, zeroHV]) rfl ?_
      exact ⟨rfl, Turn.after HX.out hT4 (by intro b hb; rw [List.mem_singleton.1 hb]; omega)⟩
    | some Hs =>
      dsimp only
      rw [hm] at HM
      rw [Option.isSome_some] at HM
      unfold CollSaid at HC
      rw [hm] at HC
      dsimp only at HC
      obtain ⟨ha, _⟩ := mayH_some hm
      have hok := (thereB_ok (allH_there ha).1).1
      obtain ⟨a1, a2, a3, a4, a5, a6⟩ := hok
      have gcs : sizeF (liveF (firstN h) Hs roots) ≤ 2000 := by
        have h1 := (FinF.live (firstN h) Hs roots).size.1
        have h2 := (allH_ok H.good H.len ha).size
        omega
      clear H hw hW hr hr64 hm ha
      generalize liveF (firstN h) Hs roots = Fin at *
      by_cases hfit : k ≤ h.half - h.top
      · simp only [if_pos hfit]
        have hd : decide (k ≤ h.half - h.top) = true := decide_eq_true hfit
        clear HC
        go_enter Tryz.func15, Tryz.ntmps15
        go_wp2_with fail
        refine at_alloc2 fun W hE hS b0 b1 => ?_
        refine (HM.out W hE).mono ?_
        rintro e w1 ⟨rfl, hx1⟩
        have c0 := (Below.block hx1 w.heap.size (by omega)).trans b0
        have c1 := (Below.block hx1 (w.heap.size + 1) (by omega)).trans b1
        have HX := Lib.hid (hE.trans hx1)
        have hl1 : w.heap.size + 1 < w1.heap.size := (Array.getElem?_eq_some_iff.1 c1).1
        clear hx1 hE hS b0 b1
        obtain ⟨z0, z1, z2, z3⟩ := cells4 c0
        have hne : w.heap.size ≠ w.heap.size + 1 := by omega
        go_upto_region 4 with fail
        refine wp_region_noPanic ?_
        refine wp_region_last 5 (S := (fun w' => w'.cell? ⟨w.heap.size, 0, none⟩ = some (.int .i64 h.base) ∧ w'.cell? ⟨w.heap.size, 1, none⟩ = some (.int .i64 h.half) ∧ w'.cell? ⟨w.heap.size, 2, none⟩ = some (.int .i64 h.space) ∧ w'.cell? ⟨w.heap.size, 3, none⟩ = some (.int .i64 h.top))) (by kernel_rfl) (by kernel_rfl) _ rfl ?_ (fun hHeld => ?_)
        · (first | with_reducible exact hp4 (Ext.drew _) ⟨z0, z1, z2, z3⟩ | with_reducible exact hz2 | exact hp4s hz2 hne)
        simp only [List.take_succ_cons, List.take_zero]
        refine wpAnyH_take (i := 0) (v := ?v1) rfl (by kernel_rfl) (by kernel_rfl) (by kernel_rfl) (fun _ _ _ h => h) (Or.inl ⟨by rfl, ?y1⟩) (by assumption) ?r1
        case y1 => intro w hSw; (try dsimp only at hSw); go_simp; (try with_reducible rfl)
        (try simp only [Act.put, List.setIfInBounds_toArray, List.set_cons_zero, List.set_cons_succ, List.getElem_toArray, List.getElem_cons_zero, List.getElem_cons_succ])
        refine wpAnyH_take (i := 1) (v := ?v2) rfl (by kernel_rfl) (by kernel_rfl) (by kernel_rfl) (fun _ _ _ h => h) (Or.inl ⟨by rfl, ?y2⟩) (by assumption) ?r2
        case y2 => intro w hSw; (try dsimp only at hSw); go_simp; (try with_reducible rfl)
        (try simp only [Act.put, List.setIfInBounds_toArray, List.set_cons_zero, List.set_cons_succ, List.getElem_toArray, List.getElem_cons_zero, List.getElem_cons_succ])
        refine wpAnyH_ready (rs := [2]) (by kernel_rfl) (by simp) ?_
        refine AllReadyH.cons rfl (fun K hK => ?_) AllReadyH.nil
        go_simp
        refine (HCL.out _ (HX.out.trans (Ext.drew _))).mono ?_
        rintro e w2 ⟨q2, c2, rfl, ho2, hx2⟩
        have hx2' : Ext w1 w2 := (Ext.drew w1).trans hx2
        have d1 := (Below.block hx2' (w.heap.size + 1) hl1).trans c1
        have f0 := free_at d1 (i := 0)
        have f1 := free_at d1 (i := 1)
        have f2 := free_at d1 (i := 2)
        have f3 := free_at d1 (i := 3)
        obtain ⟨y0, y1, y2, y3⟩ := cells4 d1
        have hz2 := hp4 hx2' ⟨z0, z1, z2, z3⟩
        refine hK.out _ _ ?s3 (fun hHeld => ?k3)
        case s3 => ((try dsimp only); (first | with_reducible exact hp4 (Ext.drew _) ⟨z0, z1, z2, z3⟩ | with_reducible exact hz2 | exact hp4s hz2 hne))
        clear hK K
        (try simp only [Act.put, List.setIfInBounds_toArray, List.set_cons_zero, List.set_cons_succ, List.getElem_toArray, List.getElem_cons_zero, List.getElem_cons_succ])
        refine wpAnyH_ready (rs := [3]) (by kernel_rfl) (by simp) ?_
        refine AllReadyH.cons rfl (fun K hK => ?_) AllReadyH.nil
        go_simp
        refine hK.out _ _ ?s4 (fun hHeld => ?k4)
        case s4 => ((try dsimp only); (first | with_reducible exact hp4 (Ext.drew _) ⟨z0, z1, z2, z3⟩ | with_reducible exact hz2 | exact hp4s hz2 hne))
        clear hK K
        (try simp only [Act.put, List.setIfInBounds_toArray, List.set_cons_zero, List.set_cons_succ, List.getElem_toArray, List.getElem_cons_zero, List.getElem_cons_succ])
        refine wpAnyH_take (i := 4) (v := ?v5) rfl (by kernel_rfl) (by kernel_rfl) (by kernel_rfl) (fun _ _ _ h => h) (Or.inl ⟨by rfl, ?y5⟩) (by assumption) ?r5
        case y5 => intro w hSw; (try dsimp only at hSw); go_simp; (try with_reducible rfl)
        (try simp only [Act.put, List.setIfInBounds_toArray, List.set_cons_zero, List.set_cons_succ, List.getElem_toArray, List.getElem_cons_zero, List.getElem_cons_succ])
        refine wpAnyH_done (by kernel_rfl) ?_ _
        show wpList _ _ _ _ _ _
        refine list_gen (fun W => W.heap[w.heap.size + 1]? = some (.cells #[.int .i64 h.base, .int .i64 h.half, .int .i64 h.space, .int .i64 h.top] 24 (0, 0)) ∧ Turn [w.heap.size + 1] w2 W) ⟨(fill4 d1 _ _ _ _).1, (fill4 d1 _ _ _ _).2.1⟩ fun W3 hW3 => ?_
        obtain ⟨e1, t3⟩ := hW3
        have hle1 : w.heap.size ≤ w1.heap.size := by omega
        have O3 := Lib.hid (ho2.turn t3 (fun b hb hm => by have h1 := (ho2.own b hb).1; rw [List.mem_singleton.1 hm] at h1; simp at h1; omega))
        have X3 := Lib.hid (Turn.after (HX.out.trans hx2') t3 (by intro b hb; rw [List.mem_singleton.1 hb]; omega))
        clear ho2 hx2 hx2' hz2 hHeld d1 f0 f1 f2 f3 y0 y1 y2 y3 t3 z0 z1 z2 z3
        obtain ⟨y0, y1, y2, y3⟩ := cells4 e1
        go_wp2
        refine NoPanic.normal ?_
        go_wp2
        refine bodyPost_ret (v := .tuple #[.agg #[.int .i64 h.base, .int .i64 h.half, .int .i64 h.space, .int .i64 h.top], .slice q2 roots.length c2, .bool true]) (by simp [results, Tryz.results15, go_sem, y0, y1, y2, y3]) rfl ?_
        exact ⟨q2, c2, rfl, O3.out.mono (by simpa using hle1), X3.out⟩
      · simp only [if_neg hfit]
        have hd : decide (k ≤ h.half - h.top) = false := decide_eq_false hfit
        clear HCL
        go_enter Tryz.func15, Tryz.ntmps15
        go_wp2_with fail
        refine at_alloc2 fun W hE hS b0 b1 => ?_
        refine (HM.out W hE).mono ?_
        rintro e w1 ⟨rfl, hx1⟩
        have c0 := (Below.block hx1 w.heap.size (by omega)).trans b0
        have c1 := (Below.block hx1 (w.heap.size + 1) (by omega)).trans b1
        have HX := Lib.hid (hE.trans hx1)
        have hl1 : w.heap.size + 1 < w1.heap.size := (Array.getElem?_eq_some_iff.1 c1).1
        clear hx1 hE hS b0 b1
        obtain ⟨z0, z1, z2, z3⟩ := cells4 c0
        go_wp2_with fail
        refine (HC.out _ HX.out).mono ?_
        rintro e w2 ⟨q2, c2, rfl, hA2, ho2, hT2⟩
        have A2 := Lib.hid hA2; have O2 := Lib.hid ho2; have T2 := Lib.hid hT2
        have d0 := (hT2.block w.heap.size (Array.getElem?_eq_some_iff.1 c0).1 (by simp; omega)).trans c0
        have d1 := (hT2.block (w.heap.size + 1) (Array.getElem?_eq_some_iff.1 c1).1 (by simp; omega)).trans c1
        have hl2 : w.heap.size + 1 < w2.heap.size := (Array.getElem?_eq_some_iff.1 d1).1
        clear hA2 ho2 hT2 c0 c1 z0 z1 z2 z3
        obtain ⟨z0, z1, z2, z3⟩ := cells4 d0
        have f0 := free_at d0 (i := 0)
        have f1 := free_at d0 (i := 1)
        have f2 := free_at d0 (i := 2)
        have f3 := free_at d0 (i := 3)
        unfold hpV collH
        dsimp only
        go_upto_region 6 with fail
        refine wp_gen (fun W => W.heap[w.heap.size]? = some (.cells #[.int .i64 h.base, .int .i64 h.half, .int .i64 (1 - h.space), .int .i64 (sizeF Fin : Nat)] 24 (0, 0)) ∧ Turn [w.heap.size] w2 W) ⟨(fill4 d0 _ _ _ _).1, (fill4 d0 _ _ _ _).2.1⟩ fun W3 hW3 => ?_
        obtain ⟨e0, t3⟩ := hW3
        have A3 := Lib.hid (A2.out.turn t3 (by simp; omega) (by simp; omega) (by simp; omega))
        have O3 := Lib.hid (O2.out.turn t3 (fun b hb hm => by have h1 := (O2.out.own b hb).1; rw [List.mem_singleton.1 hm] at h1; omega))
        have T3 := Lib.hid (show Turn [g, w.heap.size] w1 W3 from (T2.out.mono (by simp)).trans (t3.mono (by simp)))
        have e1 := (t3.block (w.heap.size + 1) (Array.getElem?_eq_some_iff.1 d1).1 (by simp)).trans d1
        clear t3 A2 O2 T2 d0 d1 z0 z1 z2 z3 f0 f1 f2 f3
        obtain ⟨z0, z1, z2, z3⟩ := cells4 e0
        obtain ⟨y0, y1, y2, y3⟩ := cells4 e1
        have f0 := free_at e1 (i := 0)
        have f1 := free_at e1 (i := 1)
        have f2 := free_at e1 (i := 2)
        have f3 := free_at e1 (i := 3)
        have hd2 : IntKind.i64.wrap (h.half - ((sizeF Fin : Nat) : Int)) = h.half - ((sizeF Fin : Nat) : Int) := IntWalk.i64_in _ (by omega)
        go_region
        refine q_gen (fun W => W.heap[w.heap.size + 1]? = some (.cells #[.int .i64 h.base, .int .i64 h.half, .int .i64 (1 - h.space), .int .i64 (sizeF Fin : Nat)] 24 (0, 0)) ∧ Turn [w.heap.size + 1] W3 W) ?_ fun W4 hW4 => ?_
        · exact ⟨(fill4 e1 _ _ _ _).1, (fill4 e1 _ _ _ _).2.1.trans (Turn.of_ext (Ext.drew _))⟩
        · obtain ⟨e4, t4⟩ := hW4
          have A4 := A3.out.turn t4 (by simp; omega) (by simp; omega) (by simp; omega)
          have O4 := O3.out.turn t4 (fun b hb hm => by have h1 := (O3.out.own b hb).1; rw [List.mem_singleton.1 hm] at h1; omega)
          have T4 : Turn [g, w.heap.size, w.heap.size + 1] w W4 := ((Turn.of_ext HX.out).trans (T3.out.mono (by simp))).trans (t4.mono (by simp))
          have hle1 : w.heap.size ≤ w1.heap.size := by omega
          clear z0 z1 z2 z3 y0 y1 y2 y3 f0 f1 f2 f3
          obtain ⟨y0, y1, y2, y3⟩ := cells4 e4
          go_wp2
          refine bodyPost_ret (v := .tuple #[.agg #[.int .i64 h.base, .int .i64 h.half, .int .i64 (1 - h.space), .int .i64 (sizeF Fin : Nat)], .slice q2 roots.length c2, .bool (decide (k ≤ h.half - (sizeF Fin : Nat)))]) (by simp [results, Tryz.results15, go_sem, y0, y1, y2, y3]) rfl ?_
          refine ⟨q2, c2, rfl, A4, O4.mono hle1, T4.sub fun b hb => ?_⟩
          simp only [List.mem_cons, List.not_mem_nil, or_false] at hb
          rcases hb with rfl | rfl | rfl
          · exact .inl (by simp)
          all_goals exact .inr (by omega)
end Go.Proofs.YtinakendlpomnaaGreat
