/- frame.WithRoots. -/
import Derived.Test.YtfmedddjmcplnaaDoorFrmI
namespace Go.Proofs.YtfmedddjmcplnaaDoor
open Go.RowKit
set_option maxHeartbeats 4000000
set_option maxRecDepth 100000
/-- a value's own block, as a list -/
def fp (v : Value) : List Nat := v.ownBlock.toList
theorem mem_fp {v : Value} {b : Nat} : b ∈ fp v ↔ v.ownBlock = some b := by simp [fp]
def upd (F : List Fr) (X : Nat → Int) (k : Nat) : List Fr := F.mapIdx fun i x => if i < k then { x with self := X i } else x
theorem upd_length (F : List Fr) (X : Nat → Int) (k : Nat) : (upd F X k).length = F.length := by simp [upd]
theorem upd_zero (F : List Fr) (X : Nat → Int) : upd F X 0 = F := by
  apply List.ext_getElem? ; intro i
  simp [upd, List.getElem?_mapIdx]
theorem upd_at {F : List Fr} {X : Nat → Int} {k i : Nat} {x : Fr} (h : F[i]? = some x) : (upd F X k)[i]? = some (if i < k then { x with self := X i } else x) := by
  simp [upd, List.getElem?_mapIdx, h]
theorem upd_step {F : List Fr} {X : Nat → Int} {k : Nat} {x : Fr} (h : F[k]? = some x) : (upd F X k).set k { x with self := X k } = upd F X (k + 1) := by
  have hk : k < F.length := (List.getElem?_eq_some_iff.1 h).1
  apply List.ext_getElem?
  intro i
  rw [List.getElem?_set, upd_length]
  by_cases hi : k = i
  · subst hi
    rw [if_pos rfl, if_pos hk, upd_at h, if_pos (by omega)]
  · rw [if_neg hi]
    simp only [upd, List.getElem?_mapIdx]
    cases hF : F[i]? with
    | none => rfl
    | some y =>
      simp only [Option.map_some]
      by_cases h1 : i < k
      · rw [if_pos h1, if_pos (by omega)]
      · rw [if_neg h1, if_neg (by omega)]
theorem with_no {w : World} {s f h ro : Value} {S : List Int} {F : List Fr} {R : List Int} (hs : RowsP w s 1 (S.map wordC)) (hf : RowsP w f 4 (F.map frC)) (hr : RowsP w ro 1 (R.map wordC)) (lS : S.length ≤ 1000000) (lF : F.length ≤ 1000000) (lR : R.length ≤ 4000000) (hne : R.length ≠ S.length + F.length + 1)
    (a b c d st r co a' b' c' d' : Int) (hq : ∃ q n k, h = .slice q n k) :
    Calls Tryd.prog 19 #[machV a b c d s f h st r co, .agg #[.int .i64 a', .int .i64 b', .int .i64 c', .int .i64 d'], ro] w fun e w' => e = .returned (.tuple #[machV 0 0 0 0 (.slice none 0 0) (.slice none 0 0) (.slice none 0 0) 0 0 0, .bool false]) ∧ Ext w w' := by
  obtain ⟨qs, ks, rfl, _, _, _⟩ := hs.at
  obtain ⟨qf, kf, rfl, _, _, _⟩ := hf.at
  obtain ⟨qr, kr, rfl, _, _, _⟩ := hr.at
  obtain ⟨qh, nh, kh, rfl⟩ := hq
  rw [List.length_map, List.length_map, List.length_map]
  clear hs hf hr
  have b1 : ((R.length : Int) == (S.length : Int) + (F.length : Int) + 1) = false := beq_false_of_ne (by omega)
  have b2 : ((R.length : Int) != (S.length : Int) + (F.length : Int) + 1) = true := by rw [bne, b1]; rfl
  clear hne
  unfold machV
  go_enter Tryd.func19, Tryd.ntmps19
  go_wp2_with fail
  exact bodyPost_ret (v := .tuple #[machV 0 0 0 0 (.slice none 0 0) (.slice none 0 0) (.slice none 0 0) 0 0 0, .bool false]) (by simp [results, Tryd.results19, go_sem, machV]) rfl ⟨rfl, ((Ext.alloc _ _).trans (Ext.alloc _ _)).trans (Ext.alloc _ _)⟩
/-- what WithRoots leaves -/
def WithDone (w : World) (a b c d : Int) (S : List Int) (F : List Fr) (H : List (List Value)) (X : Nat → Int) (st r co : Int) (e : Ending) (w' : World) : Prop :=
  ∃ s f h, e = .returned (.tuple #[machV a b c d s f h st r co, .bool true]) ∧ OwnP w' w.heap.size 24 s 1 (S.map wordC) ∧ OwnP w' w.heap.size 27 f 4 ((upd F X F.length).map frC) ∧ OwnP w' w.heap.size 36 h 3 H ∧ Ext w w'
theorem with_yes {w : World} {s f h ro : Value} {S : List Int} {F : List Fr} {H : List (List Value)} {R : List Int} (hs : RowsP w s 1 (S.map wordC)) (hf : RowsP w f 4 (F.map frC)) (hh : RowsP w h 3 H) (hr : RowsP w ro 1 (R.map wordC)) (lS : S.length ≤ 1000000) (lF : F.length ≤ 1000000) (lH : H.length ≤ 1000000) (hR : R.length = S.length + F.length + 1)
    (X : Nat → Int) (hX : ∀ i, i < F.length → R[S.length + i]? = some (X i)) (r' : Int) (hr' : R[S.length + F.length]? = some r') (a b c d st r co a' b' c' d' : Int) :
    Calls Tryd.prog 19 #[machV a b c d s f h st r co, .agg #[.int .i64 a', .int .i64 b', .int .i64 c', .int .i64 d'], ro] w (WithDone w a' b' c' d' (R.take S.length) F H X st r' co) := by
  have HS := Lib.hid hs; have HF := Lib.hid hf; have HH := Lib.hid hh; have HR := Lib.hid hr; have HX0 := Lib.hid hX; have HR' := Lib.hid hr'
  obtain ⟨qs, ks, rfl, _, _, _⟩ := hs.at
  obtain ⟨qf, kf, rfl, _, _, _⟩ := hf.at
  obtain ⟨qr, kr, rfl, hkr, hkrm, hcr⟩ := hr.at
  obtain ⟨qh, kh, rfl, _, _, _⟩ := hh.at
  have HCR := Lib.hid hcr
  rw [List.length_map, List.length_map, List.length_map] at *
  clear hs hf hr hh hX hr' hcr
  have b1 : ((S.length : Int) + (F.length : Int) + 1 == (S.length : Int) + (F.length : Int) + 1) = true := by simp
  have b2 : ((S.length : Int) + (F.length : Int) + 1 != (S.length : Int) + (F.length : Int) + 1) = false := by simp
  have HRL := Lib.hid hR
  rw [hR]
  clear hR
  unfold machV
  go_enter Tryd.func19, Tryd.ntmps19
  go_wp2_with fail
  refine at_alloc3 fun W hE hS b0 b1' b2' => ?_
  have ho := own_is (HS.out.ext hE) (HF.out.ext hE) (HH.out.ext hE) lS (by simpa using lF) lH a b c d st r co
  unfold machV at ho
  refine ho.mono ?_
  rintro e w1 ⟨s1, f1, h1, B1, B2, rfl, ho1, hb1, hf1, hb2, hh1, h3, h4, hx1⟩
  unfold machV
  have c0 := (Below.block hx1 w.heap.size (by omega)).trans b0
  have c1 := (Below.block hx1 (w.heap.size + 1) (by omega)).trans b1'
  have c2 := (Below.block hx1 (w.heap.size + 1 + 1) (by omega)).trans b2'
  have hsz := hx1.size
  rw [hS] at hsz h3 ho1
  have HX := Lib.hid (hE.trans hx1)
  obtain ⟨qs1, ks1, rfl, _, _⟩ := ho1.len
  obtain ⟨qf1, kf1, rfl, _, _⟩ := hf1.len
  obtain ⟨qh1, kh1, rfl, _, _⟩ := hh1.len
  rw [List.length_map] at ho1 hb1 hf1 hb2 ⊢
  rw [List.length_map]
  have HO1 := Lib.hid ho1; have HF1 := Lib.hid hf1; have HH1 := Lib.hid hh1; have HB1 := Lib.hid hb1; have HB2 := Lib.hid hb2
  clear ho ho1 hf1 hh1 hb1 hb2 hx1 hE b0 b1' b2' hS HS HF HH
  obtain ⟨m0, m1, m2, m3, m4, m5, m6, m7, m8, m9⟩ := cells10 c0
  have mf : ∀ i, w1.frozen? ⟨w.heap.size, i, none⟩ = false := fun i => free_at c0
  have C0 := Lib.hid c0; have C1 := Lib.hid c1; have C2 := Lib.hid c2
  clear c0 c1 c2
  go_upto_region 4 with fail
  refine wp_fill10 C0.out fun W2 c0 ht hs2 => ?_
  have c1 := (ht.block (w.heap.size + 1) (by omega) (by simp)).trans C1.out
  have c2 := (ht.block (w.heap.size + 1 + 1) (by omega) (by simp; omega)).trans C2.out
  have HX2 := Lib.hid (show Ext w W2 from (Turn.below (bs := [w.heap.size]) (Turn.trans (Turn.of_ext HX.out) ht) (Nat.le_refl _) (by simp)))
  have HO2 := Lib.hid (HO1.out.turn ht (fun b hb => by have := (HO1.out.own b hb).1; simp; omega))
  have HF2 := Lib.hid (HF1.out.turn ht (fun b hb => by have := (HF1.out.own b hb).1; simp; omega))
  have HH2 := Lib.hid (HH1.out.turn ht (fun b hb => by have := (HH1.out.own b hb).1; simp; omega))
  clear C0 C1 C2 HX HO1 HF1 HH1 ht m0 m1 m2 m3 m4 m5 m6 m7 m8 m9 mf
  rw [← hs2] at hsz
  clear hs2
  obtain ⟨m0, m1, m2, m3, m4, m5, m6, m7, m8, m9⟩ := cells10 c0
  obtain ⟨g0, g1, g2, g3⟩ := cells4 c1
  have mf : ∀ i, W2.frozen? ⟨w.heap.size, i, none⟩ = false := fun i => free_at c0
  have C0 := Lib.hid c0; have C2 := Lib.hid c2
  clear c0 c1 c2
  go_upto_region 5 with fail
  refine wp_gen (fun W => W.heap[w.heap.size]? = some (.cells #[.int .i64 a', .int .i64 b', .int .i64 c', .int .i64 d', .slice qs1 S.length ks1, .slice qf1 F.length kf1, .slice qh1 H.length kh1, .int .i64 st, .int .u64 r, .int .i64 co] 34 (0, 0)) ∧ Turn [w.heap.size] W2 W ∧ W.heap.size = W2.heap.size) ?_ ?_
  · refine ⟨by simp [World.setCell, Array.getElem?_modify, C0.out], ?_, by simp only [World.size_setCell]⟩
    iterate 4 refine Turn.setCell ?_ (.inl (by simp)) _
    exact Turn.refl _ _
  rintro W3 ⟨c0, ht, hs3⟩
  have c2 := (ht.block (w.heap.size + 1 + 1) (by omega) (by simp; omega)).trans C2.out
  have HX3 := Lib.hid (show Ext w W3 from (Turn.below (bs := [w.heap.size]) (Turn.trans (Turn.of_ext HX2.out) ht) (Nat.le_refl _) (by simp)))
  have HO3 := Lib.hid (HO2.out.turn ht (fun b hb => by have := (HO2.out.own b hb).1; simp; omega))
  have HF3 := Lib.hid (HF2.out.turn ht (fun b hb => by have := (HF2.out.own b hb).1; simp; omega))
  have HH3 := Lib.hid (HH2.out.turn ht (fun b hb => by have := (HH2.out.own b hb).1; simp; omega))
  clear C0 C2 HX2 HO2 HF2 HH2 ht m0 m1 m2 m3 m4 m5 m6 m7 m8 m9 mf g0 g1 g2 g3
  rw [← hs3] at hsz
  clear hs3
  obtain ⟨m0, m1, m2, m3, m4, m5, m6, m7, m8, m9⟩ := cells10 c0
  have C0 := Lib.hid c0; have C2 := Lib.hid c2
  clear c0 c2
  go_wp2_with (refine wpList_copy_rows E64 (by rfl) _ _ (by rfl) (w.heap.size + 1 + 1 + 1) (.slice qs1 S.length ks1) (.slice qr (S.length + F.length + 1) kr) (S.map wordC) (R.map wordC) (by rfl) HO3.out (by rfl) (by have h := HR.out.ext HX3.out; rw [HRL.out] at h; exact h) ?_)
  intro W4 ho4 hg4 hs4
  rw [show R.length.min S.length = S.length from Nat.min_eq_right (by rw [HRL.out]; omega)] at ho4 ⊢
  rw [List.drop_of_length_le (by simp), List.append_nil, ← List.map_take] at ho4
  have hne : ∀ g', (Value.slice qs1 S.length ks1).ownBlock = some g' → w.heap.size + 1 + 1 + 1 ≤ g' ∧ g' < B1 := fun g' hg' => ⟨(HO3.out.own g' hg').1, HB1.out g' hg'⟩
  have c0 := grown_block hg4 C0.out (fun e => by have := (hne _ e).1; omega)
  have c2 := grown_block hg4 C2.out (fun e => by have := (hne _ e).1; omega)
  have hF4 := HF3.out.grown hg4 (fun b hb e => by have := (hne _ e).2; have := (HF3.out.own b hb).1; omega)
  have hH4 := HH3.out.grown hg4 (fun b hb e => by have := (hne _ e).2; have := (HH3.out.own b hb).1; omega)
  have hx4 : Ext w W4 := Below.grown HX3.out hg4 HX3.out.size (fun b hb => by have := (hne b hb).1; omega)
  have C0' := Lib.hid c0; have C2' := Lib.hid c2; have HX4 := Lib.hid hx4; have HO4 := Lib.hid ho4; have HF4 := Lib.hid hF4; have HH4 := Lib.hid hH4; have HN := Lib.hid hne
  rw [← hs4] at hsz
  clear hs4 hg4 c0 c2 hx4 ho4 hF4 hH4 hne C0 C2 HX3 HO3 HF3 HH3 m0 m1 m2 m3 m4 m5 m6 m7 m8 m9
  obtain ⟨m0, m1, m2, m3, m4, m5, m6, m7, m8, m9⟩ := cells10 C0'.out
  go_wp2_with fail
  go_loopw [33] (fun i wr => ∃ k : Nat, k ≤ F.length ∧ i = .int .i64 k ∧ OwnP wr B1 27 (.slice qf1 F.length kf1) 4 ((upd F X k).map frC) ∧ Turn (fp (.slice qf1 F.length kf1)) W4 wr) (fun i _ => F.length - (intOf i).toNat)
  case atStart => exact ⟨0, by omega, rfl, by rw [upd_zero]; exact HF4.out, Turn.refl _ _⟩
  case round =>
    obtain ⟨k, hk, rfl, ho, ht⟩ := hrel
    have hfn : ∀ b, b ∈ fp (.slice qf1 F.length kf1) → B1 ≤ b ∧ b < B2 := fun b hb => ⟨(ho.own b (mem_fp.1 hb)).1, HB2.out b (mem_fp.1 hb)⟩
    have c0 := (ht.block w.heap.size (by omega) (fun hm => by have := (hfn _ hm).1; omega)).trans C0'.out
    have c2 := (ht.block (w.heap.size + 1 + 1) (by omega) (fun hm => by have := (hfn _ hm).1; omega)).trans C2'.out
    have hx : Ext w wr := Turn.below (Turn.trans (Turn.of_ext HX4.out) ht) (Nat.le_refl _) (fun b hb => by have := (hfn _ hb).1; omega)
    have hsr := ht.size
    clear m0 m1 m2 m3 m4 m5 m6 m7 m8 m9
    have HT := Lib.hid ht; have HO := Lib.hid ho; have HX := Lib.hid hx; have HFN := Lib.hid hfn; have D0 := Lib.hid c0; have D2 := Lib.hid c2
    clear ht ho hx hfn
    by_cases hlt : k < F.length
    · have hFk := List.getElem?_eq_getElem hlt
      generalize F[k] = x at hFk
      have hrk := HX0.out k hlt
      generalize hxv : X k = xv at hrk
      obtain ⟨br, off, rfl, hrc⟩ := HCR.out (S.length + k) (wordC xv) (by rw [List.getElem?_map, hrk]; rfl)
      have r0 := HX.out.cell (hrc 0 _ rfl)
      rw [Nat.add_zero, Nat.mul_one] at r0
      have hok := HO.out
      obtain ⟨gf, rfl, hgf, y0, yf⟩ := hok.cell (i := k) (f := 3) (by rw [List.getElem?_map, upd_at hFk]; rfl) (by rw [if_neg (by omega)]; rfl)
      have P5 : wr.cell? ⟨w.heap.size, 5, none⟩ = some (.slice (some ⟨gf, 0, none⟩) F.length kf1) := cell_at c0 rfl
      have HXV := Lib.hid hxv
      have HFK := Lib.hid hFk
      have hwr : IntKind.i64.wrap ((S.length : Int) + (k : Int)) = (S.length : Int) + (k : Int) := IntWalk.i64_in _ (by omega)
      have i0 : (0 : Int) ≤ (S.length : Int) + (k : Int) := by omega
      have i1 : (S.length : Int) + (k : Int) < (S.length : Int) + (F.length : Int) + 1 := by omega
      have i2 : ((S.length : Int) + (k : Int)).toNat = S.length + k := by omega
      have i3 : (k : Int) < (F.length : Int) := by omega
      clear hok hrc hrk hxv hFk c0 c2
      go_upto_region 9 with fail
      refine wp_region_noPanic ?_
      refine wp_region_last 11 (S := (fun w' => w'.cell? ⟨w.heap.size, 5, none⟩ = some (.slice (some ⟨gf, 0, none⟩) F.length kf1) ∧ w'.cell? ⟨br, off + (S.length + k), none⟩ = some (.int .u64 xv))) (by kernel_rfl) (by kernel_rfl) _ rfl ?_ (fun hHeld => ?_)
      · (exact ⟨(Ext.drew _).cell P5, (Ext.drew _).cell r0⟩)
      simp only [List.take_succ_cons, List.take_zero]
      refine wpAnyH_take (i := 0) (v := ?v1) rfl (by kernel_rfl) (by kernel_rfl) (by kernel_rfl) (fun _ _ _ h => h) (Or.inl ⟨by rfl, ?y1⟩) (by assumption) ?r1
      case y1 => intro w hSw; (try dsimp only at hSw); go_simp; (try with_reducible rfl)
      (try simp only [Act.put, List.setIfInBounds_toArray, List.set_cons_zero, List.set_cons_succ, List.getElem_toArray, List.getElem_cons_zero, List.getElem_cons_succ])
      refine wpAnyH_take (i := 1) (v := ?v2) rfl (by kernel_rfl) (by kernel_rfl) (by kernel_rfl) (fun _ _ _ h => h) (Or.inl ⟨by rfl, ?y2⟩) (by assumption) ?r2
      case y2 => intro w hSw; (try dsimp only at hSw); go_simp; (try with_reducible rfl)
      (try simp only [Act.put, List.setIfInBounds_toArray, List.set_cons_zero, List.set_cons_succ, List.getElem_toArray, List.getElem_cons_zero, List.getElem_cons_succ])
      refine wpAnyH_take (i := 2) (v := ?v3) rfl (by kernel_rfl) (by kernel_rfl) (by kernel_rfl) (fun _ _ _ h => h) (Or.inl ⟨by rfl, ?y3⟩) (by assumption) ?r3
      case y3 => intro w hSw; (try dsimp only at hSw); go_simp; (try with_reducible rfl)
      (try simp only [Act.put, List.setIfInBounds_toArray, List.set_cons_zero, List.set_cons_succ, List.getElem_toArray, List.getElem_cons_zero, List.getElem_cons_succ])
      refine wpAnyH_take (i := 3) (v := ?v4) rfl (by kernel_rfl) (by kernel_rfl) (by kernel_rfl) (fun _ _ _ h => h) (Or.inl ⟨by rfl, ?y4⟩) (by assumption) ?r4
      case y4 => intro w hSw; (try dsimp only at hSw); go_simp; (try with_reducible rfl)
      (try simp only [Act.put, List.setIfInBounds_toArray, List.set_cons_zero, List.set_cons_succ, List.getElem_toArray, List.getElem_cons_zero, List.getElem_cons_succ])
      refine wpAnyH_take (i := 4) (v := ?v5) rfl (by kernel_rfl) (by kernel_rfl) (by kernel_rfl) (fun _ _ _ h => h) (Or.inl ⟨by rfl, ?y5⟩) (by assumption) ?r5
      case y5 => intro w hSw; (try dsimp only at hSw); go_simp; (try with_reducible rfl)
      (try simp only [Act.put, List.setIfInBounds_toArray, List.set_cons_zero, List.set_cons_succ, List.getElem_toArray, List.getElem_cons_zero, List.getElem_cons_succ])
      refine wpAnyH_take (i := 5) (v := ?v6) rfl (by kernel_rfl) (by kernel_rfl) (by kernel_rfl) (fun _ _ _ h => h) (Or.inl ⟨by rfl, ?y6⟩) (by assumption) ?r6
      case y6 => intro w hSw; (try dsimp only at hSw); go_simp; (try with_reducible rfl)
      (try simp only [Act.put, List.setIfInBounds_toArray, List.set_cons_zero, List.set_cons_succ, List.getElem_toArray, List.getElem_cons_zero, List.getElem_cons_succ])
      refine wpAnyH_take (i := 6) (v := ?v7) rfl (by kernel_rfl) (by kernel_rfl) (by kernel_rfl) (fun _ _ _ h => h) (Or.inl ⟨by rfl, ?y7⟩) (by assumption) ?r7
      case y7 => intro w hSw; (try dsimp only at hSw); go_simp; (try with_reducible rfl)
      (try simp only [Act.put, List.setIfInBounds_toArray, List.set_cons_zero, List.set_cons_succ, List.getElem_toArray, List.getElem_cons_zero, List.getElem_cons_succ])
      refine wpAnyH_take (i := 7) (v := ?v8) rfl (by kernel_rfl) (by kernel_rfl) (by kernel_rfl) (fun _ _ _ h => h) (Or.inl ⟨by rfl, ?y8⟩) (by assumption) ?r8
      case y8 => intro w hSw; (try dsimp only at hSw); go_simp; (try with_reducible rfl)
      (try simp only [Act.put, List.setIfInBounds_toArray, List.set_cons_zero, List.set_cons_succ, List.getElem_toArray, List.getElem_cons_zero, List.getElem_cons_succ])
      refine wpAnyH_take (i := 8) (v := ?v9) rfl (by kernel_rfl) (by kernel_rfl) (by kernel_rfl) (fun _ _ _ h => h) (Or.inl ⟨by rfl, ?y9⟩) (by assumption) ?r9
      case y9 => intro w hSw; (try dsimp only at hSw); go_simp; (try with_reducible rfl)
      (try simp only [Act.put, List.setIfInBounds_toArray, List.set_cons_zero, List.set_cons_succ, List.getElem_toArray, List.getElem_cons_zero, List.getElem_cons_succ])
      refine wpAnyH_take (i := 9) (v := ?v10) rfl (by kernel_rfl) (by kernel_rfl) (by kernel_rfl) (fun _ _ _ h => h) (Or.inl ⟨by rfl, ?y10⟩) (by assumption) ?r10
      case y10 => intro w hSw; (try dsimp only at hSw); go_simp; (try with_reducible rfl)
      (try simp only [Act.put, List.setIfInBounds_toArray, List.set_cons_zero, List.set_cons_succ, List.getElem_toArray, List.getElem_cons_zero, List.getElem_cons_succ])
      refine wpAnyH_take (i := 10) (v := ?v11) rfl (by kernel_rfl) (by kernel_rfl) (by kernel_rfl) (fun _ _ _ h => h) (Or.inl ⟨by rfl, ?y11⟩) (by assumption) ?r11
      case y11 => intro w hSw; (try dsimp only at hSw); go_simp; (try with_reducible rfl)
      (try simp only [Act.put, List.setIfInBounds_toArray, List.set_cons_zero, List.set_cons_succ, List.getElem_toArray, List.getElem_cons_zero, List.getElem_cons_succ])
      refine wpAnyH_done (by kernel_rfl) ?_ _
      show wpList _ _ _ _ _ _
      go_wp2
      refine NoPanic.normal ?_
      go_wp2
      refine ⟨⟨k + 1, by omega, by go_num, ?_, ?_⟩, by simp [intOf]; omega⟩
      · have hst := (HO.out.ext (Ext.drew wr)).store (i := k) (f := 3) (cs := frC x) (u := .int .u64 xv) (by rw [List.getElem?_map, upd_at HFK.out, if_neg (by omega)]; rfl) (by omega) rfl
        have hup := upd_step (X := X) HFK.out
        rw [HXV.out] at hup
        have e2 : ((upd F X k).map frC).set k ((frC x).set 3 (.int .u64 xv)) = (upd F X (k + 1)).map frC := by rw [← hup, List.map_set]; rfl
        rw [e2] at hst
        exact hst
      · exact (HT.out.trans (Turn.of_ext (Ext.drew _))).setCell (.inl (by simp [fp, Value.ownBlock])) _
    · obtain rfl : k = F.length := by omega
      obtain ⟨br, off, rfl, hrc⟩ := HCR.out (S.length + F.length) (wordC r') (by rw [List.getElem?_map, HR'.out]; rfl)
      have r0 := HX.out.cell (hrc 0 _ rfl)
      rw [Nat.add_zero, Nat.mul_one] at r0
      obtain ⟨m0, m1, m2, m3, m4, m5, m6, m7, m8, m9⟩ := cells10 c0
      have mf : ∀ i, wr.frozen? ⟨w.heap.size, i, none⟩ = false := fun i => free_at c0
      obtain ⟨z0, z1, z2, z3, z4, z5, z6, z7, z8, z9⟩ := cells10 c2
      have zf : ∀ i, wr.frozen? ⟨w.heap.size + 1 + 1, i, none⟩ = false := fun i => free_at c2
      have i0 : (0 : Int) ≤ (S.length : Int) + (F.length : Int) := by omega
      have i1 : (S.length : Int) + (F.length : Int) < (S.length : Int) + (F.length : Int) + 1 := by omega
      have i2 : ((S.length : Int) + (F.length : Int)).toNat = S.length + F.length := by omega
      clear hrc c0 c2
      go_wp2_with fail
      refine bodyPost_ret (v := .tuple #[machV a' b' c' d' (.slice qs1 S.length ks1) (.slice qf1 F.length kf1) (.slice qh1 H.length kh1) st r' co, .bool true]) (by simp [results, Tryd.results19, go_sem, z0, z1, z2, z3, z4, z5, z6, z7, z8, z9, machV]) rfl ?_
      have n0 : w.heap.size ≤ w.heap.size := Nat.le_refl _
      have n2 : w.heap.size ≤ w.heap.size + 1 + 1 := by omega
      have hs' := HO4.out.turn HT.out (fun b hb hm => by have := (HFN.out b hm).1; have := (HN.out b hb).2; omega)
      have hh' := HH4.out.turn HT.out (fun b hb hm => by have := (HFN.out b hm).2; have := (HH4.out.own b hb).1; omega)
      refine ⟨_, _, _, rfl, (hs'.turn (bs := [w.heap.size, w.heap.size + 1 + 1]) ?_ (fun b hb => by have := (HN.out b hb).1; simp; omega)).mono (by omega), (HO.out.turn (bs := [w.heap.size, w.heap.size + 1 + 1]) ?_ (fun b hb => by have := (HO.out.own b hb).1; simp; omega)).mono (by omega), (hh'.turn (bs := [w.heap.size, w.heap.size + 1 + 1]) ?_ (fun b hb => by have := (hh'.own b hb).1; simp; omega)).mono (by omega), ?_⟩
      · iterate 11 refine Turn.setCell ?_ (.inl (by simp)) _
        exact Turn.refl _ _
      · iterate 11 refine Turn.setCell ?_ (.inl (by simp)) _
        exact Turn.refl _ _
      · iterate 11 refine Turn.setCell ?_ (.inl (by simp)) _
        exact Turn.refl _ _
      · iterate 10 refine Below.setCell ?_ n2 _
        refine Below.setCell ?_ n0 _
        exact HX.out
end Go.Proofs.YtfmedddjmcplnaaDoor
