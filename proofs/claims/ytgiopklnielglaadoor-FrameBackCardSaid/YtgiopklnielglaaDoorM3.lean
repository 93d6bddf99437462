/- Proved here: the contracts and laws of FrmH, FrmI, FrmN, CodP, CodQ, OpT, OpA, CodA, CodB, CodC, FrmO, ObjP of this claim, each beneath its own remark; conditions: those that each theorem names. -/
import Derived.Test.YtgiopklnielglaaDoorM2
import Derived.Test.YtgiopklnielglaaDoorM1
import Derived.Deep.CutBlock
import Derived.WalkKit
/- frame.Throw. -/
namespace Go.Proofs.YtgiopklnielglaaDoor
open Go.RowKit
set_option maxHeartbeats 4000000
set_option maxRecDepth 100000
/-- what Throw leaves of a machine without a handler -/
def ThrowNone (w : World) (a b c d r code : Int) (e : Ending) (w' : World) : Prop :=
  ∃ h, e = .returned (machV a b c d (.slice none 0 0) (.slice none 0 0) h 3 r (wrapW code)) ∧ OwnP w' w.heap.size 53 h 3 [] ∧ Ext w w'
theorem throw_none {w : World} {s f h : Value} {S : List Int} {F : List (List Value)} (hs : RowsP w s 1 (S.map wordC)) (hf : RowsP w f 4 F) (hh : RowsP w h 3 []) (lS : S.length ≤ 1000000) (lF : F.length ≤ 1000000) (a b c d st r co code : Int) :
    Calls Tryd.prog 14 #[machV a b c d s f h st r co, .int .i64 code] w (ThrowNone w a b c d r code) := by
  have HS := Lib.hid hs; have HF := Lib.hid hf; have HH := Lib.hid hh
  clear hs hf hh
  unfold machV
  go_enter Tryd.func14, Tryd.ntmps14
  go_wp2_with fail
  refine at_alloc2 fun W hE hS b0 b1 => ?_
  have ho := own_is (HS.out.ext hE) (HF.out.ext hE) (HH.out.ext hE) lS lF (by simp) a b c d st r co
  unfold machV at ho
  refine ho.mono ?_
  rintro e w1 ⟨s1, f1, h1, B1, B2, rfl, ho1, hb1, hf1, hb2, hh1, h3, h4, hx1⟩
  unfold machV
  have c0 := (Below.block hx1 w.heap.size (by omega)).trans b0
  have c1 := (Below.block hx1 (w.heap.size + 1) (by omega)).trans b1
  have hsz := hx1.size
  rw [hS] at hsz
  have HX := Lib.hid (hE.trans hx1)
  obtain ⟨qs, ks, rfl, _, _⟩ := ho1.len
  obtain ⟨qf, kf, rfl, _, _⟩ := hf1.len
  obtain ⟨qh, kh, rfl, _, _⟩ := hh1.len
  rw [List.length_nil] at hh1 ⊢
  generalize (List.map wordC S).length = nS at *
  generalize F.length = nF at *
  have HH1 := Lib.hid hh1
  have hB : w.heap.size + 1 + 1 ≤ B2 := by omega
  clear ho ho1 hb1 hf1 hb2 hh1 hx1 hE b0 b1 h3 h4 hS HS HF HH
  obtain ⟨m0, m1, m2, m3, m4, m5, m6, m7, m8, m9⟩ := cells10 c0
  have mf : ∀ i, w1.frozen? ⟨w.heap.size, i, none⟩ = false := fun i => free_at c0
  have C0 := Lib.hid c0
  have C1 := Lib.hid c1
  clear c0 c1
  go_upto_region 2 with fail
  refine wp_fill10 C0.out fun W2 c0 ht hs2 => ?_
  have c1 := (ht.block (w.heap.size + 1) (by omega) (by simp)).trans C1.out
  have HX2 := Lib.hid (show Ext w W2 from (Turn.below (bs := [w.heap.size]) (Turn.trans (Turn.of_ext HX.out) ht) (Nat.le_refl _) (by simp)))
  have HH2 := Lib.hid (HH1.out.turn ht (fun b hb => by have := (HH1.out.own b hb).1; simp; omega))
  clear C0 C1 HX HH1 ht m0 m1 m2 m3 m4 m5 m6 m7 m8 m9 mf
  rw [← hs2] at hsz
  clear hs2
  obtain ⟨m0, m1, m2, m3, m4, m5, m6, m7, m8, m9⟩ := cells10 c0
  have mf : ∀ i, W2.frozen? ⟨w.heap.size, i, none⟩ = false := fun i => free_at c0
  obtain ⟨z0, z1, z2, z3, z4, z5, z6, z7, z8, z9⟩ := cells10 c1
  have zf : ∀ i, W2.frozen? ⟨w.heap.size + 1, i, none⟩ = false := fun i => free_at c1
  have q0 : w.heap.size < W2.heap.size := by omega
  have q1 : w.heap.size + 1 < W2.heap.size := by omega
  clear c0 c1
  go_wp2_with fail
  refine (wordWrap_is _ _).mono ?_
  rintro e w2 ⟨rfl, rfl⟩
  go_wp2_with fail
  refine bodyPost_ret (v := machV a b c d (.slice none 0 0) (.slice none 0 0) (.slice qh 0 kh) 3 r (wrapW code)) (by simp [results, Tryd.results14, go_sem, z0, z1, z2, z3, z4, z5, z6, z7, z8, z9, machV]) rfl ?_
  refine ⟨_, rfl, (HH2.out.turn (bs := [w.heap.size, w.heap.size + 1]) ?_ (fun b hb => by have := (HH2.out.own b hb).1; simp; omega)).mono (by omega), ?_⟩
  · iterate 14 refine Turn.setCell ?_ (.inl (by simp)) _
    exact Turn.refl _ _
  · have n1 : w.heap.size ≤ w.heap.size + 1 := by omega
    iterate 10 refine Below.setCell ?_ n1 _
    iterate 4 refine Below.setCell ?_ (show w.heap.size ≤ w.heap.size from Nat.le_refl _) _
    exact HX2.out
theorem keep3x {w w' : World} {a b : Addr} {u v : Value} (h : w.cell? a = some u) (f : w.frozen? a = false) (g : w.cell? b = some v) (e : Ext w w') : w'.cell? a = some u ∧ w'.frozen? a = false ∧ w'.cell? b = some v :=
  ⟨e.cell h, (e.frozen h).trans f, e.cell g⟩
/-- what Throw leaves of a machine with a handler that fits -/
def ThrowDone (w : World) (a b c d : Int) (S : List Int) (F H0 : List (List Value)) (fc : List Value) (j p : Nat) (pc st r co code : Int) (e : Ending) (w' : World) : Prop :=
  ∃ s f h, e = .returned (machV a b c d s f h st r co) ∧ OwnP w' w.heap.size 32 s 1 ((S.take p ++ [intW code]).map wordC) ∧ OwnP w' w.heap.size 55 f 4 ((F.take (j + 1)).set j (fc.set 1 (.int .i64 pc))) ∧ OwnP w' w.heap.size 53 h 3 H0 ∧ Ext w w'
theorem throw_yes {w : World} {s f h : Value} {S : List Int} {F H0 : List (List Value)} {j p : Nat} {pc : Int} {fc : List Value} (hs : RowsP w s 1 (S.map wordC)) (hf : RowsP w f 4 F) (hh : RowsP w h 3 (H0 ++ [[.int .i64 ((j : Int) + 1), .int .i64 (p : Int), .int .i64 pc]]))
    (hj : F[j]? = some fc) (hp : p ≤ S.length) (lS : S.length ≤ 1000000) (lF : F.length ≤ 1000000) (lH : H0.length ≤ 900000) (a b c d st r co code : Int) :
    Calls Tryd.prog 14 #[machV a b c d s f h st r co, .int .i64 code] w (ThrowDone w a b c d S F H0 fc j p pc st r co code) := by
  have HS := Lib.hid hs; have HF := Lib.hid hf; have HH := Lib.hid hh
  clear hs hf hh
  have hjl : j < F.length := (List.getElem?_eq_some_iff.1 hj).1
  have HJ := Lib.hid hj
  clear hj
  unfold machV
  go_enter Tryd.func14, Tryd.ntmps14
  go_wp2_with fail
  refine at_alloc2 fun W hE hS b0 b1 => ?_
  have ho := own_is (HS.out.ext hE) (HF.out.ext hE) (HH.out.ext hE) lS lF (by simp; omega) a b c d st r co
  unfold machV at ho
  refine ho.mono ?_
  rintro e w1 ⟨s1, f1, h1, B1, B2, rfl, ho1, hb1, hf1, hb2, hh1, h3, h4, hx1⟩
  unfold machV
  have c0 := (Below.block hx1 w.heap.size (by omega)).trans b0
  have c1 := (Below.block hx1 (w.heap.size + 1) (by omega)).trans b1
  have hsz := hx1.size
  rw [hS] at hsz
  have HX := Lib.hid (hE.trans hx1)
  have hls : (S.map wordC).length = S.length := by simp
  have hlh : (H0 ++ [[Value.int .i64 ((j : Int) + 1), .int .i64 (p : Int), .int .i64 pc]]).length = H0.length + 1 := by simp
  obtain ⟨qs, ks, rfl, hks, _⟩ := ho1.len
  obtain ⟨qf, kf, rfl, hkf, _⟩ := hf1.len
  obtain ⟨qh, kh, rfl, hkh, _⟩ := hh1.len
  rw [hlh] at hh1 hkh ⊢
  rw [hls] at ho1 hb1 hks ⊢
  rw [hS] at ho1
  clear hlh hls
  have HO1 := Lib.hid ho1; have HF1 := Lib.hid hf1; have HH1 := Lib.hid hh1; have HB1 := Lib.hid hb1; have HB2 := Lib.hid hb2
  rw [hS] at h3
  clear ho ho1 hf1 hh1 hb1 hb2 hx1 hE b0 b1 hS HS HF HH
  obtain ⟨m0, m1, m2, m3, m4, m5, m6, m7, m8, m9⟩ := cells10 c0
  have mf : ∀ i, w1.frozen? ⟨w.heap.size, i, none⟩ = false := fun i => free_at c0
  have C0 := Lib.hid c0
  have C1 := Lib.hid c1
  clear c0 c1
  go_upto_region 2 with fail
  refine wp_fill10 C0.out fun W2 c0 ht hs2 => ?_
  have c1 := (ht.block (w.heap.size + 1) (by omega) (by simp)).trans C1.out
  have HX2 := Lib.hid (show Ext w W2 from (Turn.below (bs := [w.heap.size]) (Turn.trans (Turn.of_ext HX.out) ht) (Nat.le_refl _) (by simp)))
  have HO2 := Lib.hid (HO1.out.turn ht (fun b hb => by have := (HO1.out.own b hb).1; simp; omega))
  have HF2 := Lib.hid (HF1.out.turn ht (fun b hb => by have := (HF1.out.own b hb).1; simp; omega))
  have HH2 := Lib.hid (HH1.out.turn ht (fun b hb => by have := (HH1.out.own b hb).1; simp; omega))
  clear C0 C1 HX HO1 HF1 HH1 ht m0 m1 m2 m3 m4 m5 m6 m7 m8 m9 mf
  rw [← hs2] at hsz
  clear hs2
  obtain ⟨gh, rfl, hgh, p0, k0⟩ := HH2.out.cell (i := H0.length) (f := 0) (cs := [.int .i64 ((j : Int) + 1), .int .i64 (p : Int), .int .i64 pc]) (by simp) rfl
  obtain ⟨_, hq, k1, p1, k2⟩ := HH2.out.cell (i := H0.length) (f := 1) (cs := [.int .i64 ((j : Int) + 1), .int .i64 (p : Int), .int .i64 pc]) (by simp) rfl
  obtain ⟨_, hq', k3, p2, k4⟩ := HH2.out.cell (i := H0.length) (f := 2) (cs := [.int .i64 ((j : Int) + 1), .int .i64 (p : Int), .int .i64 pc]) (by simp) rfl
  obtain ⟨rfl⟩ := Addr.mk.inj (Option.some.inj hq)
  obtain ⟨rfl⟩ := Addr.mk.inj (Option.some.inj hq')
  clear hq hq' k0 k1 k2 k3 k4
  rw [Nat.add_zero] at p0
  have hghl : gh < W2.heap.size := (HH2.out.own gh rfl).2
  obtain ⟨m0, m1, m2, m3, m4, m5, m6, m7, m8, m9⟩ := cells10 c0
  have mf : ∀ i, W2.frozen? ⟨w.heap.size, i, none⟩ = false := fun i => free_at c0
  have q0 : w.heap.size < W2.heap.size := by omega
  have q1 : w.heap.size + 1 < W2.heap.size := by omega
  have C0 := Lib.hid c0
  have C1 := Lib.hid c1
  clear c0 c1
  go_upto_region 7 with fail
  refine wp_alloc1 fun W3 hx3 hs3 hv => ?_
  have C0' := Lib.hid ((Below.block hx3 w.heap.size (by omega)).trans C0.out)
  have C1' := Lib.hid ((Below.block hx3 (w.heap.size + 1) (by omega)).trans C1.out)
  have HX3 := Lib.hid (HX2.out.trans hx3)
  have HO3 := Lib.hid (HO2.out.ext hx3)
  have HF3 := Lib.hid (HF2.out.ext hx3)
  have HH3 := Lib.hid (HH2.out.ext hx3)
  clear p0 p1 p2 m0 m1 m2 m3 m4 m5 m6 m7 m8 m9 mf C0 C1 HX2 HO2 HF2 HH2 hx3
  obtain ⟨v0, v1, v2⟩ := cells3 hv
  have HV := Lib.hid hv
  clear hv
  generalize hvb : W2.heap.size = vb at *
  have hsz3 : vb + 1 = W3.heap.size := hs3.symm
  clear hvb hs3
  obtain ⟨m0, m1, m2, m3, m4, m5, m6, m7, m8, m9⟩ := cells10 C0'.out
  have mf : ∀ i, W3.frozen? ⟨w.heap.size, i, none⟩ = false := fun i => free_at C0'.out
  have HZ := Lib.hid hsz3
  have q0 : w.heap.size < W3.heap.size := by omega
  have q1 : w.heap.size + 1 < W3.heap.size := by omega
  clear hsz3
  have t1 : decide ((j : Int) + 1 < 1) = false := decide_eq_false (by omega)
  have t2 : decide ((F.length : Int) < (j : Int) + 1) = false := decide_eq_false (by omega)
  have t3 : decide ((p : Int) < 0) = false := decide_eq_false (by omega)
  have t4 : decide (S.length < p) = false := decide_eq_false (by omega)
  have hk1 : ∀ W, (Instr.slice 30 (.slice qf F.length kf) none (some (.int .i64 ((j : Int) + 1))) none).run Tryd.prog W = .ok (.slice qf (j + 1) kf) W := fun W => by
    have := run_take EFr W qf F.length kf (j + 1) (by omega) (by assumption)
    simpa using this
  go_upto_region 10 with fail
  clear t1 t2 t3 t4
  go_upto_region 11 with fail
  refine wp_fill1 C0'.out fun W4 c0 ht4 hs4 => ?_
  have hne : ∀ g', (Value.slice qs p ks).ownBlock = some g' → w.heap.size + 1 + 1 ≤ g' ∧ g' < B1 := fun g' hg' => ⟨(HO3.out.own g' (own_any hg')).1, HB1.out g' (own_any hg')⟩
  have d1 := (ht4.block (w.heap.size + 1) (by omega) (by simp)).trans C1'.out
  have dv := (ht4.block vb (by rw [← HZ.out]; omega) (by simp; omega)).trans HV.out
  have HO4 := Lib.hid ((HO3.out.take (k := p) (by simpa using hp)).turn ht4 (fun b hb => by have := (HO3.out.own b (own_any hb)).1; simp; omega))
  have HF4 := Lib.hid (HF3.out.turn ht4 (fun b hb => by have := (HF3.out.own b hb).1; simp; omega))
  have HH4 := Lib.hid (HH3.out.turn ht4 (fun b hb => by have := (HH3.out.own b hb).1; simp; omega))
  have HX4 := Lib.hid (show Ext w W4 from (Turn.below (bs := [w.heap.size]) (Turn.trans (Turn.of_ext HX3.out) ht4) (Nat.le_refl _) (by simp)))
  have HN := Lib.hid hne
  have hvb : w.heap.size + 1 + 1 ≤ vb ∧ B1 ≤ vb := by omega
  have p4 : W4.cell? ⟨w.heap.size, 4, none⟩ = some (.slice qs S.length ks) := cell_at c0 rfl
  have f4 : W4.frozen? ⟨w.heap.size, 4, none⟩ = false := free_at c0
  have x1 : W4.cell? ⟨vb, 1, none⟩ = some (.int .i64 (p : Int)) := cell_at dv rfl
  have hk2 : ∀ W, (Instr.slice 29 (.slice qs S.length ks) none (some (.int .i64 (p : Int))) none).run Tryd.prog W = .ok (.slice qs p ks) W := fun W => run_take E64 W qs S.length ks p (by omega) (by assumption)
  have HC0 := Lib.hid c0; have HD1 := Lib.hid d1; have HDV := Lib.hid dv
  have HP4 := Lib.hid p4; have HF4' := Lib.hid f4; have HX1 := Lib.hid x1
  have HS4 := Lib.hid hs4
  have hs5 : W3.heap.size ≤ W4.heap.size := by omega
  clear hs4 c0 d1 dv hne C0' C1' HX3 HO3 HF3 HH3 HV m0 m1 m2 m3 m4 m5 m6 m7 m8 m9 mf hk1 v0 v1 v2 ht4
  refine wp_region_noPanic ?_
  refine wp_region_last 10 (S := (fun w' => w'.cell? ⟨w.heap.size, 4, none⟩ = some (.slice qs S.length ks) ∧ w'.frozen? ⟨w.heap.size, 4, none⟩ = false ∧ w'.cell? ⟨vb, 1, none⟩ = some (.int .i64 (p : Int)))) (by kernel_rfl) (by kernel_rfl) _ rfl ?_ (fun hHeld => ?_)
  · (first | exact keep3x HP4.out HF4'.out HX1.out (Ext.drew _) | exact keep3x HP4.out HF4'.out HX1.out (Ext.trans (Ext.alloc _ _) (Ext.drew _)) | exact hS1)
  simp only [List.take_succ_cons, List.take_zero]
  refine wpAnyH_take (i := 0) (v := ?v1) rfl (by kernel_rfl) (by kernel_rfl) (by kernel_rfl) (fun _ _ _ h => h) (Or.inl ⟨by rfl, ?y1⟩) (by assumption) ?r1
  case y1 => intro w hSw; (try dsimp only at hSw); go_simp; (try with_reducible rfl)
  (try simp only [Act.put, List.setIfInBounds_toArray, List.set_cons_zero, List.set_cons_succ, List.getElem_toArray, List.getElem_cons_zero, List.getElem_cons_succ])
  refine wpAnyH_take (i := 1) (v := ?v2) rfl (by kernel_rfl) (by kernel_rfl) (by kernel_rfl) (fun _ _ _ h => h) (Or.inl ⟨by rfl, ?y2⟩) (by assumption) ?r2
  case y2 => intro w hSw; (try dsimp only at hSw); go_simp; (try with_reducible rfl)
  (try simp only [Act.put, List.setIfInBounds_toArray, List.set_cons_zero, List.set_cons_succ, List.getElem_toArray, List.getElem_cons_zero, List.getElem_cons_succ])
  refine wpAnyH_take (i := 2) (v := ?v3) rfl (by kernel_rfl) (by kernel_rfl) (by kernel_rfl) (fun _ _ _ h => h) (Or.inl ⟨by rfl, ?y3⟩) (by assumption) ?r3
  case y3 => intro w hSw; (try dsimp only at hSw); go_simp; (try with_reducible rfl)
  (try simp only [Act.put, List.setIfInBounds_toArray, List.set_cons_zero, List.set_cons_succ, List.getElem_toArray, List.getElem_cons_zero, List.getElem_cons_succ])
  refine wpAnyH_take (i := 3) (v := ?v4) rfl (by kernel_rfl) (by kernel_rfl) (by kernel_rfl) (fun _ _ _ h => h) (Or.inl ⟨by rfl, ?y4⟩) (by assumption) ?r4
  case y4 => intro w hSw; (try dsimp only at hSw); go_simp; (try with_reducible rfl)
  (try simp only [Act.put, List.setIfInBounds_toArray, List.set_cons_zero, List.set_cons_succ, List.getElem_toArray, List.getElem_cons_zero, List.getElem_cons_succ])
  refine wpAnyH_take (i := 4) (v := ?v5) rfl (by kernel_rfl) (by kernel_rfl) (by kernel_rfl) (fun _ _ _ h => h) (Or.inl ⟨by rfl, ?y5⟩) (by assumption) ?r5
  case y5 => intro w hSw; (try dsimp only at hSw); go_simp; (try with_reducible rfl)
  (try simp only [Act.put, List.setIfInBounds_toArray, List.set_cons_zero, List.set_cons_succ, List.getElem_toArray, List.getElem_cons_zero, List.getElem_cons_succ])
  refine wpAnyH_take (i := 5) (v := ?v6) rfl (by kernel_rfl) (by kernel_rfl) (by kernel_rfl) (fun _ _ _ h => h) (Or.inl ⟨by rfl, ?y6⟩) (by assumption) ?r6
  case y6 => intro w hSw; (try dsimp only at hSw); go_simp; (try with_reducible rfl)
  (try simp only [Act.put, List.setIfInBounds_toArray, List.set_cons_zero, List.set_cons_succ, List.getElem_toArray, List.getElem_cons_zero, List.getElem_cons_succ])
  refine wpAnyH_ready (rs := [6]) (by kernel_rfl) (by simp) ?_
  refine AllReadyH.cons rfl (fun K hK => ?_) AllReadyH.nil
  go_simp
  refine (wordInt_is _ _).mono ?_
  rintro e' w' ⟨rfl, rfl⟩
  refine hK.out _ _ ?s7 (fun hHeld => ?k7)
  case s7 => ((try dsimp only); (first | exact keep3x HP4.out HF4'.out HX1.out (Ext.drew _) | exact keep3x HP4.out HF4'.out HX1.out (Ext.trans (Ext.alloc _ _) (Ext.drew _)) | exact hS1))
  clear hK K
  (try simp only [Act.put, List.setIfInBounds_toArray, List.set_cons_zero, List.set_cons_succ, List.getElem_toArray, List.getElem_cons_zero, List.getElem_cons_succ])
  refine wpAnyH_ready (rs := [7]) (by kernel_rfl) (by simp) ?_
  refine AllReadyH.cons rfl (fun K hK => ?_) AllReadyH.nil
  go_simp
  refine hK.out _ _ ?s8 (fun hHeld => ?k8)
  case s8 => ((try dsimp only); (first | exact keep3x HP4.out HF4'.out HX1.out (Ext.drew _) | exact keep3x HP4.out HF4'.out HX1.out (Ext.trans (Ext.alloc _ _) (Ext.drew _)) | exact hS1))
  clear hK K
  (try simp only [Act.put, List.setIfInBounds_toArray, List.set_cons_zero, List.set_cons_succ, List.getElem_toArray, List.getElem_cons_zero, List.getElem_cons_succ])
  refine wpAnyH_ready (rs := [8]) (by kernel_rfl) (by simp) ?_
  refine AllReadyH.cons rfl (fun K hK => ?_) AllReadyH.nil
  have e1 : Ext W4 (W4.alloc (.cells #[.int .u64 (intW code)] 32)).drew := Ext.trans (Ext.alloc _ _) (Ext.drew _)
  refine step_append_rows E64 (by rfl) _ _ (by rfl) (w.heap.size + 1 + 1) (.slice qs p ks) (.slice (some ⟨W4.heap.size, 0, none⟩) 1 1) ((S.map wordC).take p) [[.int .u64 (intW code)]] (by rfl) (HO4.out.ext e1) (by rfl) (rows_of_block (cs := #[.int .u64 (intW code)]) (heap_alloc_new W4 _) rfl (by intro u hu; simp at hu; subst hu; rfl)) (by simp; unfold maxLen; omega) (by simp; omega) (by have := e1.size; omega) ?_
  intro v5 w5 ho5 hg5 hb5 hn5
  have hg : W4.grownBy w5 (Value.slice qs p ks).ownBlock := (grown_of_ext e1 _).trans hg5
  have hrn : (Value.slice qs p ks).ownBlock ≠ some w.heap.size := fun e => by have := (HN.out _ e).1; omega
  have hrv : (Value.slice qs p ks).ownBlock ≠ some vb := fun e => by have := (HN.out _ e).2; omega
  have hS1 : w5.cell? ⟨w.heap.size, 4, none⟩ = some (.slice qs S.length ks) ∧ w5.frozen? ⟨w.heap.size, 4, none⟩ = false ∧ w5.cell? ⟨vb, 1, none⟩ = some (.int .i64 (p : Int)) :=
    ⟨hg.cell HP4.out (Ne.symm hrn), (World.frozen?_of_block (hg.block w.heap.size (by omega) (Ne.symm hrn))).trans HF4'.out, hg.cell HX1.out (Ne.symm hrv)⟩
  refine hK.out _ _ ?s9 (fun hHeld => ?k9)
  case s9 => ((try dsimp only); (first | exact keep3x HP4.out HF4'.out HX1.out (Ext.drew _) | exact keep3x HP4.out HF4'.out HX1.out (Ext.trans (Ext.alloc _ _) (Ext.drew _)) | exact hS1))
  clear hK K
  (try simp only [Act.put, List.setIfInBounds_toArray, List.set_cons_zero, List.set_cons_succ, List.getElem_toArray, List.getElem_cons_zero, List.getElem_cons_succ])
  refine wpAnyH_take (i := 9) (v := ?v10) rfl (by kernel_rfl) (by kernel_rfl) (by kernel_rfl) (fun _ _ _ h => h) (Or.inl ⟨by rfl, ?y10⟩) (by assumption) ?r10
  case y10 => intro w hSw; (try dsimp only at hSw); go_simp; (try with_reducible rfl)
  (try simp only [Act.put, List.setIfInBounds_toArray, List.set_cons_zero, List.set_cons_succ, List.getElem_toArray, List.getElem_cons_zero, List.getElem_cons_succ])
  refine wpAnyH_done (by kernel_rfl) ?_ _
  show wpList _ _ _ _ _ _
  have c0 := grown_block hg HC0.out hrn
  have d1 := grown_block hg HD1.out (fun e => by have := (HN.out _ e).1; omega)
  have dv := grown_block hg HDV.out hrv
  obtain ⟨v0, v1, v2⟩ := cells3 dv
  have hF5 := HF4.out.grown hg (fun b hb e => by have := (HN.out _ e).2; have := (HF4.out.own b hb).1; omega)
  have hH5 := HH4.out.grown hg (fun b hb e => by have := (HN.out _ e).2; have := (HH4.out.own b hb).1; omega)
  have hx5 : Ext w w5 := Below.grown HX4.out hg HX4.out.size (fun b hb => by have := (HN.out b hb).1; omega)
  have hnb : ∀ b, v5.ownBlock = some b → b < B1 ∨ W4.heap.size ≤ b := fun b hb => by
    rcases hb5 with h | h
    · rw [h] at hb; exact .inl (HN.out b hb).2
    · rw [h] at hb; have := Option.some.inj hb; have h6 := e1.size; omega
  obtain ⟨q5, k5, rfl, _, _⟩ := ho5.len
  obtain ⟨m4, mf4, _⟩ := hS1
  have hsz5 := hg.size
  have C0' := Lib.hid c0; have D1 := Lib.hid d1; have HX5 := Lib.hid hx5; have HO5 := Lib.hid ho5; have HF5 := Lib.hid hF5; have HH5 := Lib.hid hH5; have HNB := Lib.hid hnb
  clear c0 d1 dv hx5 ho5 hF5 hH5 hnb hg hg5 hb5 hn5 hHeld e1 HC0 HD1 HDV HO4 HF4 HH4 HX4 HP4 HF4' HX1 hk2
  go_wp2
  refine NoPanic.normal ?_
  go_upto_region 12 with fail
  refine wp_fill1 C0'.out fun W6 c0 ht6 hs6 => ?_
  have d1 := (ht6.block (w.heap.size + 1) (by omega) (by simp)).trans D1.out
  have hF6 := (HF5.out.take (k := j + 1) (by omega)).turn ht6 (fun b hb => by have := (HF5.out.own b (own_any hb)).1; simp; omega)
  have HH6 := Lib.hid (HH5.out.turn ht6 (fun b hb => by have := (HH5.out.own b hb).1; simp; omega))
  have HO6 := Lib.hid (HO5.out.turn ht6 (fun b hb => by have := (HO5.out.own b hb).1; simp; omega))
  have HX6 := Lib.hid (show Ext w W6 from (Turn.below (bs := [w.heap.size]) (Turn.trans (Turn.of_ext HX5.out) ht6) (Nat.le_refl _) (by simp)))
  have hz := HZ.out
  have x0 : W6.cell? ⟨vb, 0, none⟩ = some (.int .i64 ((j : Int) + 1)) := by rw [World.cell?_of_block (w := w5) (ht6.block vb (by omega) (by simp; omega))]; exact v0
  have x2 : W6.cell? ⟨vb, 2, none⟩ = some (.int .i64 pc) := by rw [World.cell?_of_block (w := w5) (ht6.block vb (by omega) (by simp; omega))]; exact v2
  have hfj : (F.take (j + 1))[j]? = some fc := by rw [List.getElem?_take_of_lt (by omega)]; exact HJ.out
  have hfl : fc.length = 4 := (HF5.out.1 fc (List.mem_of_getElem? HJ.out)).1
  obtain ⟨gf, rfl, hgf, y1, yf⟩ := hF6.cell (i := j) (f := 1) hfj (List.getElem?_eq_getElem (by omega))
  have HF6 := Lib.hid hF6
  obtain ⟨m0, m1, m2, m3, m4', m5, m6, m7, m8, m9⟩ := cells10 c0
  have mf : ∀ i, W6.frozen? ⟨w.heap.size, i, none⟩ = false := fun i => free_at c0
  obtain ⟨z0, z1, z2, z3, z4, z5, z6, z7, z8, z9⟩ := cells10 d1
  have zf : ∀ i, W6.frozen? ⟨w.heap.size + 1, i, none⟩ = false := fun i => free_at d1
  generalize fc[1]'(by omega) = fc1 at *
  have n1 : ¬ gf = w.heap.size := by omega
  have n2 : ¬ gf = w.heap.size + 1 := by omega
  have n3 : ¬ w.heap.size = gf := by omega
  have n4 : ¬ w.heap.size + 1 = gf := by omega
  have n5 : ¬ vb = gf := by have := HB2.out gf rfl; omega
  have hk3 : ∀ W, (Instr.slice 31 (.slice (some ⟨gh, 0, none⟩) (H0.length + 1) kh) none (some (.int .i64 (H0.length : Int))) none).run Tryd.prog W = .ok (.slice (some ⟨gh, 0, none⟩) H0.length kh) W := fun W => run_take EHd W (some ⟨gh, 0, none⟩) (H0.length + 1) kh H0.length (by omega) (by assumption)
  have hvs : (S.map wordC).take p ++ [[Value.int .u64 (intW code)]] = (S.take p ++ [intW code]).map wordC := by simp [wordC]
  have hvl : ((S.map wordC).take p ++ [[Value.int .u64 (intW code)]]).length = p + 1 := by simp; omega
  have HO7 := Lib.hid (show OwnP W6 (w.heap.size + 1 + 1) 32 (.slice q5 (p + 1) k5) 1 ((S.take p ++ [intW code]).map wordC) by rw [← hvs, ← hvl]; exact HO6.out)
  have hgf2 := HB2.out gf rfl
  have hnb6 : ∀ b, (Value.slice q5 (p + 1) k5).ownBlock = some b → w.heap.size + 1 + 1 ≤ b ∧ b ≠ gf := fun b hb => ⟨(HO7.out.own b hb).1, fun e => by rcases HNB.out b (own_any hb) with h | h <;> omega⟩
  have HNB6 := Lib.hid hnb6
  have HFJ := Lib.hid hfj
  clear hvs hvl hnb6 HO6 hz c0 d1 hF6 hfj hfl v0 v1 v2 m4 mf4 ht6
  go_wp2_with fail
  have ht7 := HH6.out.take (k := H0.length) (by simp)
  rw [List.take_append_of_le_length (Nat.le_refl _), List.take_length] at ht7
  refine bodyPost_ret (v := machV a b c d (.slice q5 (p + 1) k5) (.slice (some ⟨gf, 0, none⟩) (j + 1) kf) (.slice (some ⟨gh, 0, none⟩) H0.length kh) st r co) (by simp [results, Tryd.results14, go_sem, z0, z1, z2, z3, z4, z5, z6, z7, z8, z9, machV]) rfl ?_
  have m0 : w.heap.size ≤ w.heap.size := Nat.le_refl _
  have m1 : w.heap.size ≤ w.heap.size + 1 := by omega
  have mg : w.heap.size ≤ gf := by omega
  refine ⟨_, _, _, rfl, (HO7.out.turn (bs := [gf, w.heap.size, w.heap.size + 1]) ?_ (fun b hb => by have := HNB6.out b hb; simp; omega)).mono (by omega), ((HF6.out.store (u := .int .i64 pc) HFJ.out (by omega) rfl).turn (bs := [w.heap.size, w.heap.size + 1]) ?_ (fun b hb => by simp [Value.ownBlock] at hb; simp; omega)).mono (by omega), (ht7.turn (bs := [gf, w.heap.size, w.heap.size + 1]) ?_ (fun b hb => by simp [Value.ownBlock] at hb; simp; omega)).mono (by omega), ?_⟩
  · iterate 12 refine Turn.setCell ?_ (.inl (by simp)) _
    exact Turn.refl _ _
  · iterate 11 refine Turn.setCell ?_ (.inl (by simp)) _
    exact Turn.refl _ _
  · iterate 12 refine Turn.setCell ?_ (.inl (by simp)) _
    exact Turn.refl _ _
  · iterate 10 refine Below.setCell ?_ m1 _
    refine Below.setCell ?_ m0 _
    refine Below.setCell ?_ mg _
    exact HX6.out
end Go.Proofs.YtgiopklnielglaaDoor
/- frame.Roots. -/
namespace Go.Proofs.YtgiopklnielglaaDoor
open Go.RowKit
set_option maxHeartbeats 4000000
set_option maxRecDepth 100000
/-- a frame: its function, its next instruction, its base, its closure -/
structure Fr where
  fn : Int
  pc : Int
  base : Int
  self : Int
def frC (x : Fr) : List Value := [.int .i64 x.fn, .int .i64 x.pc, .int .i64 x.base, .int .u64 x.self]
def selfs (F : List Fr) : List Int := F.map Fr.self
theorem selfs_take {F : List Fr} {k : Nat} {x : Fr} (h : F[k]? = some x) : selfs (F.take (k + 1)) = selfs (F.take k) ++ [x.self] := by
  have hk : k < F.length := (List.getElem?_eq_some_iff.1 h).1
  have hx : F[k] = x := (List.getElem?_eq_some_iff.1 h).2
  unfold selfs
  rw [List.take_succ_eq_append_getElem hk, List.map_append, hx]
  rfl
def RootsDone (w : World) (L : List Int) (e : Ending) (w' : World) : Prop := ∃ v, e = .returned v ∧ OwnP w' w.heap.size 32 v 1 (L.map wordC) ∧ Ext w w'
theorem roots_step {w' : World} {L : List Int} {x : Int} {B : Nat} {v' : Value} (h : OwnP w' B 32 v' 1 (L.map wordC ++ [[Value.int .u64 x]])) : OwnP w' B 32 v' 1 ((L ++ [x]).map wordC) := by
  have e : L.map wordC ++ [[Value.int .u64 x]] = (L ++ [x]).map wordC := by simp [wordC]
  rw [← e]; exact h
theorem roots_is {w : World} {s f h : Value} {S : List Int} {F : List Fr} (hs : RowsP w s 1 (S.map wordC)) (hf : RowsP w f 4 (F.map frC)) (lS : S.length ≤ 1000000) (lF : F.length ≤ 1000000) (a b c d st r co : Int) :
    Calls Tryd.prog 7 #[machV a b c d s f h st r co] w (RootsDone w (S ++ selfs F ++ [r])) := by
  obtain ⟨qf, kf, rfl, hkf, hkm, hcf⟩ := hf.at
  rw [List.length_map] at hkf ⊢
  have HS := Lib.hid hs; have HF := Lib.hid hcf
  clear hs hf hcf
  unfold machV
  go_enter Tryd.func7, Tryd.ntmps7
  go_wp2_with fail
  refine at_alloc1 fun W hE hS b0 => ?_
  refine (clone_w (HS.out.ext hE) (by simpa using lS)).mono ?_
  rintro e w1 ⟨v1, rfl, ho1, hx1⟩
  have c0 := (Below.block hx1 w.heap.size (by omega)).trans b0
  have hsz := hx1.size
  have HX := Lib.hid (hE.trans hx1)
  rw [hS] at ho1 hsz
  have HO := Lib.hid ho1
  clear ho1 hx1 hE b0 hS
  obtain ⟨m0, m1, m2, m3, m4, m5, m6, m7, m8, m9⟩ := cells10 c0
  have C0 := Lib.hid c0
  clear c0
  go_wp2_with fail
  go_loopw [3, 12] (fun v i wr => ∃ k : Nat, k ≤ F.length ∧ i = .int .i64 k ∧ OwnP wr (w.heap.size + 1) 32 v 1 ((S ++ selfs (F.take k)).map wordC) ∧ Below (w.heap.size + 1) w1 wr) (fun _ i _ => F.length - (Go.RowKit.intOf i).toNat)
  case atStart => exact ⟨0, by omega, rfl, by simpa [selfs] using HO.out, Below.refl _ _⟩
  case round =>
    obtain ⟨k, hk, rfl, ho, hb⟩ := hrel
    have hll : (S ++ selfs (F.take k)).length ≤ 2000000 := by simp [selfs]; omega
    have HL := Lib.hid (rfl : S ++ selfs (F.take k) = S ++ selfs (F.take k))
    generalize hL : S ++ selfs (F.take k) = L at ho hll HL
    clear HL
    have HL := Lib.hid hL
    clear hL
    obtain ⟨qv, kv, hv, _, _⟩ := ho.len
    rw [List.length_map] at hv
    subst hv
    have c0 : wr.heap[w.heap.size]? = _ := (Below.block hb w.heap.size (by omega)).trans C0.out
    have hbs := Below.size hb
    have HO' := Lib.hid ho
    have HB := Lib.hid hb
    clear ho hb m0 m1 m2 m3 m4 m5 m6 m7 m8 m9
    obtain ⟨m0, m1, m2, m3, m4, m5, m6, m7, m8, m9⟩ := cells10 c0
    clear c0
    by_cases hlt : k < F.length
    · have hx := List.getElem?_eq_getElem hlt
      generalize F[k] = x at hx
      obtain ⟨bf, off, rfl, hcell⟩ := HF.out k (frC x) (by rw [List.getElem?_map, hx]; rfl)
      have HT := Lib.hid (selfs_take hx)
      have hx2 := HX.out.go HB.out (by omega)
      have y0 := hx2.cell (hcell 0 _ rfl); have y1 := hx2.cell (hcell 1 _ rfl); have y2 := hx2.cell (hcell 2 _ rfl); have y3 := hx2.cell (hcell 3 _ rfl)
      rw [Nat.add_zero] at y0
      obtain ⟨fn, pc, bs, self⟩ := x
      dsimp only at y0 y1 y2 y3
      clear hcell hx hx2
      have i1 : (k : Int) < (F.length : Int) := by omega
      go_wp2_with (refine wpList_append_rows E64 (by rfl) _ _ (by rfl) (w.heap.size + 1) (.slice qv L.length kv) (.slice (some ⟨wr.heap.size + 1, 0, none⟩) 1 1) (L.map wordC) [[.int .u64 self]] (by rfl) (HO'.out.ext (Ext.trans (Ext.alloc _ _) (Ext.alloc _ _))) (by rfl) (rows_of_block (cs := #[.int .u64 self]) (new_block (by simp)) rfl (by intro u hu; simp at hu; subst hu; rfl)) (by simp; unfold maxLen; omega) (by simp; omega) (by simp; omega) ?_)
      intro v2 w2 ho2 hg2 _ _
      have hb2 : Below (w.heap.size + 1) w1 w2 := Below.grown (Below.alloc (Below.alloc HB.out (by omega) _) (by simp; omega) _) hg2 (by simp; omega) (fun b hb => (HO'.out.own b hb).1)
      have HO2 := Lib.hid (roots_step ho2)
      have HB2 := Lib.hid hb2
      clear ho2 hg2 hb2
      go_wp2
      refine ⟨⟨k + 1, by omega, by go_num, ?_, HB2.out⟩, by simp [Go.RowKit.intOf]; omega⟩
      rw [HT.out, ← List.append_assoc, HL.out]
      exact HO2.out
    · obtain rfl : k = F.length := by omega
      rw [List.take_length] at HL
      go_wp2_with (refine wpList_append_rows E64 (by rfl) _ _ (by rfl) (w.heap.size + 1) (.slice qv L.length kv) (.slice (some ⟨wr.heap.size, 0, none⟩) 1 1) (L.map wordC) [[.int .u64 r]] (by rfl) (HO'.out.ext (Ext.alloc _ _)) (by rfl) (rows_of_block (cs := #[.int .u64 r]) (heap_alloc_new _ _) rfl (by intro u hu; simp at hu; subst hu; rfl)) (by simp; unfold maxLen; omega) (by simp; omega) (by simp; omega) ?_)
      intro v2 w2 ho2 hg2 _ _
      have hb2 : Below (w.heap.size + 1) w1 w2 := Below.grown (Below.alloc HB.out (by omega) _) hg2 (by simp; omega) (fun b hb => (HO'.out.own b hb).1)
      have HO2 := Lib.hid (roots_step ho2)
      have HB2 := Lib.hid hb2
      clear ho2 hg2 hb2
      go_wp2
      go_ret
      rw [HL.out]
      exact ⟨v2, rfl, HO2.out.mono (by omega), HX.out.go HB2.out (by omega)⟩
end Go.Proofs.YtgiopklnielglaaDoor
/- keep.Machine: a machine is as itself. -/
namespace Go.Proofs.YtgiopklnielglaaDoor
open Go.RowKit
set_option maxHeartbeats 4000000
set_option maxRecDepth 100000
/-- a handler -/
structure Hd where
  frame : Int
  height : Int
  pc : Int
def hdC (x : Hd) : List Value := [.int .i64 x.frame, .int .i64 x.height, .int .i64 x.pc]
theorem machine_true {w : World} {s f h s' f' h' : Value} {S : List Int} {F : List Fr} {H : List Hd} (hs : RowsP w s 1 (S.map wordC)) (hf : RowsP w f 4 (F.map frC)) (hh : RowsP w h 3 (H.map hdC))
    (hs' : RowsP w s' 1 (S.map wordC)) (hf' : RowsP w f' 4 (F.map frC)) (hh' : RowsP w h' 3 (H.map hdC)) (a b c d st r co : Int) :
    Calls Tryd.prog 9 #[machV a b c d s f h st r co, machV a b c d s' f' h' st r co] w fun e w' => e = .returned (.bool true) ∧ Ext w w' := by
  have HK := Lib.hid (fun W (e : Ext w W) => (keep_words (WordSl.of_rows (hs.ext e)) (WordSl.of_rows (hs'.ext e))).mono (R' := fun e w' => e = .returned (.bool true) ∧ Ext W w') (fun e' w' h => ⟨by rw [h.1, decide_eq_true rfl], h.2⟩))
  obtain ⟨qs, ns, cs, rfl⟩ : ∃ q n c, s = .slice q n c := by obtain ⟨q, c, hv, -⟩ := hs.at; exact ⟨q, _, c, hv⟩
  obtain ⟨qs', ns', cs', rfl⟩ : ∃ q n c, s' = .slice q n c := by obtain ⟨q, c, hv, -⟩ := hs'.at; exact ⟨q, _, c, hv⟩
  obtain ⟨qf, cf, rfl, hf1, hf2, hcf⟩ := hf.at
  obtain ⟨qf', cf', rfl, hf1', hf2', hcf'⟩ := hf'.at
  obtain ⟨qh, ch, rfl, hh1, hh2, hch⟩ := hh.at
  obtain ⟨qh', ch', rfl, hh1', hh2', hch'⟩ := hh'.at
  rw [List.length_map] at hf1 hf1' hh1 hh1' ⊢
  rw [List.length_map]
  have HF := Lib.hid hcf; have HF' := Lib.hid hcf'; have HH := Lib.hid hch; have HH' := Lib.hid hch'
  clear hs hs' hf hf' hh hh' hcf hcf' hch hch'
  unfold maxLen at hf2 hf2' hh2 hh2'
  unfold machV
  go_enter Tryd.func9, Tryd.ntmps9
  go_upto_region 1 with fail
  refine wp_alloc2 fun W hE hS b0 b1 => ?_
  obtain ⟨m0, m1, m2, m3, m4, m5, m6, m7, m8, m9⟩ := cells10 b0
  obtain ⟨z0, z1, z2, z3, z4, z5, z6, z7, z8, z9⟩ := cells10 b1
  have HX := Lib.hid hE
  clear hE hS b0 b1
  generalize w.heap.size = g at *
  go_wp2_with fail
  refine (HK.out _ HX.out).mono ?_
  rintro e w1 ⟨rfl, hx1⟩
  have HX1 := Lib.hid (HX.out.trans hx1)
  replace m0 := hx1.cell m0; replace m1 := hx1.cell m1; replace m2 := hx1.cell m2; replace m3 := hx1.cell m3; replace m4 := hx1.cell m4; replace m5 := hx1.cell m5; replace m6 := hx1.cell m6; replace m7 := hx1.cell m7; replace m8 := hx1.cell m8; replace m9 := hx1.cell m9
  replace z0 := hx1.cell z0; replace z1 := hx1.cell z1; replace z2 := hx1.cell z2; replace z3 := hx1.cell z3; replace z4 := hx1.cell z4; replace z5 := hx1.cell z5; replace z6 := hx1.cell z6; replace z7 := hx1.cell z7; replace z8 := hx1.cell z8; replace z9 := hx1.cell z9
  clear hx1 HX HK
  go_wp2_with fail
  have G5 := Lib.hid m5; have G6 := Lib.hid m6; have K5 := Lib.hid z5; have K6 := Lib.hid z6
  clear m0 m1 m2 m3 m4 m5 m6 m7 m8 m9 z0 z1 z2 z3 z4 z5 z6 z7 z8 z9
  go_loopw [5] (fun i wr => ∃ k : Nat, k ≤ F.length ∧ i = .int .i64 k ∧ Ext w1 wr) (fun i _ => F.length - (Go.RowKit.intOf i).toNat)
  case atStart => exact ⟨0, by omega, rfl, Ext.refl _⟩
  case round =>
    obtain ⟨k, hk, rfl, hx⟩ := hrel
    have m5 := hx.cell G5.out
    have z5 := hx.cell K5.out
    have HX := Lib.hid hx
    clear hx
    by_cases hlt : k < F.length
    · have hxk := List.getElem?_eq_getElem hlt
      generalize F[k] = x at hxk
      obtain ⟨b', off, rfl, hcell⟩ := HF.out k (frC x) (by rw [List.getElem?_map, hxk]; rfl)
      obtain ⟨b'', off', rfl, hcell'⟩ := HF'.out k (frC x) (by rw [List.getElem?_map, hxk]; rfl)
      have hx2 := HX1.out.trans HX.out
      have y0 := hx2.cell (hcell 0 _ rfl); have y1 := hx2.cell (hcell 1 _ rfl); have y2 := hx2.cell (hcell 2 _ rfl); have y3 := hx2.cell (hcell 3 _ rfl)
      have u0 := hx2.cell (hcell' 0 _ rfl); have u1 := hx2.cell (hcell' 1 _ rfl); have u2 := hx2.cell (hcell' 2 _ rfl); have u3 := hx2.cell (hcell' 3 _ rfl)
      rw [Nat.add_zero] at y0 u0
      have i1 : (k : Int) < (F.length : Int) := by omega
      clear hcell hcell' hxk hx2
      obtain ⟨xk, xt, xn, xs⟩ := x
      dsimp only at y0 y1 y2 y3 u0 u1 u2 u3
      go_wp2_with fail
      go_quiet (fail)
      go_wp2_with fail
      exact ⟨⟨k + 1, by omega, by go_num, HX.out.trans (Ext.drewN _ _)⟩, by simp [Go.RowKit.intOf]; omega⟩
    · obtain rfl : k = F.length := by omega
      go_wp2_with fail
      have m6 := HX.out.cell G6.out
      have z6 := HX.out.cell K6.out
      clear m5 z5 HF HF'
      have G6' := Lib.hid m6; have K6' := Lib.hid z6
      have HX2 := Lib.hid (HX1.out.trans HX.out)
      clear m6 z6 HX HX1
      generalize hwo : wr = wo at *
      clear hwo
      go_loopw [6] (fun i wr => ∃ k : Nat, k ≤ H.length ∧ i = .int .i64 k ∧ Ext wo wr) (fun i _ => H.length - (Go.RowKit.intOf i).toNat)
      case atStart => exact ⟨0, by omega, rfl, Ext.refl _⟩
      case round =>
        obtain ⟨k, hk, rfl, hx⟩ := hrel
        have m6 := hx.cell G6'.out
        have z6 := hx.cell K6'.out
        have HX := Lib.hid hx
        clear hx
        by_cases hlt : k < H.length
        · have hxk := List.getElem?_eq_getElem hlt
          generalize H[k] = x at hxk
          obtain ⟨b', off, rfl, hcell⟩ := HH.out k (hdC x) (by rw [List.getElem?_map, hxk]; rfl)
          obtain ⟨b'', off', rfl, hcell'⟩ := HH'.out k (hdC x) (by rw [List.getElem?_map, hxk]; rfl)
          have hx2 := HX2.out.trans HX.out
          have y0 := hx2.cell (hcell 0 _ rfl); have y1 := hx2.cell (hcell 1 _ rfl); have y2 := hx2.cell (hcell 2 _ rfl)
          have u0 := hx2.cell (hcell' 0 _ rfl); have u1 := hx2.cell (hcell' 1 _ rfl); have u2 := hx2.cell (hcell' 2 _ rfl)
          rw [Nat.add_zero] at y0 u0
          have i1 : (k : Int) < (H.length : Int) := by omega
          clear hcell hcell' hxk hx2
          obtain ⟨xk, xt, xn⟩ := x
          dsimp only at y0 y1 y2 u0 u1 u2
          go_wp2_with fail
          go_quiet (fail)
          go_wp2_with fail
          exact ⟨⟨k + 1, by omega, by go_num, HX.out.trans (Ext.drewN _ _)⟩, by simp [Go.RowKit.intOf]; omega⟩
        · obtain rfl : k = H.length := by omega
          go_wp2_with fail
          go_ret
          exact ⟨rfl, HX2.out.trans HX.out⟩
end Go.Proofs.YtgiopklnielglaaDoor
/- Programs, in plain Lean: which may be, as the program tells it and as the reference does. -/
namespace Go.Proofs.YtgiopklnielglaaDoor
open Go Go.RowKit
set_option maxRecDepth 100000
/-- an instruction -/
structure In1 where
  op : Int
  a : Int
  b : Int
/-- from where to where A and B may be -/
def bnd (op : Int) : Int × Int × Int × Int :=
  if op = 0 ∨ op = 21 then (-4611686018427387904, 4611686018427387903, 0, 0)
  else if op = 1 then (0, 39, 0, 0) else if op = 2 ∨ op = 3 then (0, 59, 0, 0) else if op = 4 then (0, 29, 0, 0)
  else if op = 6 then (1, 59, 0, 30) else if op = 10 ∨ op = 11 ∨ op = 33 then (0, 599, 0, 0) else if op = 19 then (0, 255, 1, 8)
  else if op = 20 then (0, 7, 0, 0) else if op = 22 then (0, 255, 0, 0) else if op = 36 then (0, 3, 0, 39) else (0, 0, 0, 0)
def inB (v lo hi : Int) : Bool := decide (lo ≤ v) && decide (v ≤ hi)
/-- as the program has it -/
def goodI (i : In1) : Bool :=
  decide (0 ≤ i.op) && decide (i.op < 38) && !(decide (i.op = 36) && decide (i.a ≠ 3) && decide (i.b ≠ 0)) && inB i.a (bnd i.op).1 (bnd i.op).2.1 && inB i.b (bnd i.op).2.2.1 (bnd i.op).2.2.2
/-- as the reference has it -/
def refI (i : In1) : Bool :=
  if i.op = 0 ∨ i.op = 21 then decide (i.b = 0) && inB i.a (-4611686018427387904) 4611686018427387903
  else if i.op = 1 then decide (i.b = 0) && inB i.a 0 39
  else if i.op = 2 ∨ i.op = 3 then decide (i.b = 0) && inB i.a 0 59
  else if i.op = 4 then decide (i.b = 0) && inB i.a 0 29
  else if i.op = 6 then inB i.a 1 59 && inB i.b 0 30
  else if i.op = 10 ∨ i.op = 11 ∨ i.op = 33 then decide (i.b = 0) && inB i.a 0 599
  else if i.op = 19 then inB i.a 0 255 && inB i.b 1 8
  else if i.op = 20 then decide (i.b = 0) && inB i.a 0 7
  else if i.op = 22 then decide (i.b = 0) && inB i.a 0 255
  else if i.op = 36 then inB i.a 0 3 && (decide (i.b = 0) || decide (i.a = 3) && inB i.b 0 39)
  else decide (0 ≤ i.op) && decide (i.op < 38) && decide (i.a = 0) && decide (i.b = 0)
theorem refI_is (i : In1) : refI i = goodI i := by
  obtain ⟨op, a, b⟩ := i
  unfold refI goodI bnd inB
  dsimp only
  by_cases h0 : op = 0 ∨ op = 21
  · simp only [if_pos h0]
    rw [Bool.eq_iff_iff]
    simp only [Bool.and_eq_true, decide_eq_true_eq, Bool.not_eq_true', Bool.and_eq_false_iff, decide_eq_false_iff_not]
    omega
  simp only [if_neg h0]
  by_cases h1 : op = 1
  · simp only [if_pos h1]
    rw [Bool.eq_iff_iff]
    simp only [Bool.and_eq_true, decide_eq_true_eq, Bool.not_eq_true', Bool.and_eq_false_iff, decide_eq_false_iff_not]
    omega
  simp only [if_neg h1]
  by_cases h2 : op = 2 ∨ op = 3
  · simp only [if_pos h2]
    rw [Bool.eq_iff_iff]
    simp only [Bool.and_eq_true, decide_eq_true_eq, Bool.not_eq_true', Bool.and_eq_false_iff, decide_eq_false_iff_not]
    omega
  simp only [if_neg h2]
  by_cases h3 : op = 4
  · simp only [if_pos h3]
    rw [Bool.eq_iff_iff]
    simp only [Bool.and_eq_true, decide_eq_true_eq, Bool.not_eq_true', Bool.and_eq_false_iff, decide_eq_false_iff_not]
    omega
  simp only [if_neg h3]
  by_cases h4 : op = 6
  · simp only [if_pos h4]
    rw [Bool.eq_iff_iff]
    simp only [Bool.and_eq_true, decide_eq_true_eq, Bool.not_eq_true', Bool.and_eq_false_iff, decide_eq_false_iff_not]
    omega
  simp only [if_neg h4]
  by_cases h5 : op = 10 ∨ op = 11 ∨ op = 33
  · simp only [if_pos h5]
    rw [Bool.eq_iff_iff]
    simp only [Bool.and_eq_true, decide_eq_true_eq, Bool.not_eq_true', Bool.and_eq_false_iff, decide_eq_false_iff_not]
    omega
  simp only [if_neg h5]
  by_cases h6 : op = 19
  · simp only [if_pos h6]
    rw [Bool.eq_iff_iff]
    simp only [Bool.and_eq_true, decide_eq_true_eq, Bool.not_eq_true', Bool.and_eq_false_iff, decide_eq_false_iff_not]
    omega
  simp only [if_neg h6]
  by_cases h7 : op = 20
  · simp only [if_pos h7]
    rw [Bool.eq_iff_iff]
    simp only [Bool.and_eq_true, decide_eq_true_eq, Bool.not_eq_true', Bool.and_eq_false_iff, decide_eq_false_iff_not]
    omega
  simp only [if_neg h7]
  by_cases h8 : op = 22
  · simp only [if_pos h8]
    rw [Bool.eq_iff_iff]
    simp only [Bool.and_eq_true, decide_eq_true_eq, Bool.not_eq_true', Bool.and_eq_false_iff, decide_eq_false_iff_not]
    omega
  simp only [if_neg h8]
  by_cases h9 : op = 36
  · simp only [if_pos h9]
    rw [Bool.eq_iff_iff]
    simp only [Bool.and_eq_true, Bool.or_eq_true, decide_eq_true_eq, Bool.not_eq_true', Bool.and_eq_false_iff, decide_eq_false_iff_not]
    omega
  simp only [if_neg h9]
  rw [Bool.eq_iff_iff]
  simp only [Bool.and_eq_true, decide_eq_true_eq, Bool.not_eq_true', Bool.and_eq_false_iff, decide_eq_false_iff_not]
  omega
/-- a form -/
structure Fo where
  kind : Int
  a : Int
  b : Int
  cons : List Int
/-- as the program has it: of so many -/
def goodFo (f : Fo) (n : Int) : Bool :=
  f.cons.all (fun c => inB c (-1) (n - 1)) && inB f.kind 1 7 && inB f.a 0 (if f.kind = 5 ∨ f.kind = 6 then n - 1 else 0) && inB f.b 0 (if f.kind = 5 then n - 1 else 0) && inB f.cons.length (if f.kind = 7 then 1 else 0) (if f.kind = 7 then 20 else 0)
/-- as the reference has it -/
def refFo (f : Fo) (n : Int) : Bool :=
  if f.kind = 1 ∨ f.kind = 2 ∨ f.kind = 3 ∨ f.kind = 4 then decide (f.a = 0) && decide (f.b = 0) && decide (f.cons.length = 0)
  else if f.kind = 5 then decide (0 ≤ f.a ∧ f.a < n) && decide (0 ≤ f.b ∧ f.b < n) && decide (f.cons.length = 0)
  else if f.kind = 6 then decide (0 ≤ f.a ∧ f.a < n) && decide (f.b = 0) && decide (f.cons.length = 0)
  else if f.kind = 7 then decide (f.a = 0) && decide (f.b = 0) && (decide (1 ≤ f.cons.length ∧ f.cons.length ≤ 20) && f.cons.all fun c => decide (-1 ≤ c) && decide (c < n))
  else false
theorem cons_nil {f : Fo} {n : Int} (h : f.cons.length = 0) : f.cons.all (fun c => inB c (-1) (n - 1)) = true := by
  rw [List.eq_nil_of_length_eq_zero h]; rfl
theorem refFo_is (f : Fo) (n : Int) : refFo f n = goodFo f n := by
  unfold refFo goodFo
  have hall : (f.cons.all fun c => decide (-1 ≤ c) && decide (c < n)) = f.cons.all (fun c => inB c (-1) (n - 1)) := by
    congr 1
    funext c
    unfold inB
    congr 1
    exact decide_eq_decide.2 (by omega)
  rw [hall]
  have hn := fun h => cons_nil (f := f) (n := n) h
  unfold inB at *
  generalize (f.cons.all fun c => decide (-1 ≤ c) && decide (c ≤ n - 1)) = A at *
  obtain ⟨kind, a, b, cons⟩ := f
  dsimp only at *
  generalize cons.length = L at *
  by_cases h1 : kind = 1 ∨ kind = 2 ∨ kind = 3 ∨ kind = 4
  · rw [if_pos h1, if_neg (by omega), if_neg (by omega), if_neg (by omega), if_neg (by omega), Bool.eq_iff_iff]
    simp only [Bool.and_eq_true, decide_eq_true_eq]
    constructor
    · rintro ⟨⟨h2, h3⟩, h4⟩
      exact ⟨⟨⟨⟨hn h4, by omega⟩, by omega⟩, by omega⟩, by omega⟩
    · rintro ⟨⟨⟨⟨_, _⟩, _⟩, _⟩, _⟩
      omega
  rw [if_neg h1]
  by_cases h5 : kind = 5
  · rw [if_pos h5, if_pos (.inl h5), if_pos h5, if_neg (by omega), if_neg (by omega), Bool.eq_iff_iff]
    simp only [Bool.and_eq_true, decide_eq_true_eq]
    constructor
    · rintro ⟨⟨h2, h3⟩, h4⟩
      exact ⟨⟨⟨⟨hn h4, by omega⟩, by omega⟩, by omega⟩, by omega⟩
    · rintro ⟨⟨⟨⟨_, _⟩, _⟩, _⟩, _⟩
      omega
  rw [if_neg h5]
  by_cases h6 : kind = 6
  · rw [if_pos h6, if_pos (.inr h6), if_neg h5, if_neg (by omega), if_neg (by omega), Bool.eq_iff_iff]
    simp only [Bool.and_eq_true, decide_eq_true_eq]
    constructor
    · rintro ⟨⟨h2, h3⟩, h4⟩
      exact ⟨⟨⟨⟨hn h4, by omega⟩, by omega⟩, by omega⟩, by omega⟩
    · rintro ⟨⟨⟨⟨_, _⟩, _⟩, _⟩, _⟩
      omega
  rw [if_neg h6]
  by_cases h7 : kind = 7
  · rw [if_pos h7, if_neg (by omega), if_neg h5, if_pos h7, if_pos h7, Bool.eq_iff_iff]
    simp only [Bool.and_eq_true, decide_eq_true_eq]
    constructor
    · rintro ⟨⟨h2, h3⟩, h4, h8⟩
      exact ⟨⟨⟨⟨h8, by omega⟩, by omega⟩, by omega⟩, by omega⟩
    · rintro ⟨⟨⟨⟨h8, _⟩, _⟩, _⟩, _⟩
      exact ⟨⟨by omega, by omega⟩, by omega, h8⟩
  rw [if_neg h7]
  symm
  rw [Bool.eq_false_iff]
  intro h
  simp only [Bool.and_eq_true, decide_eq_true_eq] at h
  omega
end Go.Proofs.YtgiopklnielglaaDoor
/- Programs, in plain Lean: which may be (functions, texts, forms). -/
namespace Go.Proofs.YtgiopklnielglaaDoor
open Go Go.RowKit
set_option maxRecDepth 100000
/-- a function -/
structure Fn where
  locals : Int
  free : Int
  code : List In1
/-- a program -/
structure Pg where
  funcs : List Fn
  strs : List ByteArray
  forms : List Fo
/-- as the program has it -/
def goodFn (f : Fn) (first : Bool) : Bool :=
  f.code.all goodI && inB f.locals (if first then 0 else 1) 60 && inB f.free 0 (if first then 0 else 30) && inB f.code.length 1 600
def goodFns : List Fn → Bool → Bool
  | [], _ => true
  | f :: F, first => goodFn f first && goodFns F false
def goodP (p : Pg) : Bool :=
  inB p.funcs.length 1 60 && decide (p.strs.length ≤ 40) && decide (p.forms.length ≤ 40) && goodFns p.funcs true && p.strs.all (fun s => decide (s.size ≤ 60)) && p.forms.all fun f => goodFo f p.forms.length
/-- as the reference has it -/
def refFn (f : Fn) (i : Nat) : Bool :=
  decide (((min i 1 : Nat) : Int) ≤ f.locals) && decide (f.locals ≤ 60) && decide (0 ≤ f.free) && decide (f.free ≤ 30) && !(decide (i = 0) && decide (f.free ≠ 0)) && decide (1 ≤ f.code.length) && decide (f.code.length ≤ 600) && f.code.all refI
def refFns : List Fn → Nat → Bool
  | [], _ => true
  | f :: F, i => refFn f i && refFns F (i + 1)
def refForms (l : List Fo) : Bool := (l.all fun f => refFo f l.length) && decide (l.length ≤ 40)
def refP (p : Pg) : Bool :=
  decide (1 ≤ p.funcs.length) && decide (p.funcs.length ≤ 60) && decide (p.strs.length ≤ 40) && refForms p.forms && p.strs.all (fun s => decide (s.size ≤ 60)) && refFns p.funcs 0
theorem refFn_is (f : Fn) (i : Nat) : refFn f i = goodFn f (decide (i = 0)) := by
  unfold refFn goodFn
  have hI : f.code.all refI = f.code.all goodI := by congr 1; funext x; exact refI_is x
  rw [hI]
  unfold inB
  generalize f.code.all goodI = A
  generalize f.code.length = L
  rw [Bool.eq_iff_iff]
  by_cases h : i = 0
  · subst h
    simp only [Bool.and_eq_true, decide_eq_true_eq, Bool.not_eq_true', Bool.and_eq_false_iff, decide_eq_false_iff_not, if_true, decide_true]
    constructor
    · rintro ⟨⟨⟨⟨⟨⟨⟨h1, h2⟩, h3⟩, h4⟩, h5⟩, h6⟩, h7⟩, h8⟩
      have h9 : f.free = 0 := by
        rcases h5 with h5 | h5
        · cases h5
        · omega
      exact ⟨⟨⟨h8, by omega⟩, by omega⟩, by omega⟩
    · rintro ⟨⟨⟨h8, h1⟩, h2⟩, h3⟩
      exact ⟨⟨⟨⟨⟨⟨⟨by omega, by omega⟩, by omega⟩, by omega⟩, .inr (by omega)⟩, by omega⟩, by omega⟩, h8⟩
  · have hm : min i 1 = 1 := by omega
    have hd : decide (i = 0) = false := decide_eq_false h
    rw [hm, hd]
    simp only [Bool.and_eq_true, decide_eq_true_eq, Bool.not_eq_true', Bool.false_and, Bool.false_eq_true, if_false]
    constructor
    · rintro ⟨⟨⟨⟨⟨⟨⟨h1, h2⟩, h3⟩, h4⟩, h5⟩, h6⟩, h7⟩, h8⟩
      exact ⟨⟨⟨h8, by omega⟩, by omega⟩, by omega⟩
    · rintro ⟨⟨⟨h8, h1⟩, h2⟩, h3⟩
      exact ⟨⟨⟨⟨⟨⟨⟨by omega, by omega⟩, by omega⟩, by omega⟩, by trivial⟩, by omega⟩, by omega⟩, h8⟩
theorem refFns_next : ∀ (F : List Fn) (i : Nat), refFns F (i + 1) = goodFns F false
  | [], _ => rfl
  | f :: F, i => by
    rw [refFns, goodFns, refFn_is, refFns_next F (i + 1), decide_eq_false (by omega)]
theorem refFns_is (F : List Fn) : refFns F 0 = goodFns F true := by
  cases F with
  | nil => rfl
  | cons f F => rw [refFns, goodFns, refFn_is, refFns_next F 0, decide_eq_true rfl]
theorem refForms_is (l : List Fo) : refForms l = ((l.all fun f => goodFo f l.length) && decide (l.length ≤ 40)) := by
  unfold refForms
  congr 1
  congr 1
  funext f
  exact refFo_is f _
/-- both tell the same programs -/
theorem refP_is (p : Pg) : refP p = goodP p := by
  unfold refP goodP
  rw [refForms_is, refFns_is]
  unfold inB
  generalize goodFns p.funcs true = A
  generalize (p.forms.all fun f => goodFo f p.forms.length) = B
  generalize (p.strs.all fun s => decide (s.size ≤ 60)) = C
  have e1 : decide ((1 : Int) ≤ (p.funcs.length : Int)) = decide (1 ≤ p.funcs.length) := decide_eq_decide.2 (by omega)
  have e2 : decide ((p.funcs.length : Int) ≤ 60) = decide (p.funcs.length ≤ 60) := decide_eq_decide.2 (by omega)
  rw [e1, e2]
  generalize decide (1 ≤ p.funcs.length) = x1
  generalize decide (p.funcs.length ≤ 60) = x2
  generalize decide (p.strs.length ≤ 40) = x3
  generalize decide (p.forms.length ≤ 40) = x4
  cases x1 <;> cases x2 <;> cases x3 <;> cases x4 <;> cases A <;> cases B <;> cases C <;> rfl
end Go.Proofs.YtgiopklnielglaaDoor
/- op.rows as it is laid: all its rows. -/
namespace Go.Proofs.YtgiopklnielglaaDoor
open Go.RowKit Go.ChangeShapes
set_option maxHeartbeats 2000000
set_option maxRecDepth 100000
/-- how many words each instruction takes, and leaves -/
def tkL : List Int := [0, 0, 0, 1, 0, 0, 0, 2, 2, 1, 0, 1, 2, 2, 2, 2, 2, 2, 2, 0, 1, 1, 1, 2, 2, 2, 3, 1, 2, 1, 2, 1, 2, 0, 0, 1, 0, 1]
def lvL : List Int := [1, 1, 1, 0, 1, 1, 1, 1, 0, 0, 0, 0, 1, 1, 1, 1, 1, 1, 1, 1, 1, 1, 1, 1, 1, 1, 1, 1, 1, 1, 1, 1, 1, 0, 0, 0, 1, 0]
def rowK (s : List UInt8) (k : Nat) : DataW Unit := rowD s (bnd k).1 (bnd k).2.1 (bnd k).2.2.1 (bnd k).2.2.2 (tkL.getD k 0) (lvL.getD k 0)
def rowW (s : List UInt8) (k : Nat) : List Value := rowC s (bnd k).1 (bnd k).2.1 (bnd k).2.2.1 (bnd k).2.2.2 (tkL.getD k 0) (lvL.getD k 0)
theorem row_at : ∀ k : Nat, k < 38 → ∃ s, rowsL[k]? = some (rowK s k)
  | 0, _ => ⟨[105, 110, 116], rfl⟩
  | 1, _ => ⟨[115, 116, 114], rfl⟩
  | 2, _ => ⟨[108, 111, 99, 97, 108], rfl⟩
  | 3, _ => ⟨[115, 101, 116], rfl⟩
  | 4, _ => ⟨[101, 110, 118], rfl⟩
  | 5, _ => ⟨[115, 101, 108, 102], rfl⟩
  | 6, _ => ⟨[99, 108, 111, 115, 101], rfl⟩
  | 7, _ => ⟨[99, 97, 108, 108], rfl⟩
  | 8, _ => ⟨[116, 97, 105, 108], rfl⟩
  | 9, _ => ⟨[114, 101, 116], rfl⟩
  | 10, _ => ⟨[106, 117, 109, 112], rfl⟩
  | 11, _ => ⟨[106, 117, 109, 112, 122], rfl⟩
  | 12, _ => ⟨[97, 100, 100], rfl⟩
  | 13, _ => ⟨[115, 117, 98], rfl⟩
  | 14, _ => ⟨[109, 117, 108], rfl⟩
  | 15, _ => ⟨[100, 105, 118], rfl⟩
  | 16, _ => ⟨[109, 111, 100], rfl⟩
  | 17, _ => ⟨[101, 113], rfl⟩
  | 18, _ => ⟨[108, 101, 115, 115], rfl⟩
  | 19, _ => ⟨[98, 108, 111, 99, 107], rfl⟩
  | 20, _ => ⟨[102, 105, 101, 108, 100], rfl⟩
  | 21, _ => ⟨[105, 115, 105, 110, 116], rfl⟩
  | 22, _ => ⟨[105, 115, 116, 97, 103], rfl⟩
  | 23, _ => ⟨[115, 116, 111, 114, 101], rfl⟩
  | 24, _ => ⟨[97, 114, 114, 97, 121], rfl⟩
  | 25, _ => ⟨[103, 101, 116], rfl⟩
  | 26, _ => ⟨[112, 117, 116], rfl⟩
  | 27, _ => ⟨[108, 101, 110], rfl⟩
  | 28, _ => ⟨[99, 97, 116], rfl⟩
  | 29, _ => ⟨[115, 105, 122, 101], rfl⟩
  | 30, _ => ⟨[98, 121, 116, 101], rfl⟩
  | 31, _ => ⟨[116, 101, 120, 116], rfl⟩
  | 32, _ => ⟨[115, 97, 109, 101], rfl⟩
  | 33, _ => ⟨[116, 114, 121], rfl⟩
  | 34, _ => ⟨[117, 110, 116, 114, 121], rfl⟩
  | 35, _ => ⟨[114, 97, 105, 115, 101], rfl⟩
  | 36, _ => ⟨[104, 111, 115, 116], rfl⟩
  | 37, _ => ⟨[112, 111, 112], rfl⟩
  | n + 38, h => absurd h (by omega)
/-- the table lies where it was laid -/
def OpLie (W : World) : Prop := ∀ k : Nat, k < 38 → ∃ s, ∀ j u, (rowW s k)[j]? = some u → W.cell? ⟨1, k * 7 + j, none⟩ = some u
theorem OpLie.ext {w w' : World} (h : OpLie w) (e : Ext w w') : OpLie w' := fun k hk => by
  obtain ⟨s, hs⟩ := h k hk
  exact ⟨s, fun j u hu => e.cell (hs j u hu)⟩
theorem opLie_of_laid {W : World} {l : List (String × DataW Unit)} (h : laidMetH Tryd.prog l W) (hh : (l.filter fun x => x.2.handleName?.isSome) = []) (h1 : ("stockpot/op.rows", Rows.laid_stockpot_op_rows) ∈ l) : OpLie W := fun k hk => by
  obtain ⟨s, hs⟩ := row_at k hk
  exact ⟨s, rows_lie h hh h1 hk hs⟩
end Go.Proofs.YtgiopklnielglaaDoor
/- op.Good: which instruction may be. -/
namespace Go.Proofs.YtgiopklnielglaaDoor
open Go.RowKit
set_option maxHeartbeats 4000000
set_option maxRecDepth 100000
theorem bin_is (v a b : Int) (w : World) : Calls Tryd.prog 67 #[.agg #[.int .i64 a, .int .i64 b], .int .i64 v] w fun e w' => e = .returned (.bool (inB v a b)) ∧ Ext w w' := by
  unfold inB
  by_cases h : a ≤ v
  · have h1 : decide (a ≤ v) = true := decide_eq_true h
    go_enter Tryd.func67, Tryd.ntmps67
    go_wp2
    go_ret
    exact ⟨by rw [h1]; rfl, Ext.alloc _ _⟩
  · have h1 : decide (a ≤ v) = false := decide_eq_false h
    rw [h1]
    go_enter Tryd.func67, Tryd.ntmps67
    go_wp2
    go_ret
    exact ⟨rfl, Ext.alloc _ _⟩
def insV (i : In1) : Value := .agg #[.int .i64 i.op, .int .i64 i.a, .int .i64 i.b]
def insC (i : In1) : List Value := [.int .i64 i.op, .int .i64 i.a, .int .i64 i.b]
theorem op_good (op a b : Int) (w : World) (hk : OpLie w) : Calls Tryd.prog 56 #[.agg #[.int .i64 op, .int .i64 a, .int .i64 b]] w fun e w' => e = .returned (.bool (goodI ⟨op, a, b⟩)) ∧ Ext w w' := by
  by_cases h0 : op < 0
  · have hg : goodI ⟨op, a, b⟩ = false := by
      unfold goodI; rw [decide_eq_false (by omega : ¬ (0 : Int) ≤ op)]; simp
    have b0 : decide (op < 0) = true := decide_eq_true h0
    rw [hg]
    clear hg h0
    go_enter Tryd.func56, Tryd.ntmps56
    go_wp2
    go_ret
    exact ⟨rfl, Ext.alloc _ _⟩
  have b0 : decide (op < 0) = false := decide_eq_false h0
  by_cases h1 : 38 ≤ op
  · have hg : goodI ⟨op, a, b⟩ = false := by
      unfold goodI; rw [decide_eq_false (by omega : ¬ op < 38)]; simp
    have b1 : decide (38 ≤ op) = true := decide_eq_true h1
    rw [hg]
    clear hg h0 h1
    go_enter Tryd.func56, Tryd.ntmps56
    go_wp2
    go_ret
    exact ⟨rfl, Ext.alloc _ _⟩
  have b1 : decide (38 ≤ op) = false := decide_eq_false h1
  obtain ⟨k, rfl⟩ := Int.eq_ofNat_of_zero_le (show 0 ≤ op by omega)
  obtain ⟨s, hs⟩ := hk k (by omega)
  have e := Ext.alloc w (.cells #[.int .i64 k, .int .i64 a, .int .i64 b] 67)
  obtain ⟨n, c0, c1, d0, d1, f0, f1, hrow, hbnd⟩ : ∃ (n : ByteArray) (c0 c1 d0 d1 f0 f1 : Int), rowW s k = [.string n, .int .i64 c0, .int .i64 c1, .int .i64 d0, .int .i64 d1, .int .i64 f0, .int .i64 f1] ∧ bnd k = (c0, c1, d0, d1) := ⟨_, _, _, _, _, _, _, rfl, rfl⟩
  rw [hrow] at hs
  have r0 := e.cell (hs 0 _ rfl); have r1 := e.cell (hs 1 _ rfl); have r2 := e.cell (hs 2 _ rfl); have r3 := e.cell (hs 3 _ rfl); have r4 := e.cell (hs 4 _ rfl); have r5 := e.cell (hs 5 _ rfl); have r6 := e.cell (hs 6 _ rfl)
  rw [Nat.add_zero] at r0
  have hgo : goodI ⟨k, a, b⟩ = (!(decide ((k : Int) = 36) && decide (a ≠ 3) && decide (b ≠ 0)) && inB a c0 c1 && inB b d0 d1) := by
    unfold goodI
    rw [hbnd, decide_eq_true (by omega : (0 : Int) ≤ k), decide_eq_true (by omega : (k : Int) < 38)]
    rfl
  have HG := Lib.hid hgo
  have i1 : (k : Int) < 38 := by omega
  have i2 : k < 38 := by omega
  clear hs hrow hbnd hgo h0 h1 hk
  by_cases q36 : (k : Int) = 36
  · have t36 : ((k : Int) == 36) = true := beq_iff_eq.2 q36
    by_cases qa : a = 3
    · have ta : (a != 3) = false := by simp [qa]
      have HR := Lib.hid (show goodI ⟨k, a, b⟩ = (inB a c0 c1 && inB b d0 d1) by rw [HG.out]; simp [qa])
      clear HG qa q36
      rw [HR.out]
      have HA := Lib.hid (fun W => bin_is a c0 c1 W)
      have HB := Lib.hid (fun W => bin_is b d0 d1 W)
      clear HR
      generalize inB a c0 c1 = A at HA ⊢
      generalize inB b d0 d1 = B at HB ⊢
      cases A with
      | false =>
        go_enter Tryd.func56, Tryd.ntmps56
        go_upto_region 4 with fail
        refine wp_alloc2 fun W hE hS v0 v1 => ?_
        have x1 : W.cell? ⟨w.heap.size, 1, none⟩ = some (.int .i64 a) := cell_at v0 rfl
        have x2 : W.cell? ⟨w.heap.size, 2, none⟩ = some (.int .i64 b) := cell_at v0 rfl
        have x0 : W.cell? ⟨w.heap.size, 0, none⟩ = some (.int .i64 k) := cell_at v0 rfl
        have y1 : W.cell? ⟨w.heap.size + 1, 1, none⟩ = some (.int .i64 c0) := cell_at v1 rfl
        have y2 : W.cell? ⟨w.heap.size + 1, 2, none⟩ = some (.int .i64 c1) := cell_at v1 rfl
        have y3 : W.cell? ⟨w.heap.size + 1, 3, none⟩ = some (.int .i64 d0) := cell_at v1 rfl
        have y4 : W.cell? ⟨w.heap.size + 1, 4, none⟩ = some (.int .i64 d1) := cell_at v1 rfl
        have HE := Lib.hid hE
        clear r0 r1 r2 r3 r4 r5 r6 e hE hS v0 v1 b0 b1
        go_wp2_with fail
        refine (HA.out _).mono ?_; rintro e' w1 ⟨rfl, hx1⟩
        replace x2 := hx1.cell x2; replace y3 := hx1.cell y3; replace y4 := hx1.cell y4
        have HX := Lib.hid (HE.out.trans hx1)
        clear hx1 HE x0 x1 y1 y2 t36 HA
        go_wp2_with fail
        go_ret
        exact ⟨rfl, HX.out⟩
      | true =>
        go_enter Tryd.func56, Tryd.ntmps56
        go_upto_region 4 with fail
        refine wp_alloc2 fun W hE hS v0 v1 => ?_
        have x1 : W.cell? ⟨w.heap.size, 1, none⟩ = some (.int .i64 a) := cell_at v0 rfl
        have x2 : W.cell? ⟨w.heap.size, 2, none⟩ = some (.int .i64 b) := cell_at v0 rfl
        have x0 : W.cell? ⟨w.heap.size, 0, none⟩ = some (.int .i64 k) := cell_at v0 rfl
        have y1 : W.cell? ⟨w.heap.size + 1, 1, none⟩ = some (.int .i64 c0) := cell_at v1 rfl
        have y2 : W.cell? ⟨w.heap.size + 1, 2, none⟩ = some (.int .i64 c1) := cell_at v1 rfl
        have y3 : W.cell? ⟨w.heap.size + 1, 3, none⟩ = some (.int .i64 d0) := cell_at v1 rfl
        have y4 : W.cell? ⟨w.heap.size + 1, 4, none⟩ = some (.int .i64 d1) := cell_at v1 rfl
        have HE := Lib.hid hE
        clear r0 r1 r2 r3 r4 r5 r6 e hE hS v0 v1 b0 b1
        go_wp2_with fail
        refine (HA.out _).mono ?_; rintro e' w1 ⟨rfl, hx1⟩
        replace x2 := hx1.cell x2; replace y3 := hx1.cell y3; replace y4 := hx1.cell y4
        have HX := Lib.hid (HE.out.trans hx1)
        clear hx1 HE x0 x1 y1 y2 t36 HA
        go_wp2_with fail
        refine (HB.out _).mono ?_; rintro e' w2 ⟨rfl, hx2⟩
        have HX2 := Lib.hid (HX.out.trans hx2)
        clear hx2
        go_wp2_with fail
        go_ret
        exact ⟨rfl, HX2.out⟩
    · have ta : (a != 3) = true := by simp [qa]
      by_cases qb : b = 0
      · have tb : (b != 0) = false := by simp [qb]
        have HR := Lib.hid (show goodI ⟨k, a, b⟩ = (inB a c0 c1 && inB b d0 d1) by rw [HG.out]; simp [qb])
        clear HG qa qb q36
        rw [HR.out]
        have HA := Lib.hid (fun W => bin_is a c0 c1 W)
        have HB := Lib.hid (fun W => bin_is b d0 d1 W)
        clear HR
        generalize inB a c0 c1 = A at HA ⊢
        generalize inB b d0 d1 = B at HB ⊢
        cases A with
        | false =>
          go_enter Tryd.func56, Tryd.ntmps56
          go_upto_region 4 with fail
          refine wp_alloc2 fun W hE hS v0 v1 => ?_
          have x1 : W.cell? ⟨w.heap.size, 1, none⟩ = some (.int .i64 a) := cell_at v0 rfl
          have x2 : W.cell? ⟨w.heap.size, 2, none⟩ = some (.int .i64 b) := cell_at v0 rfl
          have x0 : W.cell? ⟨w.heap.size, 0, none⟩ = some (.int .i64 k) := cell_at v0 rfl
          have y1 : W.cell? ⟨w.heap.size + 1, 1, none⟩ = some (.int .i64 c0) := cell_at v1 rfl
          have y2 : W.cell? ⟨w.heap.size + 1, 2, none⟩ = some (.int .i64 c1) := cell_at v1 rfl
          have y3 : W.cell? ⟨w.heap.size + 1, 3, none⟩ = some (.int .i64 d0) := cell_at v1 rfl
          have y4 : W.cell? ⟨w.heap.size + 1, 4, none⟩ = some (.int .i64 d1) := cell_at v1 rfl
          have HE := Lib.hid hE
          clear r0 r1 r2 r3 r4 r5 r6 e hE hS v0 v1 b0 b1
          go_wp2_with fail
          refine (HA.out _).mono ?_; rintro e' w1 ⟨rfl, hx1⟩
          replace x2 := hx1.cell x2; replace y3 := hx1.cell y3; replace y4 := hx1.cell y4
          have HX := Lib.hid (HE.out.trans hx1)
          clear hx1 HE x0 x1 y1 y2 t36 HA
          go_wp2_with fail
          go_ret
          exact ⟨rfl, HX.out⟩
        | true =>
          go_enter Tryd.func56, Tryd.ntmps56
          go_upto_region 4 with fail
          refine wp_alloc2 fun W hE hS v0 v1 => ?_
          have x1 : W.cell? ⟨w.heap.size, 1, none⟩ = some (.int .i64 a) := cell_at v0 rfl
          have x2 : W.cell? ⟨w.heap.size, 2, none⟩ = some (.int .i64 b) := cell_at v0 rfl
          have x0 : W.cell? ⟨w.heap.size, 0, none⟩ = some (.int .i64 k) := cell_at v0 rfl
          have y1 : W.cell? ⟨w.heap.size + 1, 1, none⟩ = some (.int .i64 c0) := cell_at v1 rfl
          have y2 : W.cell? ⟨w.heap.size + 1, 2, none⟩ = some (.int .i64 c1) := cell_at v1 rfl
          have y3 : W.cell? ⟨w.heap.size + 1, 3, none⟩ = some (.int .i64 d0) := cell_at v1 rfl
          have y4 : W.cell? ⟨w.heap.size + 1, 4, none⟩ = some (.int .i64 d1) := cell_at v1 rfl
          have HE := Lib.hid hE
          clear r0 r1 r2 r3 r4 r5 r6 e hE hS v0 v1 b0 b1
          go_wp2_with fail
          refine (HA.out _).mono ?_; rintro e' w1 ⟨rfl, hx1⟩
          replace x2 := hx1.cell x2; replace y3 := hx1.cell y3; replace y4 := hx1.cell y4
          have HX := Lib.hid (HE.out.trans hx1)
          clear hx1 HE x0 x1 y1 y2 t36 HA
          go_wp2_with fail
          refine (HB.out _).mono ?_; rintro e' w2 ⟨rfl, hx2⟩
          have HX2 := Lib.hid (HX.out.trans hx2)
          clear hx2
          go_wp2_with fail
          go_ret
          exact ⟨rfl, HX2.out⟩
      · have tb : (b != 0) = true := by simp [qb]
        have HR := Lib.hid (show goodI ⟨k, a, b⟩ = false by rw [HG.out]; simp [q36, qa, qb])
        rw [HR.out]
        clear HR HG qa qb q36
        go_enter Tryd.func56, Tryd.ntmps56
        go_wp2_with fail
        go_ret
        exact ⟨rfl, (Ext.alloc _ _).trans (Ext.alloc _ _)⟩
  · have t36 : ((k : Int) == 36) = false := beq_false_of_ne q36
    have HR := Lib.hid (show goodI ⟨k, a, b⟩ = (inB a c0 c1 && inB b d0 d1) by rw [HG.out]; simp [q36])
    clear HG q36
    rw [HR.out]
    have HA := Lib.hid (fun W => bin_is a c0 c1 W)
    have HB := Lib.hid (fun W => bin_is b d0 d1 W)
    clear HR
    generalize inB a c0 c1 = A at HA ⊢
    generalize inB b d0 d1 = B at HB ⊢
    cases A with
    | false =>
      go_enter Tryd.func56, Tryd.ntmps56
      go_upto_region 4 with fail
      refine wp_alloc2 fun W hE hS v0 v1 => ?_
      have x1 : W.cell? ⟨w.heap.size, 1, none⟩ = some (.int .i64 a) := cell_at v0 rfl
      have x2 : W.cell? ⟨w.heap.size, 2, none⟩ = some (.int .i64 b) := cell_at v0 rfl
      have x0 : W.cell? ⟨w.heap.size, 0, none⟩ = some (.int .i64 k) := cell_at v0 rfl
      have y1 : W.cell? ⟨w.heap.size + 1, 1, none⟩ = some (.int .i64 c0) := cell_at v1 rfl
      have y2 : W.cell? ⟨w.heap.size + 1, 2, none⟩ = some (.int .i64 c1) := cell_at v1 rfl
      have y3 : W.cell? ⟨w.heap.size + 1, 3, none⟩ = some (.int .i64 d0) := cell_at v1 rfl
      have y4 : W.cell? ⟨w.heap.size + 1, 4, none⟩ = some (.int .i64 d1) := cell_at v1 rfl
      have HE := Lib.hid hE
      clear r0 r1 r2 r3 r4 r5 r6 e hE hS v0 v1 b0 b1
      go_wp2_with fail
      refine (HA.out _).mono ?_; rintro e' w1 ⟨rfl, hx1⟩
      replace x2 := hx1.cell x2; replace y3 := hx1.cell y3; replace y4 := hx1.cell y4
      have HX := Lib.hid (HE.out.trans hx1)
      clear hx1 HE x0 x1 y1 y2 t36 HA
      go_wp2_with fail
      go_ret
      exact ⟨rfl, HX.out⟩
    | true =>
      go_enter Tryd.func56, Tryd.ntmps56
      go_upto_region 4 with fail
      refine wp_alloc2 fun W hE hS v0 v1 => ?_
      have x1 : W.cell? ⟨w.heap.size, 1, none⟩ = some (.int .i64 a) := cell_at v0 rfl
      have x2 : W.cell? ⟨w.heap.size, 2, none⟩ = some (.int .i64 b) := cell_at v0 rfl
      have x0 : W.cell? ⟨w.heap.size, 0, none⟩ = some (.int .i64 k) := cell_at v0 rfl
      have y1 : W.cell? ⟨w.heap.size + 1, 1, none⟩ = some (.int .i64 c0) := cell_at v1 rfl
      have y2 : W.cell? ⟨w.heap.size + 1, 2, none⟩ = some (.int .i64 c1) := cell_at v1 rfl
      have y3 : W.cell? ⟨w.heap.size + 1, 3, none⟩ = some (.int .i64 d0) := cell_at v1 rfl
      have y4 : W.cell? ⟨w.heap.size + 1, 4, none⟩ = some (.int .i64 d1) := cell_at v1 rfl
      have HE := Lib.hid hE
      clear r0 r1 r2 r3 r4 r5 r6 e hE hS v0 v1 b0 b1
      go_wp2_with fail
      refine (HA.out _).mono ?_; rintro e' w1 ⟨rfl, hx1⟩
      replace x2 := hx1.cell x2; replace y3 := hx1.cell y3; replace y4 := hx1.cell y4
      have HX := Lib.hid (HE.out.trans hx1)
      clear hx1 HE x0 x1 y1 y2 t36 HA
      go_wp2_with fail
      refine (HB.out _).mono ?_; rintro e' w2 ⟨rfl, hx2⟩
      have HX2 := Lib.hid (HX.out.trans hx2)
      clear hx2
      go_wp2_with fail
      go_ret
      exact ⟨rfl, HX2.out⟩
end Go.Proofs.YtgiopklnielglaaDoor
/- code.function, code.form: which function and which form may be (the program's). -/
namespace Go.Proofs.YtgiopklnielglaaDoor
open Go.RowKit
set_option maxHeartbeats 4000000
set_option maxRecDepth 100000
theorem betw_is (v a b : Int) (w : World) : Calls Tryd.prog 42 #[.int .i64 v, .int .i64 a, .int .i64 b] w fun e w' => e = .returned (.bool (inB v a b)) ∧ w = w' := between_is v a b w
/-- a function as it lies -/
structure FnI where
  f : Fn
  v : Value
def fnC (x : FnI) : List Value := [.int .i64 x.f.locals, .int .i64 x.f.free, x.v]
def FnP (w : World) (x : FnI) : Prop := RowsP w x.v 3 (x.f.code.map insC)
theorem FnP.ext {w w' : World} {x : FnI} (h : FnP w x) (e : Ext w w') : FnP w' x := RowsP.ext h e
def ncC (n : Int) : List Value := [.int .i64 n]
/-- a form as it lies -/
structure FoI where
  f : Fo
  v : Value
def foC (x : FoI) : List Value := [.int .i64 x.f.kind, .int .i64 x.f.a, .int .i64 x.f.b, x.v]
def FoP (w : World) (x : FoI) : Prop := RowsP w x.v 1 (x.f.cons.map ncC)
theorem FoP.ext {w w' : World} {x : FoI} (h : FoP w x) (e : Ext w w') : FoP w' x := RowsP.ext h e
theorem all_drop {α : Type} {p : α → Bool} {l : List α} {k : Nat} {x : α} (h : l[k]? = some x) : (l.drop k).all p = (p x && (l.drop (k + 1)).all p) := by
  obtain ⟨hk, e⟩ := List.getElem?_eq_some_iff.1 h
  rw [List.drop_eq_getElem_cons hk, e, List.all_cons]
theorem function_is {w : World} (hk : OpLie w) (x : FnI) (hx : FnP w x) (first : Bool) : Calls Tryd.prog 43 #[.agg #[.int .i64 x.f.locals, .int .i64 x.f.free, x.v], .bool first] w fun e w' => e = .returned (.bool (goodFn x.f first)) ∧ Ext w w' := by
  obtain ⟨⟨lo, fr, code⟩, v⟩ := x
  unfold FnP at hx
  dsimp only at hx ⊢
  obtain ⟨q, c, rfl, h1, h2, hc⟩ := RowsP.at hx
  rw [List.length_map] at h1 ⊢
  have HC := Lib.hid hc
  have HK := Lib.hid hk
  clear hx hc hk
  unfold maxLen at h2
  have hC := fun W => betw_is code.length 1 600 W
  cases first with
  | true =>
    have hA := fun W => betw_is lo 0 60 W
    have hB := fun W => betw_is fr 0 0 W
    have hgf : goodFn ⟨lo, fr, code⟩ true = (code.all goodI && inB lo 0 60 && inB fr 0 0 && inB code.length 1 600) := rfl
    generalize inB lo 0 60 = A at hA hgf
    generalize inB fr 0 0 = B at hB hgf
    generalize inB code.length 1 600 = C at hC hgf
    rw [hgf]
    clear hgf
    go_enter Tryd.func43, Tryd.ntmps43
    go_upto_region 4 with fail
    refine wp_alloc1 fun W hE hS b0 => ?_
    have f0 : W.cell? ⟨w.heap.size, 0, none⟩ = some (.int .i64 lo) := cell_at b0 rfl
    have f1 : W.cell? ⟨w.heap.size, 1, none⟩ = some (.int .i64 fr) := cell_at b0 rfl
    have f2 : W.cell? ⟨w.heap.size, 2, none⟩ = some (.slice q code.length c) := cell_at b0 rfl
    have HE := Lib.hid hE
    clear hE hS b0
    go_upto_block 5 with fail
    go_loopw [13] (fun i wr => ∃ j : Nat, j ≤ code.length ∧ i = .int .i64 j ∧ code.all goodI = (code.drop j).all goodI ∧ Ext W wr) (fun i _ => code.length - (Go.RowKit.intOf i).toNat)
    case atStart => exact ⟨0, by omega, rfl, rfl, Ext.refl _⟩
    case round =>
      obtain ⟨j, hj, rfl, ha, hx⟩ := hrel
      have HA := Lib.hid ha
      replace f0 := hx.cell f0; replace f1 := hx.cell f1; replace f2 := hx.cell f2
      have HX := Lib.hid (HE.out.trans hx)
      have HX1 := Lib.hid hx
      clear ha hx HE
      by_cases hlt : j < code.length
      · have hxk := List.getElem?_eq_getElem hlt
        generalize code[j] = x at hxk
        obtain ⟨b, off, rfl, hcell⟩ := HC.out j (insC x) (by rw [List.getElem?_map, hxk]; rfl)
        have y0 := HX.out.cell (hcell 0 _ rfl); have y1 := HX.out.cell (hcell 1 _ rfl); have y2 := HX.out.cell (hcell 2 _ rfl)
        rw [Nat.add_zero] at y0
        have HD := Lib.hid (HA.out.trans (all_drop (p := goodI) hxk))
        have i1 : (j : Int) < (code.length : Int) := by omega
        clear hcell hxk HA
        obtain ⟨op, a, b'⟩ := x
        dsimp only at y0 y1 y2
        have HG := Lib.hid (fun W' (e : Ext wr W') => op_good op a b' W' (HK.out.ext (HX.out.trans e)))
        generalize goodI ⟨op, a, b'⟩ = g at HD HG
        cases g with
        | true =>
          go_wp2_with fail
          refine (HG.out _ (Ext.alloc _ _)).mono ?_
          rintro e w1 ⟨rfl, hx1⟩
          have HX2 := Lib.hid (HX1.out.trans ((Ext.alloc _ _).trans hx1))
          clear hx1
          go_wp2_with fail
          exact ⟨⟨j + 1, by omega, by go_num, by rw [HD.out, Bool.true_and], HX2.out⟩, by simp [Go.RowKit.intOf]; omega⟩
        | false =>
          go_wp2_with fail
          refine (HG.out _ (Ext.alloc _ _)).mono ?_
          rintro e w1 ⟨rfl, hx1⟩
          have HX2 := Lib.hid (HX.out.trans ((Ext.alloc _ _).trans hx1))
          clear hx1
          go_wp2_with fail
          go_ret
          rw [HD.out, Bool.false_and]
          exact ⟨rfl, HX2.out⟩
      · obtain rfl : j = code.length := by omega
        have HD := Lib.hid (show code.all goodI = true by rw [HA.out, List.drop_length]; rfl)
        clear HA HC HK HX1
        cases A with
        | false =>
          go_wp2_with fail
          refine (hA _).mono ?_; rintro e w2 ⟨rfl, rfl⟩
          go_wp2_with fail
          go_ret
          exact ⟨by rw [HD.out]; rfl, HX.out⟩
        | true =>
          cases B with
          | false =>
            go_wp2_with fail
            refine (hA _).mono ?_; rintro e w2 ⟨rfl, rfl⟩
            go_wp2_with fail
            refine (hB _).mono ?_; rintro e w2 ⟨rfl, rfl⟩
            go_wp2_with fail
            go_ret
            exact ⟨by rw [HD.out]; rfl, HX.out⟩
          | true =>
            go_wp2_with fail
            refine (hA _).mono ?_; rintro e w2 ⟨rfl, rfl⟩
            go_wp2_with fail
            refine (hB _).mono ?_; rintro e w2 ⟨rfl, rfl⟩
            go_wp2_with fail
            refine (hC _).mono ?_; rintro e w2 ⟨rfl, rfl⟩
            go_wp2_with fail
            go_ret
            exact ⟨by rw [HD.out]; rfl, HX.out⟩
  | false =>
    have hA := fun W => betw_is lo 1 60 W
    have hB := fun W => betw_is fr 0 30 W
    have hgf : goodFn ⟨lo, fr, code⟩ false = (code.all goodI && inB lo 1 60 && inB fr 0 30 && inB code.length 1 600) := rfl
    generalize inB lo 1 60 = A at hA hgf
    generalize inB fr 0 30 = B at hB hgf
    generalize inB code.length 1 600 = C at hC hgf
    rw [hgf]
    clear hgf
    go_enter Tryd.func43, Tryd.ntmps43
    go_upto_region 4 with fail
    refine wp_alloc1 fun W hE hS b0 => ?_
    have f0 : W.cell? ⟨w.heap.size, 0, none⟩ = some (.int .i64 lo) := cell_at b0 rfl
    have f1 : W.cell? ⟨w.heap.size, 1, none⟩ = some (.int .i64 fr) := cell_at b0 rfl
    have f2 : W.cell? ⟨w.heap.size, 2, none⟩ = some (.slice q code.length c) := cell_at b0 rfl
    have HE := Lib.hid hE
    clear hE hS b0
    go_upto_block 5 with fail
    go_loopw [13] (fun i wr => ∃ j : Nat, j ≤ code.length ∧ i = .int .i64 j ∧ code.all goodI = (code.drop j).all goodI ∧ Ext W wr) (fun i _ => code.length - (Go.RowKit.intOf i).toNat)
    case atStart => exact ⟨0, by omega, rfl, rfl, Ext.refl _⟩
    case round =>
      obtain ⟨j, hj, rfl, ha, hx⟩ := hrel
      have HA := Lib.hid ha
      replace f0 := hx.cell f0; replace f1 := hx.cell f1; replace f2 := hx.cell f2
      have HX := Lib.hid (HE.out.trans hx)
      have HX1 := Lib.hid hx
      clear ha hx HE
      by_cases hlt : j < code.length
      · have hxk := List.getElem?_eq_getElem hlt
        generalize code[j] = x at hxk
        obtain ⟨b, off, rfl, hcell⟩ := HC.out j (insC x) (by rw [List.getElem?_map, hxk]; rfl)
        have y0 := HX.out.cell (hcell 0 _ rfl); have y1 := HX.out.cell (hcell 1 _ rfl); have y2 := HX.out.cell (hcell 2 _ rfl)
        rw [Nat.add_zero] at y0
        have HD := Lib.hid (HA.out.trans (all_drop (p := goodI) hxk))
        have i1 : (j : Int) < (code.length : Int) := by omega
        clear hcell hxk HA
        obtain ⟨op, a, b'⟩ := x
        dsimp only at y0 y1 y2
        have HG := Lib.hid (fun W' (e : Ext wr W') => op_good op a b' W' (HK.out.ext (HX.out.trans e)))
        generalize goodI ⟨op, a, b'⟩ = g at HD HG
        cases g with
        | true =>
          go_wp2_with fail
          refine (HG.out _ (Ext.alloc _ _)).mono ?_
          rintro e w1 ⟨rfl, hx1⟩
          have HX2 := Lib.hid (HX1.out.trans ((Ext.alloc _ _).trans hx1))
          clear hx1
          go_wp2_with fail
          exact ⟨⟨j + 1, by omega, by go_num, by rw [HD.out, Bool.true_and], HX2.out⟩, by simp [Go.RowKit.intOf]; omega⟩
        | false =>
          go_wp2_with fail
          refine (HG.out _ (Ext.alloc _ _)).mono ?_
          rintro e w1 ⟨rfl, hx1⟩
          have HX2 := Lib.hid (HX.out.trans ((Ext.alloc _ _).trans hx1))
          clear hx1
          go_wp2_with fail
          go_ret
          rw [HD.out, Bool.false_and]
          exact ⟨rfl, HX2.out⟩
      · obtain rfl : j = code.length := by omega
        have HD := Lib.hid (show code.all goodI = true by rw [HA.out, List.drop_length]; rfl)
        clear HA HC HK HX1
        cases A with
        | false =>
          go_wp2_with fail
          refine (hA _).mono ?_; rintro e w2 ⟨rfl, rfl⟩
          go_wp2_with fail
          go_ret
          exact ⟨by rw [HD.out]; rfl, HX.out⟩
        | true =>
          cases B with
          | false =>
            go_wp2_with fail
            refine (hA _).mono ?_; rintro e w2 ⟨rfl, rfl⟩
            go_wp2_with fail
            refine (hB _).mono ?_; rintro e w2 ⟨rfl, rfl⟩
            go_wp2_with fail
            go_ret
            exact ⟨by rw [HD.out]; rfl, HX.out⟩
          | true =>
            go_wp2_with fail
            refine (hA _).mono ?_; rintro e w2 ⟨rfl, rfl⟩
            go_wp2_with fail
            refine (hB _).mono ?_; rintro e w2 ⟨rfl, rfl⟩
            go_wp2_with fail
            refine (hC _).mono ?_; rintro e w2 ⟨rfl, rfl⟩
            go_wp2_with fail
            go_ret
            exact ⟨by rw [HD.out]; rfl, HX.out⟩
end Go.Proofs.YtgiopklnielglaaDoor
/- code.form: which form may be (the program's). -/
namespace Go.Proofs.YtgiopklnielglaaDoor
open Go.RowKit
set_option maxHeartbeats 4000000
set_option maxRecDepth 100000
theorem form_is {w : World} (x : FoI) (hx : FoP w x) (n : Nat) (hn : n ≤ 1000000) : Calls Tryd.prog 44 #[.agg #[.int .i64 x.f.kind, .int .i64 x.f.a, .int .i64 x.f.b, x.v], .int .i64 n] w fun e w' => e = .returned (.bool (goodFo x.f n)) ∧ Ext w w' := by
  obtain ⟨⟨kd, fa, fb, cons⟩, v⟩ := x
  unfold FoP at hx
  dsimp only at hx ⊢
  obtain ⟨q, c, rfl, h1, h2, hc⟩ := RowsP.at hx
  rw [List.length_map] at h1 ⊢
  have HC := Lib.hid hc
  clear hx hc
  unfold maxLen at h2
  have hF := fun x W => betw_is x (-1) (n - 1) W
  have hA := fun W => betw_is kd 1 7 W
  obtain ⟨P, hP⟩ : ∃ P : Int → Bool, P = fun c => inB c (-1) ((n : Int) - 1) := ⟨_, rfl⟩
  have hF : ∀ (x : Int) W, Calls Tryd.prog 42 #[.int .i64 x, .int .i64 (-1), .int .i64 ((n : Int) - 1)] W fun e w' => e = .returned (.bool (P x)) ∧ W = w' := by rw [hP]; exact fun x W => betw_is x (-1) (n - 1) W
  by_cases h5 : kd = 5
  · subst h5
    have hB := fun W => betw_is fa 0 (n - 1) W
    have hC := fun W => betw_is fb 0 (n - 1) W
    have hD := fun W => betw_is cons.length 0 0 W
    have hgf : goodFo ⟨5, fa, fb, cons⟩ n = (cons.all P && inB 5 1 7 && inB fa 0 ((n : Int) - 1) && inB fb 0 ((n : Int) - 1) && inB cons.length 0 0) := by rw [hP]; rfl
    generalize inB 5 1 7 = A at hA hgf
    generalize inB fa 0 ((n : Int) - 1) = B at hB hgf
    generalize inB fb 0 ((n : Int) - 1) = C at hC hgf
    generalize inB cons.length 0 0 = D at hD hgf
    clear hP
    rw [hgf]
    clear hgf
    go_enter Tryd.func44, Tryd.ntmps44
    go_upto_region 2 with fail
    refine wp_alloc1 fun W hE hS b0 => ?_
    have f0 : W.cell? ⟨w.heap.size, 0, none⟩ = some (.int .i64 _) := cell_at b0 rfl
    have f1 : W.cell? ⟨w.heap.size, 1, none⟩ = some (.int .i64 fa) := cell_at b0 rfl
    have f2 : W.cell? ⟨w.heap.size, 2, none⟩ = some (.int .i64 fb) := cell_at b0 rfl
    have f3 : W.cell? ⟨w.heap.size, 3, none⟩ = some (.slice q cons.length c) := cell_at b0 rfl
    have HE := Lib.hid hE
    clear hE hS b0
    go_upto_block 10 with fail
    go_loopw [28] (fun i wr => ∃ j : Nat, j ≤ cons.length ∧ i = .int .i64 j ∧ cons.all P = (cons.drop j).all P ∧ Ext W wr) (fun i _ => cons.length - (Go.RowKit.intOf i).toNat)
    case atStart => exact ⟨0, by omega, rfl, rfl, Ext.refl _⟩
    case round =>
      obtain ⟨j, hj, rfl, ha, hx⟩ := hrel
      have HA := Lib.hid ha
      replace f0 := hx.cell f0; replace f1 := hx.cell f1; replace f2 := hx.cell f2; replace f3 := hx.cell f3
      have HX := Lib.hid (HE.out.trans hx)
      have HX1 := Lib.hid hx
      clear ha hx HE
      by_cases hlt : j < cons.length
      · have hxk := List.getElem?_eq_getElem hlt
        generalize cons[j] = x at hxk
        obtain ⟨b, off, rfl, hcell⟩ := HC.out j (ncC x) (by rw [List.getElem?_map, hxk]; rfl)
        have y0 := HX.out.cell (hcell 0 _ rfl)
        rw [Nat.add_zero, Nat.mul_one] at y0
        have HD := Lib.hid (HA.out.trans (all_drop (p := P) hxk))
        have i1 : (j : Int) < (cons.length : Int) := by omega
        have HG := Lib.hid (hF x)
        clear hcell hxk HA hF hA hB hC hD
        generalize P x = g at HD HG
        cases g with
        | true =>
          go_wp2_with fail
          refine (HG.out _).mono ?_
          rintro e w1 ⟨rfl, rfl⟩
          go_wp2_with fail
          exact ⟨⟨j + 1, by omega, by go_num, by rw [HD.out, Bool.true_and], HX1.out⟩, by simp [Go.RowKit.intOf]; omega⟩
        | false =>
          go_wp2_with fail
          refine (HG.out _).mono ?_
          rintro e w1 ⟨rfl, rfl⟩
          go_wp2_with fail
          go_ret
          rw [HD.out, Bool.false_and]
          exact ⟨rfl, HX.out⟩
      · obtain rfl : j = cons.length := by omega
        have HD := Lib.hid (show cons.all P = true by rw [HA.out, List.drop_length]; rfl)
        clear HA HC HX1 hF
        cases A with
        | false =>
          go_wp2_with fail
          refine (hA _).mono ?_; rintro e w2 ⟨rfl, rfl⟩
          go_wp2_with fail
          go_ret
          exact ⟨by rw [HD.out]; rfl, HX.out⟩
        | true =>
          cases B with
          | false =>
            go_wp2_with fail
            refine (hA _).mono ?_; rintro e w2 ⟨rfl, rfl⟩
            go_wp2_with fail
            refine (hB _).mono ?_; rintro e w2 ⟨rfl, rfl⟩
            go_wp2_with fail
            go_ret
            exact ⟨by rw [HD.out]; rfl, HX.out⟩
          | true =>
            cases C with
            | false =>
              go_wp2_with fail
              refine (hA _).mono ?_; rintro e w2 ⟨rfl, rfl⟩
              go_wp2_with fail
              refine (hB _).mono ?_; rintro e w2 ⟨rfl, rfl⟩
              go_wp2_with fail
              refine (hC _).mono ?_; rintro e w2 ⟨rfl, rfl⟩
              go_wp2_with fail
              go_ret
              exact ⟨by rw [HD.out]; rfl, HX.out⟩
            | true =>
              go_wp2_with fail
              refine (hA _).mono ?_; rintro e w2 ⟨rfl, rfl⟩
              go_wp2_with fail
              refine (hB _).mono ?_; rintro e w2 ⟨rfl, rfl⟩
              go_wp2_with fail
              refine (hC _).mono ?_; rintro e w2 ⟨rfl, rfl⟩
              go_wp2_with fail
              refine (hD _).mono ?_; rintro e w2 ⟨rfl, rfl⟩
              go_wp2_with fail
              go_ret
              exact ⟨by rw [HD.out]; rfl, HX.out⟩
  by_cases h6 : kd = 6
  · subst h6
    clear h5
    have hB := fun W => betw_is fa 0 (n - 1) W
    have hC := fun W => betw_is fb 0 0 W
    have hD := fun W => betw_is cons.length 0 0 W
    have hgf : goodFo ⟨6, fa, fb, cons⟩ n = (cons.all P && inB 6 1 7 && inB fa 0 ((n : Int) - 1) && inB fb 0 0 && inB cons.length 0 0) := by rw [hP]; rfl
    generalize inB 6 1 7 = A at hA hgf
    generalize inB fa 0 ((n : Int) - 1) = B at hB hgf
    generalize inB fb 0 0 = C at hC hgf
    generalize inB cons.length 0 0 = D at hD hgf
    clear hP
    rw [hgf]
    clear hgf
    go_enter Tryd.func44, Tryd.ntmps44
    go_upto_region 2 with fail
    refine wp_alloc1 fun W hE hS b0 => ?_
    have f0 : W.cell? ⟨w.heap.size, 0, none⟩ = some (.int .i64 _) := cell_at b0 rfl
    have f1 : W.cell? ⟨w.heap.size, 1, none⟩ = some (.int .i64 fa) := cell_at b0 rfl
    have f2 : W.cell? ⟨w.heap.size, 2, none⟩ = some (.int .i64 fb) := cell_at b0 rfl
    have f3 : W.cell? ⟨w.heap.size, 3, none⟩ = some (.slice q cons.length c) := cell_at b0 rfl
    have HE := Lib.hid hE
    clear hE hS b0
    go_upto_block 10 with fail
    go_loopw [28] (fun i wr => ∃ j : Nat, j ≤ cons.length ∧ i = .int .i64 j ∧ cons.all P = (cons.drop j).all P ∧ Ext W wr) (fun i _ => cons.length - (Go.RowKit.intOf i).toNat)
    case atStart => exact ⟨0, by omega, rfl, rfl, Ext.refl _⟩
    case round =>
      obtain ⟨j, hj, rfl, ha, hx⟩ := hrel
      have HA := Lib.hid ha
      replace f0 := hx.cell f0; replace f1 := hx.cell f1; replace f2 := hx.cell f2; replace f3 := hx.cell f3
      have HX := Lib.hid (HE.out.trans hx)
      have HX1 := Lib.hid hx
      clear ha hx HE
      by_cases hlt : j < cons.length
      · have hxk := List.getElem?_eq_getElem hlt
        generalize cons[j] = x at hxk
        obtain ⟨b, off, rfl, hcell⟩ := HC.out j (ncC x) (by rw [List.getElem?_map, hxk]; rfl)
        have y0 := HX.out.cell (hcell 0 _ rfl)
        rw [Nat.add_zero, Nat.mul_one] at y0
        have HD := Lib.hid (HA.out.trans (all_drop (p := P) hxk))
        have i1 : (j : Int) < (cons.length : Int) := by omega
        have HG := Lib.hid (hF x)
        clear hcell hxk HA hF hA hB hC hD
        generalize P x = g at HD HG
        cases g with
        | true =>
          go_wp2_with fail
          refine (HG.out _).mono ?_
          rintro e w1 ⟨rfl, rfl⟩
          go_wp2_with fail
          exact ⟨⟨j + 1, by omega, by go_num, by rw [HD.out, Bool.true_and], HX1.out⟩, by simp [Go.RowKit.intOf]; omega⟩
        | false =>
          go_wp2_with fail
          refine (HG.out _).mono ?_
          rintro e w1 ⟨rfl, rfl⟩
          go_wp2_with fail
          go_ret
          rw [HD.out, Bool.false_and]
          exact ⟨rfl, HX.out⟩
      · obtain rfl : j = cons.length := by omega
        have HD := Lib.hid (show cons.all P = true by rw [HA.out, List.drop_length]; rfl)
        clear HA HC HX1 hF
        cases A with
        | false =>
          go_wp2_with fail
          refine (hA _).mono ?_; rintro e w2 ⟨rfl, rfl⟩
          go_wp2_with fail
          go_ret
          exact ⟨by rw [HD.out]; rfl, HX.out⟩
        | true =>
          cases B with
          | false =>
            go_wp2_with fail
            refine (hA _).mono ?_; rintro e w2 ⟨rfl, rfl⟩
            go_wp2_with fail
            refine (hB _).mono ?_; rintro e w2 ⟨rfl, rfl⟩
            go_wp2_with fail
            go_ret
            exact ⟨by rw [HD.out]; rfl, HX.out⟩
          | true =>
            cases C with
            | false =>
              go_wp2_with fail
              refine (hA _).mono ?_; rintro e w2 ⟨rfl, rfl⟩
              go_wp2_with fail
              refine (hB _).mono ?_; rintro e w2 ⟨rfl, rfl⟩
              go_wp2_with fail
              refine (hC _).mono ?_; rintro e w2 ⟨rfl, rfl⟩
              go_wp2_with fail
              go_ret
              exact ⟨by rw [HD.out]; rfl, HX.out⟩
            | true =>
              go_wp2_with fail
              refine (hA _).mono ?_; rintro e w2 ⟨rfl, rfl⟩
              go_wp2_with fail
              refine (hB _).mono ?_; rintro e w2 ⟨rfl, rfl⟩
              go_wp2_with fail
              refine (hC _).mono ?_; rintro e w2 ⟨rfl, rfl⟩
              go_wp2_with fail
              refine (hD _).mono ?_; rintro e w2 ⟨rfl, rfl⟩
              go_wp2_with fail
              go_ret
              exact ⟨by rw [HD.out]; rfl, HX.out⟩
  by_cases h7 : kd = 7
  · subst h7
    clear h5 h6
    have hB := fun W => betw_is fa 0 0 W
    have hC := fun W => betw_is fb 0 0 W
    have hD := fun W => betw_is cons.length 1 20 W
    have hgf : goodFo ⟨7, fa, fb, cons⟩ n = (cons.all P && inB 7 1 7 && inB fa 0 0 && inB fb 0 0 && inB cons.length 1 20) := by rw [hP]; rfl
    generalize inB 7 1 7 = A at hA hgf
    generalize inB fa 0 0 = B at hB hgf
    generalize inB fb 0 0 = C at hC hgf
    generalize inB cons.length 1 20 = D at hD hgf
    clear hP
    rw [hgf]
    clear hgf
    go_enter Tryd.func44, Tryd.ntmps44
    go_upto_region 2 with fail
    refine wp_alloc1 fun W hE hS b0 => ?_
    have f0 : W.cell? ⟨w.heap.size, 0, none⟩ = some (.int .i64 _) := cell_at b0 rfl
    have f1 : W.cell? ⟨w.heap.size, 1, none⟩ = some (.int .i64 fa) := cell_at b0 rfl
    have f2 : W.cell? ⟨w.heap.size, 2, none⟩ = some (.int .i64 fb) := cell_at b0 rfl
    have f3 : W.cell? ⟨w.heap.size, 3, none⟩ = some (.slice q cons.length c) := cell_at b0 rfl
    have HE := Lib.hid hE
    clear hE hS b0
    go_upto_block 10 with fail
    go_loopw [28] (fun i wr => ∃ j : Nat, j ≤ cons.length ∧ i = .int .i64 j ∧ cons.all P = (cons.drop j).all P ∧ Ext W wr) (fun i _ => cons.length - (Go.RowKit.intOf i).toNat)
    case atStart => exact ⟨0, by omega, rfl, rfl, Ext.refl _⟩
    case round =>
      obtain ⟨j, hj, rfl, ha, hx⟩ := hrel
      have HA := Lib.hid ha
      replace f0 := hx.cell f0; replace f1 := hx.cell f1; replace f2 := hx.cell f2; replace f3 := hx.cell f3
      have HX := Lib.hid (HE.out.trans hx)
      have HX1 := Lib.hid hx
      clear ha hx HE
      by_cases hlt : j < cons.length
      · have hxk := List.getElem?_eq_getElem hlt
        generalize cons[j] = x at hxk
        obtain ⟨b, off, rfl, hcell⟩ := HC.out j (ncC x) (by rw [List.getElem?_map, hxk]; rfl)
        have y0 := HX.out.cell (hcell 0 _ rfl)
        rw [Nat.add_zero, Nat.mul_one] at y0
        have HD := Lib.hid (HA.out.trans (all_drop (p := P) hxk))
        have i1 : (j : Int) < (cons.length : Int) := by omega
        have HG := Lib.hid (hF x)
        clear hcell hxk HA hF hA hB hC hD
        generalize P x = g at HD HG
        cases g with
        | true =>
          go_wp2_with fail
          refine (HG.out _).mono ?_
          rintro e w1 ⟨rfl, rfl⟩
          go_wp2_with fail
          exact ⟨⟨j + 1, by omega, by go_num, by rw [HD.out, Bool.true_and], HX1.out⟩, by simp [Go.RowKit.intOf]; omega⟩
        | false =>
          go_wp2_with fail
          refine (HG.out _).mono ?_
          rintro e w1 ⟨rfl, rfl⟩
          go_wp2_with fail
          go_ret
          rw [HD.out, Bool.false_and]
          exact ⟨rfl, HX.out⟩
      · obtain rfl : j = cons.length := by omega
        have HD := Lib.hid (show cons.all P = true by rw [HA.out, List.drop_length]; rfl)
        clear HA HC HX1 hF
        cases A with
        | false =>
          go_wp2_with fail
          refine (hA _).mono ?_; rintro e w2 ⟨rfl, rfl⟩
          go_wp2_with fail
          go_ret
          exact ⟨by rw [HD.out]; rfl, HX.out⟩
        | true =>
          cases B with
          | false =>
            go_wp2_with fail
            refine (hA _).mono ?_; rintro e w2 ⟨rfl, rfl⟩
            go_wp2_with fail
            refine (hB _).mono ?_; rintro e w2 ⟨rfl, rfl⟩
            go_wp2_with fail
            go_ret
            exact ⟨by rw [HD.out]; rfl, HX.out⟩
          | true =>
            cases C with
            | false =>
              go_wp2_with fail
              refine (hA _).mono ?_; rintro e w2 ⟨rfl, rfl⟩
              go_wp2_with fail
              refine (hB _).mono ?_; rintro e w2 ⟨rfl, rfl⟩
              go_wp2_with fail
              refine (hC _).mono ?_; rintro e w2 ⟨rfl, rfl⟩
              go_wp2_with fail
              go_ret
              exact ⟨by rw [HD.out]; rfl, HX.out⟩
            | true =>
              go_wp2_with fail
              refine (hA _).mono ?_; rintro e w2 ⟨rfl, rfl⟩
              go_wp2_with fail
              refine (hB _).mono ?_; rintro e w2 ⟨rfl, rfl⟩
              go_wp2_with fail
              refine (hC _).mono ?_; rintro e w2 ⟨rfl, rfl⟩
              go_wp2_with fail
              refine (hD _).mono ?_; rintro e w2 ⟨rfl, rfl⟩
              go_wp2_with fail
              go_ret
              exact ⟨by rw [HD.out]; rfl, HX.out⟩
  have hB := fun W => betw_is fa 0 0 W
  have hC := fun W => betw_is fb 0 0 W
  have hD := fun W => betw_is cons.length 0 0 W
  have hgf : goodFo ⟨kd, fa, fb, cons⟩ n = (cons.all P && inB kd 1 7 && inB fa 0 0 && inB fb 0 0 && inB cons.length 0 0) := by
    rw [hP]
    unfold goodFo
    simp only [h5, h6, h7, if_false, or_self]
  have t5 : (kd == 5) = false := beq_false_of_ne h5
  have t6 : (kd == 6) = false := beq_false_of_ne h6
  have t7 : (kd == 7) = false := beq_false_of_ne h7
  generalize inB kd 1 7 = A at hA hgf
  generalize inB fa 0 0 = B at hB hgf
  generalize inB fb 0 0 = C at hC hgf
  generalize inB cons.length 0 0 = D at hD hgf
  clear hP h5 h6 h7
  rw [hgf]
  clear hgf
  go_enter Tryd.func44, Tryd.ntmps44
  go_upto_region 2 with fail
  refine wp_alloc1 fun W hE hS b0 => ?_
  have f0 : W.cell? ⟨w.heap.size, 0, none⟩ = some (.int .i64 _) := cell_at b0 rfl
  have f1 : W.cell? ⟨w.heap.size, 1, none⟩ = some (.int .i64 fa) := cell_at b0 rfl
  have f2 : W.cell? ⟨w.heap.size, 2, none⟩ = some (.int .i64 fb) := cell_at b0 rfl
  have f3 : W.cell? ⟨w.heap.size, 3, none⟩ = some (.slice q cons.length c) := cell_at b0 rfl
  have HE := Lib.hid hE
  clear hE hS b0
  go_upto_block 10 with fail
  go_loopw [28] (fun i wr => ∃ j : Nat, j ≤ cons.length ∧ i = .int .i64 j ∧ cons.all P = (cons.drop j).all P ∧ Ext W wr) (fun i _ => cons.length - (Go.RowKit.intOf i).toNat)
  case atStart => exact ⟨0, by omega, rfl, rfl, Ext.refl _⟩
  case round =>
    obtain ⟨j, hj, rfl, ha, hx⟩ := hrel
    have HA := Lib.hid ha
    replace f0 := hx.cell f0; replace f1 := hx.cell f1; replace f2 := hx.cell f2; replace f3 := hx.cell f3
    have HX := Lib.hid (HE.out.trans hx)
    have HX1 := Lib.hid hx
    clear ha hx HE
    by_cases hlt : j < cons.length
    · have hxk := List.getElem?_eq_getElem hlt
      generalize cons[j] = x at hxk
      obtain ⟨b, off, rfl, hcell⟩ := HC.out j (ncC x) (by rw [List.getElem?_map, hxk]; rfl)
      have y0 := HX.out.cell (hcell 0 _ rfl)
      rw [Nat.add_zero, Nat.mul_one] at y0
      have HD := Lib.hid (HA.out.trans (all_drop (p := P) hxk))
      have i1 : (j : Int) < (cons.length : Int) := by omega
      have HG := Lib.hid (hF x)
      clear hcell hxk HA hF hA hB hC hD
      generalize P x = g at HD HG
      cases g with
      | true =>
        go_wp2_with fail
        refine (HG.out _).mono ?_
        rintro e w1 ⟨rfl, rfl⟩
        go_wp2_with fail
        exact ⟨⟨j + 1, by omega, by go_num, by rw [HD.out, Bool.true_and], HX1.out⟩, by simp [Go.RowKit.intOf]; omega⟩
      | false =>
        go_wp2_with fail
        refine (HG.out _).mono ?_
        rintro e w1 ⟨rfl, rfl⟩
        go_wp2_with fail
        go_ret
        rw [HD.out, Bool.false_and]
        exact ⟨rfl, HX.out⟩
    · obtain rfl : j = cons.length := by omega
      have HD := Lib.hid (show cons.all P = true by rw [HA.out, List.drop_length]; rfl)
      clear HA HC HX1 hF
      cases A with
      | false =>
        go_wp2_with fail
        refine (hA _).mono ?_; rintro e w2 ⟨rfl, rfl⟩
        go_wp2_with fail
        go_ret
        exact ⟨by rw [HD.out]; rfl, HX.out⟩
      | true =>
        cases B with
        | false =>
          go_wp2_with fail
          refine (hA _).mono ?_; rintro e w2 ⟨rfl, rfl⟩
          go_wp2_with fail
          refine (hB _).mono ?_; rintro e w2 ⟨rfl, rfl⟩
          go_wp2_with fail
          go_ret
          exact ⟨by rw [HD.out]; rfl, HX.out⟩
        | true =>
          cases C with
          | false =>
            go_wp2_with fail
            refine (hA _).mono ?_; rintro e w2 ⟨rfl, rfl⟩
            go_wp2_with fail
            refine (hB _).mono ?_; rintro e w2 ⟨rfl, rfl⟩
            go_wp2_with fail
            refine (hC _).mono ?_; rintro e w2 ⟨rfl, rfl⟩
            go_wp2_with fail
            go_ret
            exact ⟨by rw [HD.out]; rfl, HX.out⟩
          | true =>
            go_wp2_with fail
            refine (hA _).mono ?_; rintro e w2 ⟨rfl, rfl⟩
            go_wp2_with fail
            refine (hB _).mono ?_; rintro e w2 ⟨rfl, rfl⟩
            go_wp2_with fail
            refine (hC _).mono ?_; rintro e w2 ⟨rfl, rfl⟩
            go_wp2_with fail
            refine (hD _).mono ?_; rintro e w2 ⟨rfl, rfl⟩
            go_wp2_with fail
            go_ret
            exact ⟨by rw [HD.out]; rfl, HX.out⟩
end Go.Proofs.YtgiopklnielglaaDoor
/- code.Good: which program may be (the program's). -/
namespace Go.Proofs.YtgiopklnielglaaDoor
open Go.RowKit
set_option maxHeartbeats 8000000
set_option maxRecDepth 100000
/-- a program as it lies -/
structure PgI where
  funcs : List FnI
  strs : List ByteArray
  forms : List FoI
  vf : Value
  vs : Value
  vo : Value
def PgI.p (x : PgI) : Pg := ⟨x.funcs.map (·.f), x.strs, x.forms.map (·.f)⟩
def stC (s : ByteArray) : List Value := [.string s]
structure PgP (w : World) (x : PgI) : Prop where
  pf : RowsP w x.vf 3 (x.funcs.map fnC)
  ps : RowsP w x.vs 1 (x.strs.map stC)
  po : RowsP w x.vo 4 (x.forms.map foC)
  hf : ∀ y ∈ x.funcs, FnP w y
  ho : ∀ y ∈ x.forms, FoP w y
theorem PgP.ext {w w' : World} {x : PgI} (h : PgP w x) (e : Ext w w') : PgP w' x := ⟨h.pf.ext e, h.ps.ext e, h.po.ext e, fun y hy => (h.hf y hy).ext e, fun y hy => (h.ho y hy).ext e⟩
def PgI.val (x : PgI) : Value := .agg #[x.vf, x.vs, x.vo]
theorem fns_drop {F : List FnI} {k : Nat} {x : FnI} (b : Bool) (h : F[k]? = some x) : goodFns ((F.drop k).map (·.f)) b = (goodFn x.f b && goodFns ((F.drop (k + 1)).map (·.f)) false) := by
  obtain ⟨hk, e⟩ := List.getElem?_eq_some_iff.1 h
  rw [List.drop_eq_getElem_cons hk, e, List.map_cons, goodFns]
theorem goodP_parts (x : PgI) : goodP x.p = (inB x.funcs.length 1 60 && decide (x.strs.length ≤ 40) && decide (x.forms.length ≤ 40) && goodFns (x.funcs.map (·.f)) true && x.strs.all (fun s => decide (s.size ≤ 60)) && x.forms.all fun f => goodFo f.f x.forms.length) := by
  unfold goodP PgI.p
  simp only [List.length_map, List.all_map]
  rfl
theorem code_good {w : World} (hk : OpLie w) (x : PgI) (hx : PgP w x) : Calls Tryd.prog 27 #[.agg #[x.vf, x.vs, x.vo]] w fun e w' => e = .returned (.bool (goodP x.p)) ∧ Ext w w' := by
  rw [goodP_parts]
  obtain ⟨F, S, O, vf, vs, vo⟩ := x
  obtain ⟨pf, ps, po, hf, ho⟩ := hx
  dsimp only at pf ps po hf ho ⊢
  obtain ⟨qf, cf, rfl, hf1, hf2, hcf⟩ := pf.at
  obtain ⟨qs, cs, rfl, hs1, hs2, hcs⟩ := ps.at
  obtain ⟨qo, co, rfl, ho1, ho2, hco⟩ := po.at
  rw [List.length_map] at hf1 hs1 ho1 ⊢
  rw [List.length_map, List.length_map]
  have HCF := Lib.hid hcf; have HCS := Lib.hid hcs; have HCO := Lib.hid hco; have HK := Lib.hid hk
  have HF := Lib.hid hf; have HO := Lib.hid ho
  clear pf ps po hcf hcs hco hk hf ho
  unfold maxLen at hf2 hs2 ho2
  have hA := fun W => betw_is F.length 1 60 W
  obtain ⟨A, hAe⟩ : ∃ A, inB F.length 1 60 = A := ⟨_, rfl⟩
  rw [hAe] at hA ⊢
  cases A with
  | false =>
    clear hAe
    go_enter Tryd.func27, Tryd.ntmps27
    go_wp2_with fail
    refine (hA _).mono ?_; rintro e w2 ⟨rfl, rfl⟩
    go_wp2_with fail
    go_ret
    exact ⟨rfl, Ext.alloc _ _⟩
  | true =>
    by_cases hS : S.length ≤ 40
    rotate_left
    · have b1 : (40 : Int) < (S.length : Int) := by omega
      rw [decide_eq_false hS]
      clear hS hAe
      go_enter Tryd.func27, Tryd.ntmps27
      go_wp2_with fail
      refine (hA _).mono ?_; rintro e w2 ⟨rfl, rfl⟩
      go_wp2_with fail
      go_ret
      exact ⟨rfl, Ext.alloc _ _⟩
    by_cases hO : O.length ≤ 40
    rotate_left
    · have b1 : decide (40 < S.length) = false := decide_eq_false (by omega)
      have b1' : ¬ (40 : Int) < (S.length : Int) := by omega
      have b2 : decide (40 < O.length) = true := decide_eq_true (by omega)
      have b3 : (40 : Int) < (O.length : Int) := by omega
      have b4 : 40 < O.length := by omega
      rw [decide_eq_true hS, decide_eq_false hO]
      clear hS hAe hO
      go_enter Tryd.func27, Tryd.ntmps27
      go_wp2_with fail
      refine (hA _).mono ?_; rintro e w2 ⟨rfl, rfl⟩
      go_wp2_with fail
      go_ret
      exact ⟨rfl, Ext.alloc _ _⟩
    have b1 : decide (40 < S.length) = false := decide_eq_false (by omega)
    have b1' : ¬ (40 : Int) < (S.length : Int) := by omega
    have b2 : decide (40 < O.length) = false := decide_eq_false (by omega)
    have b2' : ¬ (40 : Int) < (O.length : Int) := by omega
    have HS := Lib.hid (decide_eq_true hS)
    have HO40 := Lib.hid (decide_eq_true hO)
    have HO4 := Lib.hid hO
    clear hAe hS hO
    go_enter Tryd.func27, Tryd.ntmps27
    go_upto_region 1 with fail
    refine wp_alloc1 fun W hE hS b0 => ?_
    have f0 : W.cell? ⟨w.heap.size, 0, none⟩ = some (.slice qf F.length cf) := cell_at b0 rfl
    have f1 : W.cell? ⟨w.heap.size, 1, none⟩ = some (.slice qs S.length cs) := cell_at b0 rfl
    have f2 : W.cell? ⟨w.heap.size, 2, none⟩ = some (.slice qo O.length co) := cell_at b0 rfl
    have HE := Lib.hid hE
    have q0 : w.heap.size < W.heap.size := by omega
    have HQ0 := Lib.hid q0
    clear hE hS b0 q0
    go_wp2_with fail
    refine (hA _).mono ?_; rintro e w2 ⟨rfl, rfl⟩
    go_wp2_with fail
    go_loopw [29] (fun i wr => ∃ j : Nat, j ≤ F.length ∧ i = .int .i64 j ∧ goodFns (F.map (·.f)) true = goodFns ((F.drop j).map (·.f)) (decide (j = 0)) ∧ Ext W wr) (fun i _ => F.length - (Go.RowKit.intOf i).toNat)
    case atStart => exact ⟨0, by omega, rfl, rfl, Ext.refl _⟩
    case round =>
      obtain ⟨j, hj, rfl, ha, hx⟩ := hrel
      have HA := Lib.hid ha
      replace f0 := hx.cell f0; replace f1 := hx.cell f1; replace f2 := hx.cell f2
      have HX := Lib.hid (HE.out.trans hx)
      have HX1 := Lib.hid hx
      clear ha hx HE hA
      by_cases hlt : j < F.length
      · have hxk := List.getElem?_eq_getElem hlt
        generalize F[j] = x at hxk
        have HM := Lib.hid (HF.out x (List.mem_of_getElem? hxk))
        obtain ⟨b, off, rfl, hcell⟩ := HCF.out j (fnC x) (by rw [List.getElem?_map, hxk]; rfl)
        have y0 := HX.out.cell (hcell 0 _ rfl); have y1 := HX.out.cell (hcell 1 _ rfl); have y2 := HX.out.cell (hcell 2 _ rfl)
        rw [Nat.add_zero] at y0
        have HD := Lib.hid (HA.out.trans (fns_drop (decide (j = 0)) hxk))
        have i1 : (j : Int) < (F.length : Int) := by omega
        have tj : ((j : Int) == 0) = decide (j = 0) := by
          rw [Bool.eq_iff_iff]; simp
        clear hcell hxk HA
        have HG := Lib.hid (fun W' (e : Ext wr W') => function_is (HK.out.ext (HX.out.trans e)) x (HM.out.ext (HX.out.trans e)) (decide (j = 0)))
        obtain ⟨qx, nx, cx, hv⟩ : ∃ q n c, x.v = .slice q n c := by obtain ⟨q, c, hv, -⟩ := RowsP.at HM.out; exact ⟨q, _, c, hv⟩
        obtain ⟨⟨lo, fr, code⟩, v⟩ := x
        dsimp only at y0 y1 y2 HG HD hv
        subst hv
        generalize goodFn ⟨lo, fr, code⟩ (decide (j = 0)) = g at HD HG
        rw [← tj] at HG
        clear HM tj
        cases g with
        | true =>
          go_wp2_with fail
          refine (HG.out _ (Ext.alloc _ _)).mono ?_
          rintro e w1 ⟨rfl, hx1⟩
          have HX2 := Lib.hid (HX1.out.trans ((Ext.alloc _ _).trans hx1))
          clear hx1
          go_wp2_with fail
          exact ⟨⟨j + 1, by omega, by go_num, by rw [HD.out, Bool.true_and, decide_eq_false (by omega)], HX2.out⟩, by simp [Go.RowKit.intOf]; omega⟩
        | false =>
          go_wp2_with fail
          refine (HG.out _ (Ext.alloc _ _)).mono ?_
          rintro e w1 ⟨rfl, hx1⟩
          have HX2 := Lib.hid (HX.out.trans ((Ext.alloc _ _).trans hx1))
          clear hx1
          go_wp2_with fail
          go_ret
          exact ⟨by rw [HS.out, HO40.out, HD.out, Bool.false_and]; rfl, HX2.out⟩
      · obtain rfl : j = F.length := by omega
        have HD1 := Lib.hid (show goodFns (F.map (·.f)) true = true by rw [HA.out, List.drop_length]; rfl)
        have HQ1 := Lib.hid HX1.out.size
        clear HA HCF HX1 HF f0 hlt hj
        go_wp2_with fail
        generalize hwo : wr = wo at *
        clear hwo
        go_loopw [43] (fun i wr => ∃ j : Nat, j ≤ S.length ∧ i = .int .i64 j ∧ S.all (fun s => decide (s.size ≤ 60)) = (S.drop j).all (fun s => decide (s.size ≤ 60)) ∧ Ext wo wr) (fun i _ => S.length - (Go.RowKit.intOf i).toNat)
        case atStart => exact ⟨0, by omega, rfl, rfl, Ext.refl _⟩
        case round =>
          obtain ⟨j, hj, rfl, ha, hx⟩ := hrel
          have HA := Lib.hid ha
          have HXo := HX
          replace f1 := hx.cell f1; replace f2 := hx.cell f2
          clear HX
          have HX := Lib.hid (HXo.out.trans hx)
          have HX1 := Lib.hid hx
          clear ha hx
          by_cases hlt : j < S.length
          · have hxk := List.getElem?_eq_getElem hlt
            generalize S[j] = x at hxk
            obtain ⟨b, off, rfl, hcell⟩ := HCS.out j (stC x) (by rw [List.getElem?_map, hxk]; rfl)
            have y0 := HX.out.cell (hcell 0 _ rfl)
            rw [Nat.add_zero, Nat.mul_one] at y0
            have HD := Lib.hid (HA.out.trans (all_drop (p := fun s : ByteArray => decide (s.size ≤ 60)) hxk))
            have i1 : (j : Int) < (S.length : Int) := by omega
            clear hcell hxk HA
            by_cases hg : x.size ≤ 60
            · have g1 : decide (60 < x.size) = false := decide_eq_false (by omega)
              have g2 : (x.size : Int) ≤ 60 := by omega
              have g3 : ¬ (60 : Int) < (x.size : Int) := by omega
              have HG := Lib.hid (decide_eq_true hg)
              clear hg
              go_wp2_with fail
              exact ⟨⟨j + 1, by omega, by go_num, by rw [HD.out, HG.out, Bool.true_and], HX1.out⟩, by simp [Go.RowKit.intOf]; omega⟩
            · have g1 : decide (60 < x.size) = true := decide_eq_true (by omega)
              have g2 : ¬ (x.size : Int) ≤ 60 := by omega
              have HG := Lib.hid (decide_eq_false hg)
              clear hg
              go_wp2_with fail
              go_ret
              exact ⟨by rw [HS.out, HO40.out, HD1.out, HD.out, HG.out, Bool.false_and]; rfl, HX.out⟩
          · obtain rfl : j = S.length := by omega
            have HD2 := Lib.hid (show S.all (fun s => decide (s.size ≤ 60)) = true by rw [HA.out, List.drop_length]; rfl)
            have HQ2 := Lib.hid HX1.out.size
            clear HA HCS HX1 HXo f1 hlt hj
            go_wp2_with fail
            generalize hwp : wr = wp at *
            clear hwp
            obtain ⟨P, hP⟩ : ∃ P : FoI → Bool, P = fun f => goodFo f.f O.length := ⟨_, rfl⟩
            go_loopw [54] (fun i wr => ∃ j : Nat, j ≤ O.length ∧ i = .int .i64 j ∧ O.all P = (O.drop j).all P ∧ Ext wp wr) (fun i _ => O.length - (Go.RowKit.intOf i).toNat)
            case atStart => exact ⟨0, by omega, rfl, rfl, Ext.refl _⟩
            case round =>
              obtain ⟨j, hj, rfl, ha, hx⟩ := hrel
              have HA := Lib.hid ha
              have HXo := HX
              replace f2 := hx.cell f2
              clear HX
              have HX := Lib.hid (HXo.out.trans hx)
              have HX1 := Lib.hid hx
              have hxs := hx.size
              clear ha hx
              by_cases hlt : j < O.length
              · have hxk := List.getElem?_eq_getElem hlt
                generalize O[j] = x at hxk
                have HM := Lib.hid (HO.out x (List.mem_of_getElem? hxk))
                obtain ⟨b, off, rfl, hcell⟩ := HCO.out j (foC x) (by rw [List.getElem?_map, hxk]; rfl)
                have y0 := HX.out.cell (hcell 0 _ rfl); have y1 := HX.out.cell (hcell 1 _ rfl); have y2 := HX.out.cell (hcell 2 _ rfl); have y3 := HX.out.cell (hcell 3 _ rfl)
                rw [Nat.add_zero] at y0
                have HD := Lib.hid (HA.out.trans (all_drop (p := P) hxk))
                have i1 : (j : Int) < (O.length : Int) := by omega
                clear hcell hxk HA
                have q0 : w.heap.size < wr.heap.size := Nat.lt_of_lt_of_le HQ0.out (Nat.le_trans HQ1.out (Nat.le_trans HQ2.out hxs))
                have HG := Lib.hid (fun W' (e : Ext wr W') => form_is x (HM.out.ext (HX.out.trans e)) O.length (by have := HO4.out; omega))
                have hPx : P x = goodFo x.f O.length := by rw [hP]
                rw [hPx] at HD
                clear hPx
                obtain ⟨qx, nx, cx, hv⟩ : ∃ q n c, x.v = .slice q n c := by obtain ⟨q, c, hv, -⟩ := RowsP.at HM.out; exact ⟨q, _, c, hv⟩
                obtain ⟨⟨kd, fa, fb, cons⟩, v⟩ := x
                dsimp only at y0 y1 y2 y3 HG HD hv
                subst hv
                generalize goodFo ⟨kd, fa, fb, cons⟩ O.length = g at HD HG
                clear HM
                cases g with
                | true =>
                  go_wp2_with fail
                  refine (HG.out _ (Ext.alloc _ _)).mono ?_
                  rintro e w1 ⟨rfl, hx1⟩
                  have HX2 := Lib.hid (HX1.out.trans ((Ext.alloc _ _).trans hx1))
                  clear hx1
                  go_wp2_with fail
                  exact ⟨⟨j + 1, by omega, by go_num, by rw [HD.out, Bool.true_and], HX2.out⟩, by simp [Go.RowKit.intOf]; omega⟩
                | false =>
                  go_wp2_with fail
                  refine (HG.out _ (Ext.alloc _ _)).mono ?_
                  rintro e w1 ⟨rfl, hx1⟩
                  have HX2 := Lib.hid (HX.out.trans ((Ext.alloc _ _).trans hx1))
                  clear hx1
                  go_wp2_with fail
                  go_ret
                  exact ⟨by rw [HS.out, HO40.out, HD1.out, HD2.out, ← hP, HD.out, Bool.false_and]; rfl, HX2.out⟩
              · obtain rfl : j = O.length := by omega
                have HD := Lib.hid (show O.all P = true by rw [HA.out, List.drop_length]; rfl)
                clear HA HCO HX1 HXo
                go_wp2_with fail
                go_ret
                exact ⟨by rw [HS.out, HO40.out, HD1.out, HD2.out, ← hP, HD.out]; rfl, HX.out⟩
end Go.Proofs.YtgiopklnielglaaDoor
/- frame.Start, of any program. -/
namespace Go.Proofs.YtgiopklnielglaaDoor
open Go.RowKit
set_option maxHeartbeats 4000000
set_option maxRecDepth 100000
theorem goodP_first {x : PgI} (h : goodP x.p = true) : ∃ y, x.funcs[0]? = some y ∧ 0 ≤ y.f.locals ∧ y.f.locals ≤ 60 ∧ 1 ≤ y.f.code.length ∧ y.f.code.length ≤ 600 := by
  rw [goodP_parts] at h
  simp only [Bool.and_eq_true] at h
  obtain ⟨⟨⟨⟨⟨h1, _⟩, _⟩, h2⟩, _⟩, _⟩ := h
  cases hF : x.funcs with
  | nil => rw [hF] at h1; simp [inB] at h1
  | cons y F =>
    refine ⟨y, rfl, ?_⟩
    rw [hF, List.map_cons, goodFns, Bool.and_eq_true] at h2
    have h3 := h2.1
    unfold goodFn inB at h3
    simp only [Bool.and_eq_true, decide_eq_true_eq, if_true] at h3
    omega
/-- what Start leaves -/
def StartSaid (w : World) (a b c d : Int) (g : Bool) (n : Nat) (e : Ending) (w' : World) : Prop := match g with
  | false => e = .returned (machV a b c d (.slice none 0 0) (.slice none 0 0) (.slice none 0 0) 7 1 0) ∧ Ext w w'
  | true => ∃ s f, e = .returned (machV a b c d s f (.slice none 0 0) 0 1 0) ∧ OwnP w' w.heap.size 32 s 1 ((List.replicate n 1).map wordC) ∧ OwnP w' w.heap.size 55 f 4 ([⟨0, 0, 0, 1⟩].map frC) ∧ Ext w w'
theorem rep_step (k : Nat) : List.replicate k (wordC 1) ++ [[.int .u64 1]] = List.replicate (k + 1) (wordC 1) := by
  rw [List.replicate_succ']; rfl
theorem start_gen {w : World} (hk : OpLie w) (hn : w.cell? ⟨0, 0, none⟩ = some (.int .u64 1)) (x : PgI) (hx : PgP w x) (n : Nat) (hl : goodP x.p = true → ∀ y, x.funcs[0]? = some y → y.f.locals = (n : Int)) (a b c d : Int) :
    Calls Tryd.prog 11 #[.agg #[.int .i64 a, .int .i64 b, .int .i64 c, .int .i64 d], .agg #[x.vf, x.vs, x.vo]] w (StartSaid w a b c d (goodP x.p) n) := by
  have HG := Lib.hid (fun W (e : Ext w W) => code_good (hk.ext e) x (hx.ext e))
  have hfirst := goodP_first (x := x)
  obtain ⟨pf, ps, po, hf, ho⟩ := hx
  obtain ⟨F, S, O, vf, vs, vo⟩ := x
  dsimp only at pf ps po hl HG hfirst ⊢
  have hcf := pf.at
  obtain ⟨qf, nf, cf, rfl⟩ : ∃ q n c, vf = .slice q n c := by obtain ⟨q, c, hv, -⟩ := pf.at; exact ⟨q, _, c, hv⟩
  obtain ⟨qs, ns, cs, rfl⟩ : ∃ q n c, vs = .slice q n c := by obtain ⟨q, c, hv, -⟩ := ps.at; exact ⟨q, _, c, hv⟩
  obtain ⟨qo, no, co, rfl⟩ : ∃ q n c, vo = .slice q n c := by obtain ⟨q, c, hv, -⟩ := po.at; exact ⟨q, _, c, hv⟩
  have HCF := Lib.hid hcf
  have hgn : 0 < w.heap.size := by
    rcases Nat.lt_or_ge 0 w.heap.size with h | h
    · exact h
    · simp [World.cell?, Array.getElem?_eq_none h] at hn
  have HN0 := Lib.hid hn
  clear hcf pf ps po hf ho hk
  generalize goodP _ = g at HG hfirst hl ⊢
  have e1 := Ext.alloc w (.cells #[.int .i64 a, .int .i64 b, .int .i64 c, .int .i64 d] 28)
  have e2 := Ext.alloc (w.alloc (.cells #[.int .i64 a, .int .i64 b, .int .i64 c, .int .i64 d] 28)) (.cells #[.slice qf nf cf, .slice qs ns cs, .slice qo no co] 26)
  replace hn := e2.cell (e1.cell hn)
  clear e1 e2
  cases g with
  | false =>
    clear HCF hfirst hl
    go_enter Tryd.func11, Tryd.ntmps11
    go_wp2_with fail
    refine at_alloc4 fun W hE hS b0 b1 b2 b3 => ?_
    refine (HG.out _ hE).mono ?_
    rintro e w5 ⟨rfl, hx5⟩
    have r3 := (Below.block hx5 (w.heap.size + 1 + 1 + 1) (by omega)).trans b3
    have r2 := (Below.block hx5 (w.heap.size + 1 + 1) (by omega)).trans b2
    have HX5 := Lib.hid (hE.trans hx5)
    obtain ⟨m0, m1, m2, m3, m4, m5, m6, m7, m8, m9⟩ := cells10 r3
    have rf : ∀ i, w5.frozen? ⟨w.heap.size + 1 + 1, i, none⟩ = false := fun i => free_at r2
    obtain ⟨z0, z1, z2, z3, z4, z5, z6, z7, z8, z9⟩ := cells10 r2
    clear b0 b1 b2 b3 hE hS hx5 r2 r3 HG hn hgn HN0
    go_wp2_with fail
    refine bodyPost_ret (v := machV a b c d (.slice none 0 0) (.slice none 0 0) (.slice none 0 0) 7 1 0) (by simp [results, Tryd.results11, go_sem, z0, z1, z2, z3, z4, z5, z6, z7, z8, z9, machV]) rfl ⟨rfl, ?_⟩
    have n2 : w.heap.size ≤ w.heap.size + 1 + 1 := by omega
    iterate 10 refine Below.setCell ?_ n2 _
    exact HX5.out
  | true =>
    obtain ⟨y, hy, hl1, hl2, _⟩ := hfirst rfl
    have hyl := hl rfl y hy
    obtain ⟨q', c', hv, h1, h2, hcell⟩ := HCF.out
    obtain ⟨b', off, hq, hcc⟩ := hcell 0 (fnC y) (by rw [List.getElem?_map, hy]; rfl)
    obtain ⟨rfl, hnf, rfl⟩ := Value.slice.inj hv
    rw [List.length_map] at hnf
    subst hq
    have hFl : 0 < F.length := (List.getElem?_eq_some_iff.1 hy).1
    have yl0 := hcc 0 _ rfl
    simp only [Nat.zero_mul, Nat.add_zero] at yl0
    replace yl0 : w.cell? ⟨b', off, none⟩ = some (.int .i64 (n : Int)) := by rw [← hyl]; exact yl0
    have hn60 : n ≤ 60 := by omega
    have HY := Lib.hid yl0
    have hnp : (0 : Int) < (nf : Int) := by omega
    have hnp' : 0 < nf := by omega
    clear hfirst hl hyl hl1 hl2 hv hnf hcell hcc hFl yl0 HCF h1 h2 hy
    go_enter Tryd.func11, Tryd.ntmps11
    go_wp2_with fail
    refine at_alloc4 fun W hE hS b0 b1 b2 b3 => ?_
    refine (HG.out _ hE).mono ?_
    rintro e w5 ⟨rfl, hx5⟩
    have r3 := (Below.block hx5 (w.heap.size + 1 + 1 + 1) (by omega)).trans b3
    have r2 := (Below.block hx5 (w.heap.size + 1 + 1) (by omega)).trans b2
    have r1 := (Below.block hx5 (w.heap.size + 1) (by omega)).trans b1
    have HX5 := Lib.hid (hE.trans hx5)
    obtain ⟨m0, m1, m2, m3, m4, m5, m6, m7, m8, m9⟩ := cells10 r3
    have mf : ∀ i, w5.frozen? ⟨w.heap.size + 1 + 1 + 1, i, none⟩ = false := fun i => free_at r3
    have l0 : w5.cell? ⟨w.heap.size + 1, 0, none⟩ = some (.slice (some ⟨b', off, none⟩) nf cf) := cell_at r1 rfl
    have n5 := HX5.out.cell HN0.out
    have y5 := HX5.out.cell HY.out
    have hsz5 := hx5.size
    rw [hS] at hsz5
    have q0 : w.heap.size + 1 + 1 + 1 < w5.heap.size := by omega
    have q1 : w.heap.size + 1 < w5.heap.size := by omega
    have q2 : b' < w5.heap.size := by
      rcases Nat.lt_or_ge b' w5.heap.size with h | h
      · exact h
      · simp [World.cell?, Array.getElem?_eq_none h] at y5
    have q2' : b' < w.heap.size := by
      have hh := HY.out
      rcases Nat.lt_or_ge b' w.heap.size with h | h
      · exact h
      · simp [World.cell?, Array.getElem?_eq_none h] at hh
    have q3 : 0 < w5.heap.size := by omega
    have R3 := Lib.hid r3; have R2 := Lib.hid r2
    have HS5 := Lib.hid hsz5
    clear b0 b1 b2 b3 hE hS hx5 r2 r3 r1 HG hn
    go_upto_region 6 with fail
    refine wp_gen (fun W => W.heap[w.heap.size + 1 + 1 + 1]? = some (.cells #[.int .i64 a, .int .i64 b, .int .i64 c, .int .i64 d, .slice none 0 0, .slice (some ⟨w5.heap.size, 0, none⟩) 1 1, .slice none 0 0, .int .i64 0, .int .u64 1, .int .i64 0] 34 (0, 0)) ∧
      W.heap[w5.heap.size]? = some (.cells #[.int .i64 0, .int .i64 0, .int .i64 0, .int .u64 1] 55 (0, 0)) ∧ W.heap.size = w5.heap.size + 1 ∧ Turn [w.heap.size + 1 + 1 + 1] w5 W) ?_ ?_
    · have t7 := fill1 (i := 7) R3.out (.int .i64 0)
      have t5 := fill1 (i := 5) t7.1 (.slice (some ⟨w5.heap.size, 0, none⟩) 1 1)
      refine ⟨?_, new_block (by rw [t5.2.2, t7.2.2]), by simp, (t7.2.1.trans t5.2.1).trans (Turn.of_ext (Ext.alloc _ _))⟩
      rw [Below.block (Ext.alloc _ _) _ (by rw [t5.2.2, t7.2.2]; omega)]
      exact t5.1.trans rfl
    rintro W6 ⟨c3, cf6, hs6, ht6⟩
    have HX6 := Lib.hid (show Ext w W6 from Turn.below (Turn.trans (Turn.of_ext HX5.out) ht6) (Nat.le_refl _) (by intro b hb; simp at hb; subst hb; omega))
    have c2 := (ht6.block (w.heap.size + 1 + 1) (by omega) (by simp)).trans R2.out
    replace l0 := ht6.cell (by simp) l0
    replace n5 := ht6.cell (by simp <;> omega) n5
    replace y5 := ht6.cell (by simp <;> omega) y5
    clear m0 m1 m2 m3 m4 m5 m6 m7 m8 m9 mf ht6 R3 R2 HX5 q0 q1 q2 q3
    have hB : w.heap.size + 1 + 1 + 1 < W6.heap.size := by omega
    have hfb : w5.heap.size < W6.heap.size := by omega
    have HB := Lib.hid hB; have HFB := Lib.hid hfb; have HS6 := Lib.hid hs6
    have C3 := Lib.hid c3; have C2 := Lib.hid c2; have CF := Lib.hid cf6
    have HP0 := Lib.hid (show w.heap.size ≤ w5.heap.size by have := HS5.out; omega)
    have HQ2 := Lib.hid (show w.heap.size + 1 + 1 + 1 < w5.heap.size by have := HS5.out; omega)
    clear c3 c2 cf6 hB hfb hs6 hsz5 HS5
    go_wp2_with fail
    generalize hfbe : w5.heap.size = fb at *
    clear hfbe
    have HN6 := Lib.hid n5
    clear l0 y5 n5
    generalize hBe : W6.heap.size = B at *
    have HBe := Lib.hid hBe
    clear hBe
    go_loopw [25] (fun i wr => ∃ (k : Nat) (v : Value), k ≤ n ∧ i = .int .i64 k ∧ OwnP wr B 32 v 1 (List.replicate k (wordC 1)) ∧
      wr.heap[w.heap.size + 1 + 1 + 1]? = some (.cells #[.int .i64 a, .int .i64 b, .int .i64 c, .int .i64 d, v, .slice (some ⟨fb, 0, none⟩) 1 1, .slice none 0 0, .int .i64 0, .int .u64 1, .int .i64 0] 34 (0, 0)) ∧
      wr.heap[w.heap.size + 1 + 1]? = some (.cells #[.int .i64 0, .int .i64 0, .int .i64 0, .int .i64 0, .slice none 0 0, .slice none 0 0, .slice none 0 0, .int .i64 0, .int .u64 0, .int .i64 0] 34 (0, 0)) ∧
      wr.heap[fb]? = some (.cells #[.int .i64 0, .int .i64 0, .int .i64 0, .int .u64 1] 55 (0, 0)) ∧ B ≤ wr.heap.size ∧ Ext w wr) (fun i _ => n - (Go.RowKit.intOf i).toNat)
    case atStart => exact ⟨0, .slice none 0 0, by omega, rfl, OwnP.nil _ _ _ _, C3.out, C2.out, CF.out, by rw [← HBe.out]; exact Nat.le_refl _, HX6.out⟩
    case round =>
      obtain ⟨k, v, hk, rfl, ho, c3, c2, cfr, hbs, hx⟩ := hrel
      obtain ⟨qv, kv, hv, _, _⟩ := ho.len
      rw [List.length_replicate] at hv
      subst hv
      have HO := Lib.hid ho
      have HX := Lib.hid hx
      have n6 := hx.cell HN0.out
      have hbl := HB.out
      have hfl := HFB.out
      obtain ⟨m0, m1, m2, m3, m4, m5, m6, m7, m8, m9⟩ := cells10 c3
      have mf : ∀ i, wr.frozen? ⟨w.heap.size + 1 + 1 + 1, i, none⟩ = false := fun i => free_at c3
      have hp0 := HP0.out
      have q0 : w.heap.size + 1 + 1 + 1 < wr.heap.size := by omega
      have q3 : 0 < wr.heap.size := by omega
      have D3 := Lib.hid c3; have D2 := Lib.hid c2; have DF := Lib.hid cfr
      have HBS := Lib.hid hbs
      clear ho hx c3 c2 cfr hp0
      by_cases hlt : k < n
      · have i1 : (k : Int) < (n : Int) := by omega
        clear hbl hfl hbs
        go_wp2_with (refine wpList_append_rows E64 (by rfl) _ _ (by rfl) B (.slice qv k kv) (.slice (some ⟨wr.heap.size, 0, none⟩) 1 1) (List.replicate k (wordC 1)) [[.int .u64 1]] (by rfl) (HO.out.ext (Ext.alloc _ _)) (by rfl) (rows_of_block (cs := #[.int .u64 1]) (heap_alloc_new _ _) rfl (by intro u hu; simp at hu; subst hu; rfl)) (by simp; unfold maxLen; omega) (by simp; omega) (by have := HBS.out; simp; omega) ?_)
        intro v2 w2 ho2 hg2 hb2 hn2
        rw [rep_step] at ho2
        have hr : ∀ bb, (Value.slice qv k kv).ownBlock = some bb → B ≤ bb := fun bb hbb => (HO.out.own bb hbb).1
        have hgg : wr.grownBy w2 (Value.slice qv k kv).ownBlock := (grown_of_ext (Ext.alloc _ _) _).trans hg2
        have k3 := grown_block hgg D3.out (fun e => by have := hr _ e; have := HB.out; omega)
        have k2 := grown_block hgg D2.out (fun e => by have := hr _ e; have := HB.out; omega)
        have kf := grown_block hgg DF.out (fun e => by have := hr _ e; have := HFB.out; omega)
        have hx2 : Ext w w2 := Below.grown HX.out hgg HX.out.size (fun bb hbb => by have := hr _ hbb; have := HB.out; omega)
        have hs2 := hgg.size
        have HO2 := Lib.hid ho2; have K3 := Lib.hid k3; have K2 := Lib.hid k2; have KF := Lib.hid kf; have HX2 := Lib.hid hx2
        have hq0 : w.heap.size + 1 + 1 + 1 < w2.heap.size := by omega
        obtain ⟨q2, c2', hv2, _, _⟩ := ho2.len
        rw [List.length_replicate] at hv2
        subst hv2
        clear m0 m1 m2 m3 m4 m5 m6 m7 m8 m9 mf n6 ho2 hg2 hb2 hn2 hgg k2 kf hx2 hr D3 D2 DF HO q0 q3
        obtain ⟨m0, m1, m2, m3, m4, m5, m6, m7, m8, m9⟩ := cells10 k3
        have mf : ∀ i, w2.frozen? ⟨w.heap.size + 1 + 1 + 1, i, none⟩ = false := fun i => free_at k3
        clear k3
        go_wp2_with fail
        have t := fill1 (i := 4) K3.out (.slice q2 (k + 1) c2')
        refine ⟨⟨k + 1, .slice q2 (k + 1) c2', by omega, by go_num, HO2.out.turn t.2.1 (fun bb hbb => by have := (HO2.out.own bb hbb).1; have := HB.out; simp; omega), t.1.trans rfl, (t.2.1.block _ (by omega) (by simp)).trans K2.out, (t.2.1.block _ (by have := HBS.out; have := HFB.out; omega) (by have := HQ2.out; simp; omega)).trans KF.out, by rw [t.2.2]; have := HBS.out; omega, ?_⟩, by simp [Go.RowKit.intOf]; omega⟩
        exact Turn.below (Turn.trans (Turn.of_ext HX2.out) t.2.1) (Nat.le_refl _) (by intro bb hbb; simp at hbb; subst hbb; omega)
      · obtain rfl : k = n := by omega
        have rf : ∀ i, wr.frozen? ⟨w.heap.size + 1 + 1, i, none⟩ = false := fun i => free_at D2.out
        obtain ⟨z0, z1, z2, z3, z4, z5, z6, z7, z8, z9⟩ := cells10 D2.out
        have q2 : w.heap.size + 1 + 1 < wr.heap.size := by omega
        clear hbl hfl hbs
        go_wp2_with fail
        refine bodyPost_ret (v := machV a b c d (.slice qv k kv) (.slice (some ⟨fb, 0, none⟩) 1 1) (.slice none 0 0) 0 1 0) (by simp [results, Tryd.results11, go_sem, z0, z1, z2, z3, z4, z5, z6, z7, z8, z9, machV]) rfl ?_
        have n2 : w.heap.size ≤ w.heap.size + 1 + 1 := by omega
        refine ⟨_, _, rfl, ?_, ?_, ?_⟩
        · rw [List.map_replicate]
          refine (HO.out.turn (bs := [w.heap.size + 1 + 1]) ?_ (fun bb hbb => by have := (HO.out.own bb hbb).1; have := HB.out; simp; omega)).mono (by have := HB.out; omega)
          iterate 10 refine Turn.setCell ?_ (.inl (by simp)) _
          exact Turn.refl _ _
        · have hfo : OwnP wr w.heap.size 55 (.slice (some ⟨fb, 0, none⟩) 1 1) 4 ([⟨0, 0, 0, 1⟩].map frC) :=
            OwnP.of_form (l := List.map frC [⟨0, 0, 0, 1⟩]) (cap := 1) (Rows1.one rfl (by intro u hu; simp [frC] at hu; rcases hu with rfl | rfl | rfl | rfl <;> rfl)) HP0.out DF.out (by simp) (by unfold maxLen; omega) (by rfl) (by rfl)
          refine hfo.turn (bs := [w.heap.size + 1 + 1]) ?_ (fun bb hbb => by simp [Value.ownBlock] at hbb; have := HQ2.out; simp; omega)
          iterate 10 refine Turn.setCell ?_ (.inl (by simp)) _
          exact Turn.refl _ _
        · iterate 10 refine Below.setCell ?_ n2 _
          exact HX.out
end Go.Proofs.YtgiopklnielglaaDoor
/- Objects in a row of words, in plain Lean. -/
namespace Go.Proofs.YtgiopklnielglaaDoor
open Go
def rowB (tg : Int) (n m : Nat) (least most : Nat) (top : Int) : Bool := decide (0 ≤ tg) && decide (tg ≤ top) && decide (least ≤ n) && decide (n ≤ most) && decide (m = 0)
/-- may an object be: its kind, its tag, how many fields, how many bytes -/
def mayK (kd tg : Int) (n m : Nat) : Bool :=
  if kd = 1 then rowB tg n m 1 8 255 else if kd = 2 then decide (tg = 0) && decide (n = 0) && decide (m ≤ 400) else if kd = 3 then rowB tg n m 0 400 0 else if kd = 4 then rowB tg n m 0 30 59 else false
def sizeK (kd : Int) (n m : Nat) : Nat := if kd = 2 then m else n
def bodyK (kd : Int) (n m : Nat) : Nat := if kd = 2 then (m + 7) / 8 else n
def headK (kd tg : Int) (n m : Nat) : Int := kd + 256 * tg + 4294967296 * (sizeK kd n m : Int)
structure Ob where
  kind : Int
  tag : Int
  fields : List Int
  text : ByteArray
def mayO (o : Ob) : Bool := mayK o.kind o.tag o.fields.length o.text.size
def wordsO (o : Ob) : Nat := 1 + bodyK o.kind o.fields.length o.text.size
def headO (o : Ob) : Int := headK o.kind o.tag o.fields.length o.text.size
theorem rowB_true {tg : Int} {n m least most : Nat} {top : Int} (h : rowB tg n m least most top = true) : 0 ≤ tg ∧ tg ≤ top ∧ least ≤ n ∧ n ≤ most ∧ m = 0 := by
  unfold rowB at h
  simp only [Bool.and_eq_true, decide_eq_true_eq] at h
  obtain ⟨⟨⟨⟨h1, h2⟩, h3⟩, h4⟩, h5⟩ := h
  exact ⟨h1, h2, h3, h4, h5⟩
/-- what may be, by its kind -/
theorem mayK_cases {kd tg : Int} {n m : Nat} (h : mayK kd tg n m = true) : (kd = 1 ∧ 0 ≤ tg ∧ tg ≤ 255 ∧ 1 ≤ n ∧ n ≤ 8 ∧ m = 0) ∨ (kd = 2 ∧ tg = 0 ∧ n = 0 ∧ m ≤ 400) ∨ (kd = 3 ∧ tg = 0 ∧ n ≤ 400 ∧ m = 0) ∨ (kd = 4 ∧ 0 ≤ tg ∧ tg ≤ 59 ∧ n ≤ 30 ∧ m = 0) := by
  unfold mayK at h
  split at h
  · obtain ⟨h1, h2, h3, h4, h5⟩ := rowB_true h
    exact .inl ⟨by assumption, h1, h2, h3, h4, h5⟩
  · split at h
    · simp only [Bool.and_eq_true, decide_eq_true_eq] at h
      exact .inr (.inl ⟨by assumption, h.1.1, h.1.2, h.2⟩)
    · split at h
      · obtain ⟨h1, h2, h3, h4, h5⟩ := rowB_true h
        exact .inr (.inr (.inl ⟨by assumption, by omega, h4, h5⟩))
      · split at h
        · obtain ⟨h1, h2, h3, h4, h5⟩ := rowB_true h
          exact .inr (.inr (.inr ⟨by assumption, h1, h2, h4, h5⟩))
        · cases h
theorem mayK_bounds {kd tg : Int} {n m : Nat} (h : mayK kd tg n m = true) : 1 ≤ kd ∧ kd ≤ 4 ∧ 0 ≤ tg ∧ tg ≤ 255 ∧ n ≤ 400 ∧ m ≤ 400 ∧ sizeK kd n m ≤ 400 ∧ bodyK kd n m ≤ 400 := by
  unfold sizeK bodyK
  rcases mayK_cases h with ⟨rfl, h⟩ | ⟨rfl, h⟩ | ⟨rfl, h⟩ | ⟨rfl, h⟩ <;> refine ⟨by omega, by omega, by omega, by omega, by omega, by omega, ?_, ?_⟩ <;> simp <;> omega
/-- a word's eight bytes, the least first -/
def bytes8 (w : Int) : List UInt8 := (List.range 8).map fun j => UInt8.ofNat (w.toNat / 256 ^ j % 256)
def bytesOf (W : List Int) : List UInt8 := W.flatMap bytes8
/-- bytes as one number, the least first -/
def pk : List UInt8 → Nat
  | [] => 0
  | b :: l => b.toNat + 256 * pk l
def pieceN (l : List UInt8) (j : Nat) : Int := (pk ((l.drop (8 * j)).take 8) : Int)
/-- a text's words -/
def pieces (l : List UInt8) : List Int := (List.range ((l.length + 7) / 8)).map (pieceN l)
def bodyO (o : Ob) : List Int := if o.kind = 2 then pieces o.text.data.toList else o.fields
def layO (o : Ob) : List Int := headO o :: bodyO o
/-- the object that begins a row of words -/
def readS : List Int → Option Ob
  | [] => none
  | h :: r =>
    let kd := h % 256
    let tg := h / 256 % 16777216
    let sz := (h / 4294967296).toNat
    if 1 ≤ kd ∧ kd ≤ 4 ∧ sz ≤ 400 ∧ bodyK kd sz sz ≤ r.length then
      let b := r.take (bodyK kd sz sz)
      let o : Ob := if kd = 2 then ⟨kd, tg, [], ⟨((bytesOf b).take sz).toArray⟩⟩ else ⟨kd, tg, b, ByteArray.empty⟩
      if (kd = 2 → ((bytesOf b).drop sz).all (· == 0) = true) ∧ mayO o = true then some o else none
    else none
/-- all objects of a row of words, each with its place -/
def objsN : Nat → List Int → Nat → Option (List (Nat × Ob))
  | 0, _, _ => some []
  | f + 1, S, at_ => if S = [] then some [] else match readS S with
    | none => none
    | some o => (objsN f (S.drop (wordsO o)) (at_ + wordsO o)).map ((at_, o) :: ·)
def objs (S : List Int) (at_ : Nat) : Option (List (Nat × Ob)) := objsN (S.length + 1) S at_
def isIntW (w : Int) : Bool := decide (w % 2 = 1)
/-- may a word be a field: the places, the semispace's first word -/
def fieldOK (P : List Nat) (first : Nat) (w : Int) : Bool := isIntW w || (decide (w / 2 < 4294967296) && P.any fun a => decide (((first + a : Nat) : Int) = w / 2))
def fieldsOK (first : Nat) (L : List (Nat × Ob)) : Bool := L.all fun x => x.2.fields.all (fieldOK (L.map (·.1)) first)
def allS (first : Nat) (S : List Int) : Option (List (Nat × Ob)) := match objs S 0 with
  | none => none
  | some L => if fieldsOK first L then some L else none
end Go.Proofs.YtgiopklnielglaaDoor
