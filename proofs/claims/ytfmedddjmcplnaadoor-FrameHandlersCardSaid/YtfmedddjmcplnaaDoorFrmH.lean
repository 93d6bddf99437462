/- frame.Throw. -/
import Derived.Test.YtfmedddjmcplnaaDoorFrmG
import Derived.Test.YtfmedddjmcplnaaDoorLast
import Derived.Test.YtfmedddjmcplnaaDoorFill
import Derived.Deep.CutBlock
namespace Go.Proofs.YtfmedddjmcplnaaDoor
open Go.RowKit
set_option maxHeartbeats 4000000
set_option maxRecDepth 100000
/-- what Throw leaves of a machine without a handler -/
def ThrowNone (w : World) (a b c d r code : Int) (e : Ending) (w' : World) : Prop :=
  ∃ h, e = .returned (machV a b c d (.slice none 0 0) (.slice none 0 0) h 3 r (wrapW code)) ∧ OwnP w' w.heap.size 36 h 3 [] ∧ Ext w w'
theorem throw_none {w : World} {s f h : Value} {S : List Int} {F : List (List Value)} (hs : RowsP w s 1 (S.map wordC)) (hf : RowsP w f 4 F) (hh : RowsP w h 3 []) (lS : S.length ≤ 1000000) (lF : F.length ≤ 1000000) (a b c d st r co code : Int) :
    Calls Tryd.prog 10 #[machV a b c d s f h st r co, .int .i64 code] w (ThrowNone w a b c d r code) := by
  have HS := Lib.hid hs; have HF := Lib.hid hf; have HH := Lib.hid hh
  clear hs hf hh
  unfold machV
  go_enter Tryd.func10, Tryd.ntmps10
  go_wp2_with fail
  refine at_alloc2 fun W hE hS b0 b1 => ?_
  have ho := own_is (HS.out.ext hE) (HF.out.ext hE) (HH.out.ext hE) lS lF (by simp) a b c d st r co
  unfold machV at ho
  refine ho.mono ?_
  rintro e w1 ⟨s1, f1, h1, B1, B2, rfl, ho1, hb1, hf1, hb2, hh1, h3, h4, hx1⟩
  unfold machV
  have c0 := (Below.block hx1 w.heap.size (by omega)).trans b0
  have c1 := (Below.block hx1 (w.heap.size + 1) (by omega)).trans b1
  have hsz := hx1.size
  rw [hS] at hsz
  have HX := Lib.hid (hE.trans hx1)
  obtain ⟨qs, ks, rfl, _, _⟩ := ho1.len
  obtain ⟨qf, kf, rfl, _, _⟩ := hf1.len
  obtain ⟨qh, kh, rfl, _, _⟩ := hh1.len
  rw [List.length_nil] at hh1 ⊢
  generalize (List.map wordC S).length = nS at *
  generalize F.length = nF at *
  have HH1 := Lib.hid hh1
  have hB : w.heap.size + 1 + 1 ≤ B2 := by omega
  clear ho ho1 hb1 hf1 hb2 hh1 hx1 hE b0 b1 h3 h4 hS HS HF HH
  obtain ⟨m0, m1, m2, m3, m4, m5, m6, m7, m8, m9⟩ := cells10 c0
  have mf : ∀ i, w1.frozen? ⟨w.heap.size, i, none⟩ = false := fun i => free_at c0
  have C0 := Lib.hid c0
  have C1 := Lib.hid c1
  clear c0 c1
  go_upto_region 2 with fail
  refine wp_fill10 C0.out fun W2 c0 ht hs2 => ?_
  have c1 := (ht.block (w.heap.size + 1) (by omega) (by simp)).trans C1.out
  have HX2 := Lib.hid (show Ext w W2 from (Turn.below (bs := [w.heap.size]) (Turn.trans (Turn.of_ext HX.out) ht) (Nat.le_refl _) (by simp)))
  have HH2 := Lib.hid (HH1.out.turn ht (fun b hb => by have := (HH1.out.own b hb).1; simp; omega))
  clear C0 C1 HX HH1 ht m0 m1 m2 m3 m4 m5 m6 m7 m8 m9 mf
  rw [← hs2] at hsz
  clear hs2
  obtain ⟨m0, m1, m2, m3, m4, m5, m6, m7, m8, m9⟩ := cells10 c0
  have mf : ∀ i, W2.frozen? ⟨w.heap.size, i, none⟩ = false := fun i => free_at c0
  obtain ⟨z0, z1, z2, z3, z4, z5, z6, z7, z8, z9⟩ := cells10 c1
  have zf : ∀ i, W2.frozen? ⟨w.heap.size + 1, i, none⟩ = false := fun i => free_at c1
  have q0 : w.heap.size < W2.heap.size := by omega
  have q1 : w.heap.size + 1 < W2.heap.size := by omega
  clear c0 c1
  go_wp2_with fail
  refine (wordWrap_is _ _).mono ?_
  rintro e w2 ⟨rfl, rfl⟩
  go_wp2_with fail
  refine bodyPost_ret (v := machV a b c d (.slice none 0 0) (.slice none 0 0) (.slice qh 0 kh) 3 r (wrapW code)) (by simp [results, Tryd.results10, go_sem, z0, z1, z2, z3, z4, z5, z6, z7, z8, z9, machV]) rfl ?_
  refine ⟨_, rfl, (HH2.out.turn (bs := [w.heap.size, w.heap.size + 1]) ?_ (fun b hb => by have := (HH2.out.own b hb).1; simp; omega)).mono (by omega), ?_⟩
  · iterate 14 refine Turn.setCell ?_ (.inl (by simp)) _
    exact Turn.refl _ _
  · have n1 : w.heap.size ≤ w.heap.size + 1 := by omega
    iterate 10 refine Below.setCell ?_ n1 _
    iterate 4 refine Below.setCell ?_ (show w.heap.size ≤ w.heap.size from Nat.le_refl _) _
    exact HX2.out
theorem keep3x {w w' : World} {a b : Addr} {u v : Value} (h : w.cell? a = some u) (f : w.frozen? a = false) (g : w.cell? b = some v) (e : Ext w w') : w'.cell? a = some u ∧ w'.frozen? a = false ∧ w'.cell? b = some v :=
  ⟨e.cell h, (e.frozen h).trans f, e.cell g⟩
/-- what Throw leaves of a machine with a handler that fits -/
def ThrowDone (w : World) (a b c d : Int) (S : List Int) (F H0 : List (List Value)) (fc : List Value) (j p : Nat) (pc st r co code : Int) (e : Ending) (w' : World) : Prop :=
  ∃ s f h, e = .returned (machV a b c d s f h st r co) ∧ OwnP w' w.heap.size 24 s 1 ((S.take p ++ [intW code]).map wordC) ∧ OwnP w' w.heap.size 27 f 4 ((F.take (j + 1)).set j (fc.set 1 (.int .i64 pc))) ∧ OwnP w' w.heap.size 36 h 3 H0 ∧ Ext w w'
theorem throw_yes {w : World} {s f h : Value} {S : List Int} {F H0 : List (List Value)} {j p : Nat} {pc : Int} {fc : List Value} (hs : RowsP w s 1 (S.map wordC)) (hf : RowsP w f 4 F) (hh : RowsP w h 3 (H0 ++ [[.int .i64 ((j : Int) + 1), .int .i64 (p : Int), .int .i64 pc]]))
    (hj : F[j]? = some fc) (hp : p ≤ S.length) (lS : S.length ≤ 1000000) (lF : F.length ≤ 1000000) (lH : H0.length ≤ 900000) (a b c d st r co code : Int) :
    Calls Tryd.prog 10 #[machV a b c d s f h st r co, .int .i64 code] w (ThrowDone w a b c d S F H0 fc j p pc st r co code) := by
  have HS := Lib.hid hs; have HF := Lib.hid hf; have HH := Lib.hid hh
  clear hs hf hh
  have hjl : j < F.length := (List.getElem?_eq_some_iff.1 hj).1
  have HJ := Lib.hid hj
  clear hj
  unfold machV
  go_enter Tryd.func10, Tryd.ntmps10
  go_wp2_with fail
  refine at_alloc2 fun W hE hS b0 b1 => ?_
  have ho := own_is (HS.out.ext hE) (HF.out.ext hE) (HH.out.ext hE) lS lF (by simp; omega) a b c d st r co
  unfold machV at ho
  refine ho.mono ?_
  rintro e w1 ⟨s1, f1, h1, B1, B2, rfl, ho1, hb1, hf1, hb2, hh1, h3, h4, hx1⟩
  unfold machV
  have c0 := (Below.block hx1 w.heap.size (by omega)).trans b0
  have c1 := (Below.block hx1 (w.heap.size + 1) (by omega)).trans b1
  have hsz := hx1.size
  rw [hS] at hsz
  have HX := Lib.hid (hE.trans hx1)
  have hls : (S.map wordC).length = S.length := by simp
  have hlh : (H0 ++ [[Value.int .i64 ((j : Int) + 1), .int .i64 (p : Int), .int .i64 pc]]).length = H0.length + 1 := by simp
  obtain ⟨qs, ks, rfl, hks, _⟩ := ho1.len
  obtain ⟨qf, kf, rfl, hkf, _⟩ := hf1.len
  obtain ⟨qh, kh, rfl, hkh, _⟩ := hh1.len
  rw [hlh] at hh1 hkh ⊢
  rw [hls] at ho1 hb1 hks ⊢
  rw [hS] at ho1
  clear hlh hls
  have HO1 := Lib.hid ho1; have HF1 := Lib.hid hf1; have HH1 := Lib.hid hh1; have HB1 := Lib.hid hb1; have HB2 := Lib.hid hb2
  rw [hS] at h3
  clear ho ho1 hf1 hh1 hb1 hb2 hx1 hE b0 b1 hS HS HF HH
  obtain ⟨m0, m1, m2, m3, m4, m5, m6, m7, m8, m9⟩ := cells10 c0
  have mf : ∀ i, w1.frozen? ⟨w.heap.size, i, none⟩ = false := fun i => free_at c0
  have C0 := Lib.hid c0
  have C1 := Lib.hid c1
  clear c0 c1
  go_upto_region 2 with fail
  refine wp_fill10 C0.out fun W2 c0 ht hs2 => ?_
  have c1 := (ht.block (w.heap.size + 1) (by omega) (by simp)).trans C1.out
  have HX2 := Lib.hid (show Ext w W2 from (Turn.below (bs := [w.heap.size]) (Turn.trans (Turn.of_ext HX.out) ht) (Nat.le_refl _) (by simp)))
  have HO2 := Lib.hid (HO1.out.turn ht (fun b hb => by have := (HO1.out.own b hb).1; simp; omega))
  have HF2 := Lib.hid (HF1.out.turn ht (fun b hb => by have := (HF1.out.own b hb).1; simp; omega))
  have HH2 := Lib.hid (HH1.out.turn ht (fun b hb => by have := (HH1.out.own b hb).1; simp; omega))
  clear C0 C1 HX HO1 HF1 HH1 ht m0 m1 m2 m3 m4 m5 m6 m7 m8 m9 mf
  rw [← hs2] at hsz
  clear hs2
  obtain ⟨gh, rfl, hgh, p0, k0⟩ := HH2.out.cell (i := H0.length) (f := 0) (cs := [.int .i64 ((j : Int) + 1), .int .i64 (p : Int), .int .i64 pc]) (by simp) rfl
  obtain ⟨_, hq, k1, p1, k2⟩ := HH2.out.cell (i := H0.length) (f := 1) (cs := [.int .i64 ((j : Int) + 1), .int .i64 (p : Int), .int .i64 pc]) (by simp) rfl
  obtain ⟨_, hq', k3, p2, k4⟩ := HH2.out.cell (i := H0.length) (f := 2) (cs := [.int .i64 ((j : Int) + 1), .int .i64 (p : Int), .int .i64 pc]) (by simp) rfl
  obtain ⟨rfl⟩ := Addr.mk.inj (Option.some.inj hq)
  obtain ⟨rfl⟩ := Addr.mk.inj (Option.some.inj hq')
  clear hq hq' k0 k1 k2 k3 k4
  rw [Nat.add_zero] at p0
  have hghl : gh < W2.heap.size := (HH2.out.own gh rfl).2
  obtain ⟨m0, m1, m2, m3, m4, m5, m6, m7, m8, m9⟩ := cells10 c0
  have mf : ∀ i, W2.frozen? ⟨w.heap.size, i, none⟩ = false := fun i => free_at c0
  have q0 : w.heap.size < W2.heap.size := by omega
  have q1 : w.heap.size + 1 < W2.heap.size := by omega
  have C0 := Lib.hid c0
  have C1 := Lib.hid c1
  clear c0 c1
  go_upto_region 7 with fail
  refine wp_alloc1 fun W3 hx3 hs3 hv => ?_
  have C0' := Lib.hid ((Below.block hx3 w.heap.size (by omega)).trans C0.out)
  have C1' := Lib.hid ((Below.block hx3 (w.heap.size + 1) (by omega)).trans C1.out)
  have HX3 := Lib.hid (HX2.out.trans hx3)
  have HO3 := Lib.hid (HO2.out.ext hx3)
  have HF3 := Lib.hid (HF2.out.ext hx3)
  have HH3 := Lib.hid (HH2.out.ext hx3)
  clear p0 p1 p2 m0 m1 m2 m3 m4 m5 m6 m7 m8 m9 mf C0 C1 HX2 HO2 HF2 HH2 hx3
  obtain ⟨v0, v1, v2⟩ := cells3 hv
  have HV := Lib.hid hv
  clear hv
  generalize hvb : W2.heap.size = vb at *
  have hsz3 : vb + 1 = W3.heap.size := hs3.symm
  clear hvb hs3
  obtain ⟨m0, m1, m2, m3, m4, m5, m6, m7, m8, m9⟩ := cells10 C0'.out
  have mf : ∀ i, W3.frozen? ⟨w.heap.size, i, none⟩ = false := fun i => free_at C0'.out
  have HZ := Lib.hid hsz3
  have q0 : w.heap.size < W3.heap.size := by omega
  have q1 : w.heap.size + 1 < W3.heap.size := by omega
  clear hsz3
  have t1 : decide ((j : Int) + 1 < 1) = false := decide_eq_false (by omega)
  have t2 : decide ((F.length : Int) < (j : Int) + 1) = false := decide_eq_false (by omega)
  have t3 : decide ((p : Int) < 0) = false := decide_eq_false (by omega)
  have t4 : decide (S.length < p) = false := decide_eq_false (by omega)
  have hk1 : ∀ W, (Instr.slice 28 (.slice qf F.length kf) none (some (.int .i64 ((j : Int) + 1))) none).run Tryd.prog W = .ok (.slice qf (j + 1) kf) W := fun W => by
    have := run_take EFr W qf F.length kf (j + 1) (by omega) (by assumption)
    simpa using this
  go_upto_region 10 with fail
  clear t1 t2 t3 t4
  go_upto_region 11 with fail
  refine wp_fill1 C0'.out fun W4 c0 ht4 hs4 => ?_
  have hne : ∀ g', (Value.slice qs p ks).ownBlock = some g' → w.heap.size + 1 + 1 ≤ g' ∧ g' < B1 := fun g' hg' => ⟨(HO3.out.own g' (own_any hg')).1, HB1.out g' (own_any hg')⟩
  have d1 := (ht4.block (w.heap.size + 1) (by omega) (by simp)).trans C1'.out
  have dv := (ht4.block vb (by rw [← HZ.out]; omega) (by simp; omega)).trans HV.out
  have HO4 := Lib.hid ((HO3.out.take (k := p) (by simpa using hp)).turn ht4 (fun b hb => by have := (HO3.out.own b (own_any hb)).1; simp; omega))
  have HF4 := Lib.hid (HF3.out.turn ht4 (fun b hb => by have := (HF3.out.own b hb).1; simp; omega))
  have HH4 := Lib.hid (HH3.out.turn ht4 (fun b hb => by have := (HH3.out.own b hb).1; simp; omega))
  have HX4 := Lib.hid (show Ext w W4 from (Turn.below (bs := [w.heap.size]) (Turn.trans (Turn.of_ext HX3.out) ht4) (Nat.le_refl _) (by simp)))
  have HN := Lib.hid hne
  have hvb : w.heap.size + 1 + 1 ≤ vb ∧ B1 ≤ vb := by omega
  have p4 : W4.cell? ⟨w.heap.size, 4, none⟩ = some (.slice qs S.length ks) := cell_at c0 rfl
  have f4 : W4.frozen? ⟨w.heap.size, 4, none⟩ = false := free_at c0
  have x1 : W4.cell? ⟨vb, 1, none⟩ = some (.int .i64 (p : Int)) := cell_at dv rfl
  have hk2 : ∀ W, (Instr.slice 31 (.slice qs S.length ks) none (some (.int .i64 (p : Int))) none).run Tryd.prog W = .ok (.slice qs p ks) W := fun W => run_take E64 W qs S.length ks p (by omega) (by assumption)
  have HC0 := Lib.hid c0; have HD1 := Lib.hid d1; have HDV := Lib.hid dv
  have HP4 := Lib.hid p4; have HF4' := Lib.hid f4; have HX1 := Lib.hid x1
  have HS4 := Lib.hid hs4
  have hs5 : W3.heap.size ≤ W4.heap.size := by omega
  clear hs4 c0 d1 dv hne C0' C1' HX3 HO3 HF3 HH3 HV m0 m1 m2 m3 m4 m5 m6 m7 m8 m9 mf hk1 v0 v1 v2 ht4
  refine wp_region_noPanic ?_
  refine wp_region_last 10 (S := (fun w' => w'.cell? ⟨w.heap.size, 4, none⟩ = some (.slice qs S.length ks) ∧ w'.frozen? ⟨w.heap.size, 4, none⟩ = false ∧ w'.cell? ⟨vb, 1, none⟩ = some (.int .i64 (p : Int)))) (by kernel_rfl) (by kernel_rfl) _ rfl ?_ (fun hHeld => ?_)
  · (first | exact keep3x HP4.out HF4'.out HX1.out (Ext.drew _) | exact keep3x HP4.out HF4'.out HX1.out (Ext.trans (Ext.alloc _ _) (Ext.drew _)) | exact hS1)
  simp only [List.take_succ_cons, List.take_zero]
  refine wpAnyH_take (i := 0) (v := ?v1) rfl (by kernel_rfl) (by kernel_rfl) (by kernel_rfl) (fun _ _ _ h => h) (Or.inl ⟨by rfl, ?y1⟩) (by assumption) ?r1
  case y1 => intro w hSw; (try dsimp only at hSw); go_simp; (try with_reducible rfl)
  (try simp only [Act.put, List.setIfInBounds_toArray, List.set_cons_zero, List.set_cons_succ, List.getElem_toArray, List.getElem_cons_zero, List.getElem_cons_succ])
  refine wpAnyH_take (i := 1) (v := ?v2) rfl (by kernel_rfl) (by kernel_rfl) (by kernel_rfl) (fun _ _ _ h => h) (Or.inl ⟨by rfl, ?y2⟩) (by assumption) ?r2
  case y2 => intro w hSw; (try dsimp only at hSw); go_simp; (try with_reducible rfl)
  (try simp only [Act.put, List.setIfInBounds_toArray, List.set_cons_zero, List.set_cons_succ, List.getElem_toArray, List.getElem_cons_zero, List.getElem_cons_succ])
  refine wpAnyH_take (i := 2) (v := ?v3) rfl (by kernel_rfl) (by kernel_rfl) (by kernel_rfl) (fun _ _ _ h => h) (Or.inl ⟨by rfl, ?y3⟩) (by assumption) ?r3
  case y3 => intro w hSw; (try dsimp only at hSw); go_simp; (try with_reducible rfl)
  (try simp only [Act.put, List.setIfInBounds_toArray, List.set_cons_zero, List.set_cons_succ, List.getElem_toArray, List.getElem_cons_zero, List.getElem_cons_succ])
  refine wpAnyH_take (i := 3) (v := ?v4) rfl (by kernel_rfl) (by kernel_rfl) (by kernel_rfl) (fun _ _ _ h => h) (Or.inl ⟨by rfl, ?y4⟩) (by assumption) ?r4
  case y4 => intro w hSw; (try dsimp only at hSw); go_simp; (try with_reducible rfl)
  (try simp only [Act.put, List.setIfInBounds_toArray, List.set_cons_zero, List.set_cons_succ, List.getElem_toArray, List.getElem_cons_zero, List.getElem_cons_succ])
  refine wpAnyH_take (i := 4) (v := ?v5) rfl (by kernel_rfl) (by kernel_rfl) (by kernel_rfl) (fun _ _ _ h => h) (Or.inl ⟨by rfl, ?y5⟩) (by assumption) ?r5
  case y5 => intro w hSw; (try dsimp only at hSw); go_simp; (try with_reducible rfl)
  (try simp only [Act.put, List.setIfInBounds_toArray, List.set_cons_zero, List.set_cons_succ, List.getElem_toArray, List.getElem_cons_zero, List.getElem_cons_succ])
  refine wpAnyH_take (i := 5) (v := ?v6) rfl (by kernel_rfl) (by kernel_rfl) (by kernel_rfl) (fun _ _ _ h => h) (Or.inl ⟨by rfl, ?y6⟩) (by assumption) ?r6
  case y6 => intro w hSw; (try dsimp only at hSw); go_simp; (try with_reducible rfl)
  (try simp only [Act.put, List.setIfInBounds_toArray, List.set_cons_zero, List.set_cons_succ, List.getElem_toArray, List.getElem_cons_zero, List.getElem_cons_succ])
  refine wpAnyH_ready (rs := [6]) (by kernel_rfl) (by simp) ?_
  refine AllReadyH.cons rfl (fun K hK => ?_) AllReadyH.nil
  go_simp
  refine (wordInt_is _ _).mono ?_
  rintro e' w' ⟨rfl, rfl⟩
  refine hK.out _ _ ?s7 (fun hHeld => ?k7)
  case s7 => ((try dsimp only); (first | exact keep3x HP4.out HF4'.out HX1.out (Ext.drew _) | exact keep3x HP4.out HF4'.out HX1.out (Ext.trans (Ext.alloc _ _) (Ext.drew _)) | exact hS1))
  clear hK K
  (try simp only [Act.put, List.setIfInBounds_toArray, List.set_cons_zero, List.set_cons_succ, List.getElem_toArray, List.getElem_cons_zero, List.getElem_cons_succ])
  refine wpAnyH_ready (rs := [7]) (by kernel_rfl) (by simp) ?_
  refine AllReadyH.cons rfl (fun K hK => ?_) AllReadyH.nil
  go_simp
  refine hK.out _ _ ?s8 (fun hHeld => ?k8)
  case s8 => ((try dsimp only); (first | exact keep3x HP4.out HF4'.out HX1.out (Ext.drew _) | exact keep3x HP4.out HF4'.out HX1.out (Ext.trans (Ext.alloc _ _) (Ext.drew _)) | exact hS1))
  clear hK K
  (try simp only [Act.put, List.setIfInBounds_toArray, List.set_cons_zero, List.set_cons_succ, List.getElem_toArray, List.getElem_cons_zero, List.getElem_cons_succ])
  refine wpAnyH_ready (rs := [8]) (by kernel_rfl) (by simp) ?_
  refine AllReadyH.cons rfl (fun K hK => ?_) AllReadyH.nil
  have e1 : Ext W4 (W4.alloc (.cells #[.int .u64 (intW code)] 24)).drew := Ext.trans (Ext.alloc _ _) (Ext.drew _)
  refine step_append_rows E64 (by rfl) _ _ (by rfl) (w.heap.size + 1 + 1) (.slice qs p ks) (.slice (some ⟨W4.heap.size, 0, none⟩) 1 1) ((S.map wordC).take p) [[.int .u64 (intW code)]] (by rfl) (HO4.out.ext e1) (by rfl) (rows_of_block (cs := #[.int .u64 (intW code)]) (heap_alloc_new W4 _) rfl (by intro u hu; simp at hu; subst hu; rfl)) (by simp; unfold maxLen; omega) (by simp; omega) (by have := e1.size; omega) ?_
  intro v5 w5 ho5 hg5 hb5 hn5
  have hg : W4.grownBy w5 (Value.slice qs p ks).ownBlock := (grown_of_ext e1 _).trans hg5
  have hrn : (Value.slice qs p ks).ownBlock ≠ some w.heap.size := fun e => by have := (HN.out _ e).1; omega
  have hrv : (Value.slice qs p ks).ownBlock ≠ some vb := fun e => by have := (HN.out _ e).2; omega
  have hS1 : w5.cell? ⟨w.heap.size, 4, none⟩ = some (.slice qs S.length ks) ∧ w5.frozen? ⟨w.heap.size, 4, none⟩ = false ∧ w5.cell? ⟨vb, 1, none⟩ = some (.int .i64 (p : Int)) :=
    ⟨hg.cell HP4.out (Ne.symm hrn), (World.frozen?_of_block (hg.block w.heap.size (by omega) (Ne.symm hrn))).trans HF4'.out, hg.cell HX1.out (Ne.symm hrv)⟩
  refine hK.out _ _ ?s9 (fun hHeld => ?k9)
  case s9 => ((try dsimp only); (first | exact keep3x HP4.out HF4'.out HX1.out (Ext.drew _) | exact keep3x HP4.out HF4'.out HX1.out (Ext.trans (Ext.alloc _ _) (Ext.drew _)) | exact hS1))
  clear hK K
  (try simp only [Act.put, List.setIfInBounds_toArray, List.set_cons_zero, List.set_cons_succ, List.getElem_toArray, List.getElem_cons_zero, List.getElem_cons_succ])
  refine wpAnyH_take (i := 9) (v := ?v10) rfl (by kernel_rfl) (by kernel_rfl) (by kernel_rfl) (fun _ _ _ h => h) (Or.inl ⟨by rfl, ?y10⟩) (by assumption) ?r10
  case y10 => intro w hSw; (try dsimp only at hSw); go_simp; (try with_reducible rfl)
  (try simp only [Act.put, List.setIfInBounds_toArray, List.set_cons_zero, List.set_cons_succ, List.getElem_toArray, List.getElem_cons_zero, List.getElem_cons_succ])
  refine wpAnyH_done (by kernel_rfl) ?_ _
  show wpList _ _ _ _ _ _
  have c0 := grown_block hg HC0.out hrn
  have d1 := grown_block hg HD1.out (fun e => by have := (HN.out _ e).1; omega)
  have dv := grown_block hg HDV.out hrv
  obtain ⟨v0, v1, v2⟩ := cells3 dv
  have hF5 := HF4.out.grown hg (fun b hb e => by have := (HN.out _ e).2; have := (HF4.out.own b hb).1; omega)
  have hH5 := HH4.out.grown hg (fun b hb e => by have := (HN.out _ e).2; have := (HH4.out.own b hb).1; omega)
  have hx5 : Ext w w5 := Below.grown HX4.out hg HX4.out.size (fun b hb => by have := (HN.out b hb).1; omega)
  have hnb : ∀ b, v5.ownBlock = some b → b < B1 ∨ W4.heap.size ≤ b := fun b hb => by
    rcases hb5 with h | h
    · rw [h] at hb; exact .inl (HN.out b hb).2
    · rw [h] at hb; have := Option.some.inj hb; have h6 := e1.size; omega
  obtain ⟨q5, k5, rfl, _, _⟩ := ho5.len
  obtain ⟨m4, mf4, _⟩ := hS1
  have hsz5 := hg.size
  have C0' := Lib.hid c0; have D1 := Lib.hid d1; have HX5 := Lib.hid hx5; have HO5 := Lib.hid ho5; have HF5 := Lib.hid hF5; have HH5 := Lib.hid hH5; have HNB := Lib.hid hnb
  clear c0 d1 dv hx5 ho5 hF5 hH5 hnb hg hg5 hb5 hn5 hHeld e1 HC0 HD1 HDV HO4 HF4 HH4 HX4 HP4 HF4' HX1 hk2
  go_wp2
  refine NoPanic.normal ?_
  go_upto_region 12 with fail
  refine wp_fill1 C0'.out fun W6 c0 ht6 hs6 => ?_
  have d1 := (ht6.block (w.heap.size + 1) (by omega) (by simp)).trans D1.out
  have hF6 := (HF5.out.take (k := j + 1) (by omega)).turn ht6 (fun b hb => by have := (HF5.out.own b (own_any hb)).1; simp; omega)
  have HH6 := Lib.hid (HH5.out.turn ht6 (fun b hb => by have := (HH5.out.own b hb).1; simp; omega))
  have HO6 := Lib.hid (HO5.out.turn ht6 (fun b hb => by have := (HO5.out.own b hb).1; simp; omega))
  have HX6 := Lib.hid (show Ext w W6 from (Turn.below (bs := [w.heap.size]) (Turn.trans (Turn.of_ext HX5.out) ht6) (Nat.le_refl _) (by simp)))
  have hz := HZ.out
  have x0 : W6.cell? ⟨vb, 0, none⟩ = some (.int .i64 ((j : Int) + 1)) := by rw [World.cell?_of_block (w := w5) (ht6.block vb (by omega) (by simp; omega))]; exact v0
  have x2 : W6.cell? ⟨vb, 2, none⟩ = some (.int .i64 pc) := by rw [World.cell?_of_block (w := w5) (ht6.block vb (by omega) (by simp; omega))]; exact v2
  have hfj : (F.take (j + 1))[j]? = some fc := by rw [List.getElem?_take_of_lt (by omega)]; exact HJ.out
  have hfl : fc.length = 4 := (HF5.out.1 fc (List.mem_of_getElem? HJ.out)).1
  obtain ⟨gf, rfl, hgf, y1, yf⟩ := hF6.cell (i := j) (f := 1) hfj (List.getElem?_eq_getElem (by omega))
  have HF6 := Lib.hid hF6
  obtain ⟨m0, m1, m2, m3, m4', m5, m6, m7, m8, m9⟩ := cells10 c0
  have mf : ∀ i, W6.frozen? ⟨w.heap.size, i, none⟩ = false := fun i => free_at c0
  obtain ⟨z0, z1, z2, z3, z4, z5, z6, z7, z8, z9⟩ := cells10 d1
  have zf : ∀ i, W6.frozen? ⟨w.heap.size + 1, i, none⟩ = false := fun i => free_at d1
  generalize fc[1]'(by omega) = fc1 at *
  have n1 : ¬ gf = w.heap.size := by omega
  have n2 : ¬ gf = w.heap.size + 1 := by omega
  have n3 : ¬ w.heap.size = gf := by omega
  have n4 : ¬ w.heap.size + 1 = gf := by omega
  have n5 : ¬ vb = gf := by have := HB2.out gf rfl; omega
  have hk3 : ∀ W, (Instr.slice 32 (.slice (some ⟨gh, 0, none⟩) (H0.length + 1) kh) none (some (.int .i64 (H0.length : Int))) none).run Tryd.prog W = .ok (.slice (some ⟨gh, 0, none⟩) H0.length kh) W := fun W => run_take EHd W (some ⟨gh, 0, none⟩) (H0.length + 1) kh H0.length (by omega) (by assumption)
  have hvs : (S.map wordC).take p ++ [[Value.int .u64 (intW code)]] = (S.take p ++ [intW code]).map wordC := by simp [wordC]
  have hvl : ((S.map wordC).take p ++ [[Value.int .u64 (intW code)]]).length = p + 1 := by simp; omega
  have HO7 := Lib.hid (show OwnP W6 (w.heap.size + 1 + 1) 24 (.slice q5 (p + 1) k5) 1 ((S.take p ++ [intW code]).map wordC) by rw [← hvs, ← hvl]; exact HO6.out)
  have hgf2 := HB2.out gf rfl
  have hnb6 : ∀ b, (Value.slice q5 (p + 1) k5).ownBlock = some b → w.heap.size + 1 + 1 ≤ b ∧ b ≠ gf := fun b hb => ⟨(HO7.out.own b hb).1, fun e => by rcases HNB.out b (own_any hb) with h | h <;> omega⟩
  have HNB6 := Lib.hid hnb6
  have HFJ := Lib.hid hfj
  clear hvs hvl hnb6 HO6 hz c0 d1 hF6 hfj hfl v0 v1 v2 m4 mf4 ht6
  go_wp2_with fail
  have ht7 := HH6.out.take (k := H0.length) (by simp)
  rw [List.take_append_of_le_length (Nat.le_refl _), List.take_length] at ht7
  refine bodyPost_ret (v := machV a b c d (.slice q5 (p + 1) k5) (.slice (some ⟨gf, 0, none⟩) (j + 1) kf) (.slice (some ⟨gh, 0, none⟩) H0.length kh) st r co) (by simp [results, Tryd.results10, go_sem, z0, z1, z2, z3, z4, z5, z6, z7, z8, z9, n1, n2, n3, n4, machV]) rfl ?_
  have m0 : w.heap.size ≤ w.heap.size := Nat.le_refl _
  have m1 : w.heap.size ≤ w.heap.size + 1 := by omega
  have mg : w.heap.size ≤ gf := by omega
  refine ⟨_, _, _, rfl, (HO7.out.turn (bs := [gf, w.heap.size, w.heap.size + 1]) ?_ (fun b hb => by have := HNB6.out b hb; simp; omega)).mono (by omega), ((HF6.out.store (u := .int .i64 pc) HFJ.out (by omega) rfl).turn (bs := [w.heap.size, w.heap.size + 1]) ?_ (fun b hb => by simp [Value.ownBlock] at hb; simp; omega)).mono (by omega), (ht7.turn (bs := [gf, w.heap.size, w.heap.size + 1]) ?_ (fun b hb => by simp [Value.ownBlock] at hb; simp; omega)).mono (by omega), ?_⟩
  · iterate 12 refine Turn.setCell ?_ (.inl (by simp)) _
    exact Turn.refl _ _
  · iterate 11 refine Turn.setCell ?_ (.inl (by simp)) _
    exact Turn.refl _ _
  · iterate 12 refine Turn.setCell ?_ (.inl (by simp)) _
    exact Turn.refl _ _
  · iterate 10 refine Below.setCell ?_ m1 _
    refine Below.setCell ?_ m0 _
    refine Below.setCell ?_ mg _
    exact HX6.out
end Go.Proofs.YtfmedddjmcplnaaDoor
