/- frame.own. -/
import Derived.Test.YtfmedddjmcplnaaDoorFrmF
import Derived.Test.YtfmedddjmcplnaaDoorWd
import Derived.Test.YtfmedddjmcplnaaDoorFrmShelf
namespace Go.Proofs.YtfmedddjmcplnaaDoor
open Go.RowKit
set_option maxHeartbeats 4000000
set_option maxRecDepth 100000
theorem EFr : ElemT Tryd.prog 28 27 4 32 := ⟨Tryd.underlying28, ⟨.agg #[.int .i64 0, .int .i64 0, .int .i64 0, .int .u64 0], by kernel_rfl, rfl⟩, by decide⟩
theorem EHd : ElemT Tryd.prog 32 36 3 24 := ⟨Tryd.underlying32, ⟨.agg #[.int .i64 0, .int .i64 0, .int .i64 0], by kernel_rfl, rfl⟩, by decide⟩
/-- a machine's value -/
def machV (a b c d : Int) (s f h : Value) (st r co : Int) : Value := .agg #[.int .i64 a, .int .i64 b, .int .i64 c, .int .i64 d, s, f, h, .int .i64 st, .int .u64 r, .int .i64 co]
theorem clone_f {w : World} {v : Value} {F : List (List Value)} (h : RowsP w v 4 F) (hl : F.length ≤ 1000000) : Calls Tryd.prog 28 #[v] w fun e w' => ∃ v', e = .returned v' ∧ OwnP w' w.heap.size 27 v' 4 F ∧ Ext w w' := by
  obtain ⟨z, hinfo, hz⟩ := EFr.info
  obtain ⟨i0, hi, hz0, hz1, hz2⟩ := info_parts hinfo
  obtain ⟨h1, h2⟩ := h
  rcases h2 with ⟨rfl, rfl⟩ | ⟨b, off, c, rfl, h4, h5, h6⟩
  · exact (AnyE.slices_Clone_nil Tryd.clonefA 0 0 w).mono fun e w' ⟨he, hw⟩ => ⟨_, he, OwnP.nil _ _ _ _, by rw [hw]; exact Ext.refl _⟩
  · exact (AnyE.slices_Clone Tryd.clonefA i0 z 4 32 hi hz0 hz1 hz2 hz (by decide) (fun W => by kernel_rfl) b off F.length c F.flatten w (flat_len h1) (by unfold maxLen; omega) (by omega) h6 (flat_one h1)).mono
      fun e w' ⟨v', he, ho, _, hb⟩ => ⟨v', he, ⟨h1, ho⟩, hb⟩
theorem clone_h {w : World} {v : Value} {F : List (List Value)} (h : RowsP w v 3 F) (hl : F.length ≤ 1000000) : Calls Tryd.prog 29 #[v] w fun e w' => ∃ v', e = .returned v' ∧ OwnP w' w.heap.size 36 v' 3 F ∧ Ext w w' := by
  obtain ⟨z, hinfo, hz⟩ := EHd.info
  obtain ⟨i0, hi, hz0, hz1, hz2⟩ := info_parts hinfo
  obtain ⟨h1, h2⟩ := h
  rcases h2 with ⟨rfl, rfl⟩ | ⟨b, off, c, rfl, h4, h5, h6⟩
  · exact (AnyE.slices_Clone_nil Tryd.clonehA 0 0 w).mono fun e w' ⟨he, hw⟩ => ⟨_, he, OwnP.nil _ _ _ _, by rw [hw]; exact Ext.refl _⟩
  · exact (AnyE.slices_Clone Tryd.clonehA i0 z 3 24 hi hz0 hz1 hz2 hz (by decide) (fun W => by kernel_rfl) b off F.length c F.flatten w (flat_len h1) (by unfold maxLen; omega) (by omega) h6 (flat_one h1)).mono
      fun e w' ⟨v', he, ho, _, hb⟩ => ⟨v', he, ⟨h1, ho⟩, hb⟩
theorem clone_w {w : World} {v : Value} {F : List (List Value)} (h : RowsP w v 1 F) (hl : F.length ≤ 1000000) : Calls Tryd.prog 27 #[v] w fun e w' => ∃ v', e = .returned v' ∧ OwnP w' w.heap.size 24 v' 1 F ∧ Ext w w' := by
  obtain ⟨z, hinfo, hz⟩ := E64.info
  obtain ⟨i0, hi, hz0, hz1, hz2⟩ := info_parts hinfo
  obtain ⟨h1, h2⟩ := h
  rcases h2 with ⟨rfl, rfl⟩ | ⟨b, off, c, rfl, h4, h5, h6⟩
  · exact (AnyE.slices_Clone_nil Tryd.clonewA 0 0 w).mono fun e w' ⟨he, hw⟩ => ⟨_, he, OwnP.nil _ _ _ _, by rw [hw]; exact Ext.refl _⟩
  · exact (AnyE.slices_Clone Tryd.clonewA i0 z 1 8 hi hz0 hz1 hz2 hz (by decide) (fun W => by kernel_rfl) b off F.length c F.flatten w (flat_len h1) (by unfold maxLen; omega) (by omega) h6 (flat_one h1)).mono
      fun e w' ⟨v', he, ho, _, hb⟩ => ⟨v', he, ⟨h1, ho⟩, hb⟩
/-- what own leaves -/
def OwnDone (w : World) (a b c d : Int) (S : List Int) (F H : List (List Value)) (st r co : Int) (e : Ending) (w' : World) : Prop :=
  ∃ s f h B1 B2, e = .returned (machV a b c d s f h st r co) ∧ OwnP w' w.heap.size 24 s 1 (S.map wordC) ∧ (∀ b, s.ownBlock = some b → b < B1) ∧ OwnP w' B1 27 f 4 F ∧ (∀ b, f.ownBlock = some b → b < B2) ∧ OwnP w' B2 36 h 3 H ∧ w.heap.size ≤ B1 ∧ B1 ≤ B2 ∧ Ext w w'
theorem own_end {w w7 W : World} {a b c d st r co : Int} {S : List Int} {F H : List (List Value)} {sl : Nat} {f h : Value} {B1 B2 : Nat} (_ : Ext w w7)
    (ho : OwnP w7 w.heap.size 24 (.slice (some ⟨w.heap.size + 1 + 1, 0, none⟩) sl sl) 1 (S.map wordC)) (hf : OwnP w7 B1 27 f 4 F) (hfb : ∀ b, f.ownBlock = some b → b < B2) (hh : OwnP w7 B2 36 h 3 H)
    (h3 : w.heap.size + 1 + 1 + 1 ≤ B1) (h4 : B1 ≤ B2) (e : Ext w W) (t : Turn [w.heap.size, w.heap.size + 1] w7 W) :
    OwnDone w a b c d S F H st r co (.returned (machV a b c d (.slice (some ⟨w.heap.size + 1 + 1, 0, none⟩) sl sl) f h st r co)) W := by
  refine ⟨_, _, _, B1, B2, rfl, ho.turn t (fun b hb => ?_), fun b hb => ?_, hf.turn t (fun b hb => ?_), hfb, hh.turn t (fun b hb => ?_), by omega, h4, e⟩
  · simp [Value.ownBlock] at hb; simp; omega
  · simp [Value.ownBlock] at hb; omega
  · have := (hf.own b hb).1; simp; omega
  · have := (hh.own b hb).1; simp; omega
theorem own_is {w : World} {s f h : Value} {S : List Int} {F H : List (List Value)} (hs : RowsP w s 1 (S.map wordC)) (hf : RowsP w f 4 F) (hh : RowsP w h 3 H) (lS : S.length ≤ 1000000) (lF : F.length ≤ 1000000) (lH : H.length ≤ 1000000) (a b c d st r co : Int) :
    Calls Tryd.prog 21 #[machV a b c d s f h st r co] w (OwnDone w a b c d S F H st r co) := by
  obtain ⟨q, cs, hq, hq1, hq2, hq3⟩ := hs.at
  clear hq1 hq2 hq3
  rw [List.length_map] at hq
  subst hq
  have hmk := run_make_row' (P := Tryd.prog) 31 24 (.int .u64 0) 8 Tryd.underlying31 (by kernel_rfl) rfl .i64 .i64 S.length (by omega) (by omega)
  have HS := Lib.hid hs; have HF := Lib.hid hf; have HH := Lib.hid hh
  clear hs hf hh
  unfold machV
  go_enter Tryd.func21, Tryd.ntmps21
  go_wp2_with (refine wpList_copy_rows E64 (by rfl) _ _ (by rfl) w.heap.size (.slice (some ⟨w.heap.size + 1 + 1, 0, none⟩) S.length S.length) _ (List.replicate S.length [.int .u64 0]) (S.map wordC) (by rfl) (made_at rfl (by simp) (by omega) (by unfold maxLen; omega)) (by rfl) (HS.out.ext (((Ext.alloc _ _).trans (Ext.alloc _ _)).trans (Ext.alloc _ _))) ?_)
  intro w3 ho hg hsz
  rw [show (S.map wordC).take S.length = S.map wordC from List.take_of_length_le (by simp)] at ho
  obtain ⟨hx3, h3, b0, b1⟩ := grown3 hg rfl
  clear hg hsz
  have HO := Lib.hid ho
  clear ho
  obtain ⟨m0, m1, m2, m3, m4, m5, m6, m7, m8, m9⟩ := cells10 b0
  have mf : ∀ i, w3.frozen? ⟨w.heap.size, i, none⟩ = false := fun i => free_at b0
  go_wp2_with fail
  refine at_gen (fun W => W.heap[w.heap.size]? = some (.cells #[.int .i64 a, .int .i64 b, .int .i64 c, .int .i64 d, .slice (some ⟨w.heap.size + 1 + 1, 0, none⟩) S.length S.length, f, h, .int .i64 st, .int .u64 r, .int .i64 co] 34 (0, 0)) ∧
    W.heap[w.heap.size + 1]? = w3.heap[w.heap.size + 1]? ∧ W.heap[w.heap.size + 1 + 1]? = w3.heap[w.heap.size + 1 + 1]? ∧ Ext w W ∧ W.heap.size = w3.heap.size) ?_ ?_
  · refine ⟨(Go.Lib.heap_setCell_same b0 _).trans rfl, Below.heap_setCell _ _ _ _ (by simp), Below.heap_setCell _ _ _ _ (by simp; omega), Below.setCell hx3 (Nat.le_refl _) _, by simp⟩
  · clear b0 m0 m1 m2 m3 m4 m5 m6 m7 m8 m9 mf
    rintro W4 ⟨c0, c1, c2, hx4, hs4⟩
    rw [b1] at c1
    have HO4 := Lib.hid (HO.out.stays (w' := W4) (fun b hb _ => by simp [Value.ownBlock] at hb; subst hb; exact c2))
    clear HO c2 b1
    rw [← hs4] at h3
    refine (clone_f (HF.out.ext hx4) lF).mono ?_
    rintro e w5 ⟨f', rfl, hf', hx5⟩
    have d0 := (Below.block hx5 w.heap.size (by omega)).trans c0
    have d1 := (Below.block hx5 (w.heap.size + 1) (by omega)).trans c1
    have HX5 := Lib.hid (hx4.trans hx5)
    have HO5 := Lib.hid (HO4.out.ext hx5)
    have HF5 := Lib.hid hf'
    have s5 : W4.heap.size ≤ w5.heap.size := hx5.size
    clear HO4 hf' hx4 hx5 c0 c1
    generalize W4.heap.size = B1 at *
    obtain ⟨m0, m1, m2, m3, m4, m5, m6, m7, m8, m9⟩ := cells10 d0
    have mf : ∀ i, w5.frozen? ⟨w.heap.size, i, none⟩ = false := fun i => free_at d0
    clear hs4
    obtain ⟨qf, nf, cf, hvf⟩ : ∃ q n c, f' = .slice q n c := by obtain ⟨q, c, h, _⟩ := HF5.out.len; exact ⟨_, _, _, h⟩
    subst hvf
    go_wp2_with fail
    refine at_gen (fun W => W.heap[w.heap.size]? = some (.cells #[.int .i64 a, .int .i64 b, .int .i64 c, .int .i64 d, .slice (some ⟨w.heap.size + 1 + 1, 0, none⟩) S.length S.length, .slice qf nf cf, h, .int .i64 st, .int .u64 r, .int .i64 co] 34 (0, 0)) ∧
      Turn [w.heap.size] w5 W ∧ Ext w W ∧ W.heap.size = w5.heap.size) ?_ ?_
    · refine ⟨(Go.Lib.heap_setCell_same d0 _).trans rfl, (Turn.refl _ _).setCell (.inl (by simp)) _, Below.setCell HX5.out (Nat.le_refl _) _, by simp⟩
    · clear d0 m0 m1 m2 m3 m4 m5 m6 m7 m8 m9 mf
      rintro W6 ⟨c0, ht6, hx6, hs6⟩
      have c1 := (ht6.block (w.heap.size + 1) (by omega) (by simp)).trans d1
      have HO6 := Lib.hid (HO5.out.turn ht6 (fun b hb => by simp [Value.ownBlock] at hb; simp; omega))
      have HF6 := Lib.hid (HF5.out.turn ht6 (fun b hb => by have := (HF5.out.own b hb).1; simp; omega))
      clear HO5 HF5 ht6 d1
      refine (clone_h (HH.out.ext hx6) lH).mono ?_
      rintro e w7 ⟨h', rfl, hh', hx7⟩
      have d0 := (Below.block hx7 w.heap.size (by omega)).trans c0
      have d1 := (Below.block hx7 (w.heap.size + 1) (by omega)).trans c1
      have HX7 := Lib.hid (hx6.trans hx7)
      have HO7 := Lib.hid (HO6.out.ext hx7)
      have HF7 := Lib.hid (HF6.out.ext hx7)
      have HH7 := Lib.hid hh'
      have HB2 := Lib.hid (show ∀ b, (Value.slice qf nf cf).ownBlock = some b → b < W6.heap.size from fun b hb => (HF6.out.own b hb).2)
      have s7 : W6.heap.size ≤ w7.heap.size := hx7.size
      clear HO6 HF6 hx6 hx7 hh' c0 c1
      rw [← hs6] at s5
      generalize W6.heap.size = B2 at *
      obtain ⟨m0, m1, m2, m3, m4, m5, m6, m7, m8, m9⟩ := cells10 d0
      have mf : ∀ i, w7.frozen? ⟨w.heap.size, i, none⟩ = false := fun i => free_at d0
      obtain ⟨z0, z1, z2, z3, z4, z5, z6, z7, z8, z9⟩ := cells10 d1
      have zf : ∀ i, w7.frozen? ⟨w.heap.size + 1, i, none⟩ = false := fun i => free_at d1
      obtain ⟨qh, nh, ch, hvh⟩ : ∃ q n c, h' = .slice q n c := by obtain ⟨q, c, h, _⟩ := HH7.out.len; exact ⟨_, _, _, h⟩
      subst hvh
      clear d0 d1 hs6
      go_wp2_with fail
      refine bodyPost_ret (v := machV a b c d (.slice (some ⟨w.heap.size + 1 + 1, 0, none⟩) S.length S.length) (.slice qf nf cf) (.slice qh nh ch) st r co) (by simp [results, Tryd.results21, go_sem, z0, z1, z2, z3, z4, z5, z6, z7, z8, z9, machV]) rfl ?_
      have n1 : w.heap.size ≤ w.heap.size + 1 := by omega
      refine own_end HX7.out HO7.out HF7.out HB2.out HH7.out h3 s5 ?_ ?_
      · iterate 10 refine Below.setCell ?_ n1 _
        refine Below.setCell HX7.out (Nat.le_refl _) _
      · iterate 11 refine Turn.setCell ?_ (.inl (by simp)) _
        exact Turn.refl _ _
end Go.Proofs.YtfmedddjmcplnaaDoor
