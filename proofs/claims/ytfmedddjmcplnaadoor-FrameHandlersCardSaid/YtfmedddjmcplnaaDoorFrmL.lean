/- FrameHandlers' walk. -/
import Derived.Test.YtfmedddjmcplnaaDoorFrmK
import Derived.Test.YtfmedddjmcplnaaDoorIntIn
namespace Go.Proofs.YtfmedddjmcplnaaDoor
open Go.RowKit
set_option maxHeartbeats 4000000
set_option maxRecDepth 100000
def handC (j : Nat) : List Value := [.int .i64 (((0 : Nat) : Int) + 1), .int .i64 (j : Int), .int .i64 (j : Int)]
def hands (n : Nat) : List (List Value) := (List.range n).map handC
def wds (n : Nat) : List Int := (List.range n).map fun j : Nat => intW (j : Int)
theorem hands_succ (n : Nat) : hands (n + 1) = hands n ++ [handC n] := by simp [hands, List.range_succ]
theorem wds_succ (n : Nat) : wds (n + 1) = wds n ++ [intW (n : Int)] := by simp [wds, List.range_succ]
theorem hands_len (n : Nat) : (hands n).length = n := by simp [hands]
theorem wds_len (n : Nat) : (wds n).length = n := by simp [wds]
/-- the machine of the law, as it lies -/
structure MSt (w : World) (B mb : Nat) (S : List Int) (x : Fr) (H : List (List Value)) (s f h : Value) : Prop where
  row : w.heap[mb]? = some (.cells #[.int .i64 0, .int .i64 0, .int .i64 0, .int .i64 0, s, f, h, .int .i64 0, .int .u64 (intW 0), .int .i64 0] 34 (0, 0))
  so : OwnP w B 24 s 1 (S.map wordC)
  fo : OwnP w B 27 f 4 [frC x]
  ho : OwnP w B 36 h 3 H
  sm : ∀ b, s.ownBlock = some b → b ≠ mb
  fm : ∀ b, f.ownBlock = some b → b ≠ mb
  hm : ∀ b, h.ownBlock = some b → b ≠ mb
  sf : ∀ b, s.ownBlock = some b → f.ownBlock ≠ some b
  sh : ∀ b, s.ownBlock = some b → h.ownBlock ≠ some b
  fh : ∀ b, f.ownBlock = some b → h.ownBlock ≠ some b
theorem MSt.push_s {w w' W : World} {B mb : Nat} {S S' : List Int} {x : Fr} {H : List (List Value)} {s s' f h : Value} (m : MSt w B mb S x H s f h) (hmb : mb < w.heap.size) (g : w.grownBy w' s.ownBlock) (o : OwnP w' B 24 s' 1 (S'.map wordC))
    (hn : ∀ b, s'.ownBlock = some b → s.ownBlock = some b ∨ w.heap.size ≤ b) (t : Turn [mb] w' W) (hW : W.heap[mb]? = some (.cells #[.int .i64 0, .int .i64 0, .int .i64 0, .int .i64 0, s', f, h, .int .i64 0, .int .u64 (intW 0), .int .i64 0] 34 (0, 0))) : MSt W B mb S' x H s' f h where
  row := hW
  so := o.turn t (fun b hb => (hn b hb).elim (fun h1 hm => m.sm b h1 (by simpa using hm)) (fun h1 => by simp; omega))
  fo := (m.fo.grown g (fun b hb e => m.sf b e hb)).turn t (fun b hb => by simpa using m.fm b hb)
  ho := (m.ho.grown g (fun b hb e => m.sh b e hb)).turn t (fun b hb => by simpa using m.hm b hb)
  sm := fun b hb => (hn b hb).elim (fun h1 => m.sm b h1) (fun h1 => by omega)
  fm := m.fm
  hm := m.hm
  sf := fun b hb hf => (hn b hb).elim (fun h1 => m.sf b h1 hf) (fun h1 => by have := (m.fo.own b hf).2; omega)
  sh := fun b hb hh => (hn b hb).elim (fun h1 => m.sh b h1 hh) (fun h1 => by have := (m.ho.own b hh).2; omega)
  fh := m.fh
theorem MSt.push_h {w w' W : World} {B mb : Nat} {S : List Int} {x : Fr} {H H' : List (List Value)} {s f h h' : Value} (m : MSt w B mb S x H s f h) (hmb : mb < w.heap.size) (g : w.grownBy w' h.ownBlock) (o : OwnP w' B 36 h' 3 H')
    (hn : ∀ b, h'.ownBlock = some b → h.ownBlock = some b ∨ w.heap.size ≤ b) (t : Turn [mb] w' W) (hW : W.heap[mb]? = some (.cells #[.int .i64 0, .int .i64 0, .int .i64 0, .int .i64 0, s, f, h', .int .i64 0, .int .u64 (intW 0), .int .i64 0] 34 (0, 0))) : MSt W B mb S x H' s f h' where
  row := hW
  so := (m.so.grown g (fun b hb e => m.sh b hb e)).turn t (fun b hb => by simpa using m.sm b hb)
  fo := (m.fo.grown g (fun b hb e => m.fh b hb e)).turn t (fun b hb => by simpa using m.fm b hb)
  ho := o.turn t (fun b hb => (hn b hb).elim (fun h1 hm => m.hm b h1 (by simpa using hm)) (fun h1 => by simp; omega))
  sm := m.sm
  fm := m.fm
  hm := fun b hb => (hn b hb).elim (fun h1 => m.hm b h1) (fun h1 => by omega)
  sf := m.sf
  sh := fun b hb hh => (hn b hh).elim (fun h1 => m.sh b hb h1) (fun h1 => by have := (m.so.own b hb).2; omega)
  fh := fun b hb hh => (hn b hh).elim (fun h1 => m.fh b hb h1) (fun h1 => by have := (m.fo.own b hb).2; omega)
theorem MSt.grown {w w' : World} {B mb : Nat} {S : List Int} {x : Fr} {H : List (List Value)} {s f h : Value} (m : MSt w B mb S x H s f h) (e : Ext w w') : MSt w' B mb S x H s f h where
  row := (Below.block e mb (Array.getElem?_eq_some_iff.1 m.row).1).trans m.row
  so := m.so.ext e
  fo := m.fo.ext e
  ho := m.ho.ext e
  sm := m.sm
  fm := m.fm
  hm := m.hm
  sf := m.sf
  sh := m.sh
  fh := m.fh
/-- the machine of the second loop -/
structure MS2 (w : World) (B mb : Nat) (S : List Int) (x : Fr) (H : List (List Value)) (s f h : Value) : Prop where
  row : w.heap[mb]? = some (.cells #[.int .i64 0, .int .i64 0, .int .i64 0, .int .i64 0, s, f, h, .int .i64 0, .int .u64 (intW 0), .int .i64 0] 34 (0, 0))
  so : OwnP w B 24 s 1 (S.map wordC)
  fo : OwnP w B 27 f 4 [frC x]
  ho : OwnP w B 36 h 3 H
theorem MSt.two {w : World} {B mb : Nat} {S : List Int} {x : Fr} {H : List (List Value)} {s f h : Value} (m : MSt w B mb S x H s f h) : MS2 w B mb S x H s f h := ⟨m.row, m.so, m.fo, m.ho⟩
theorem MS2.ext {w w' : World} {B mb : Nat} {S : List Int} {x : Fr} {H : List (List Value)} {s f h : Value} (m : MS2 w B mb S x H s f h) (e : Ext w w') : MS2 w' B mb S x H s f h :=
  ⟨(Below.block e mb (Array.getElem?_eq_some_iff.1 m.row).1).trans m.row, m.so.ext e, m.fo.ext e, m.ho.ext e⟩
theorem keep2w {w w' : World} {a : Addr} {v : Value} (h : w.cell? a = some v) (f : w.frozen? a = false) (e : Ext w w') : w'.cell? a = some v ∧ w'.frozen? a = false := ⟨e.cell h, (e.frozen h).trans f⟩
theorem handlers_long {w : World} {v : Value} {L : List Int} {m : Nat} (hk : FrmLie w) (hv : IntSl w v .i64 L) (hm : m ≤ 255) (hl : 25 < L.length) : Calls Tryd.prog 3 #[.int .u8 (m : Int), v] w (TrueExt w) := by
  obtain ⟨⟨q, c, rfl, h1, h2, _⟩, _⟩ := hv
  have b1 : decide (25 < L.length) = true := decide_eq_true hl
  have HK := Lib.hid hk
  clear hk
  unfold maxLen at h2
  go_enter Tryd.func3, Tryd.ntmps3
  go_wp2_with fail
  refine (wakes_is _ HK.out).mono ?_
  rintro e w1 ⟨rfl, hx⟩
  go_wp2
  go_ret
  exact ⟨rfl, hx⟩
theorem handlers_short {w : World} {v : Value} {L : List Int} {m : Nat} (hk : FrmLie w) (hv : IntSl w v .i64 L) (hm : m ≤ 255) (hl : L.length ≤ 25) : Calls Tryd.prog 3 #[.int .u8 (m : Int), v] w (TrueExt w) := by
  obtain ⟨⟨q, c, rfl, h1, h2, hc⟩, _⟩ := hv
  have HC := Lib.hid hc
  have b1 : decide (25 < L.length) = false := decide_eq_false (by omega)
  have HK := Lib.hid hk
  clear hk hc
  unfold maxLen at h2
  go_enter Tryd.func3, Tryd.ntmps3
  go_upto_region 2 with fail
  obtain ⟨k, hk⟩ : ∃ k : Nat, (m : Int) % 20 = (k : Int) ∧ k < 20 := ⟨m % 20, by omega, by omega⟩
  rw [hk.1]
  have hk20 := hk.2
  clear hk
  go_wp2_with fail
  refine (refInt_is _ _).mono ?_
  rintro e w1 ⟨rfl, rfl⟩
  go_wp2_with fail
  refine wp_alloc2 fun W hE hS b0 b1 => ?_
  have HX := Lib.hid hE
  have HI := Lib.hid (show MSt W w.heap.size (w.heap.size + 1) [] ⟨0, 0, 0, 0⟩ [] (.slice none 0 0) (.slice (some ⟨w.heap.size, 0, none⟩) 1 1) (.slice none 0 0) from {
    row := b1
    so := OwnP.nil _ _ _ _
    fo := OwnP.of_form (l := [frC ⟨0, 0, 0, 0⟩]) (cap := 1) (Rows1.one rfl (by intro u hu; simp [frC] at hu; rcases hu with rfl | rfl | rfl | rfl <;> rfl)) (Nat.le_refl _) b0 (Nat.le_refl _) (by unfold maxLen; omega) rfl rfl
    ho := OwnP.nil _ _ _ _
    sm := fun b hb => by simp [Value.ownBlock] at hb
    fm := fun b hb => by simp [Value.ownBlock] at hb; omega
    hm := fun b hb => by simp [Value.ownBlock] at hb
    sf := fun b hb => by simp [Value.ownBlock] at hb
    sh := fun b hb => by simp [Value.ownBlock] at hb
    fh := fun b hb => by simp [Value.ownBlock] })
  generalize hmb : w.heap.size + 1 = mb at *
  have hmbl : w.heap.size < mb ∧ mb < W.heap.size := by omega
  clear hE hS b0 b1 hmb
  go_loopw [7] (fun i wr => ∃ j : Nat, j ≤ k ∧ i = .int .i64 j ∧ (∃ s f h, MSt wr w.heap.size mb (wds j) ⟨0, 0, 0, 0⟩ (hands j) s f h) ∧ Ext w wr ∧ mb < wr.heap.size) (fun i _ => k - (intOf i).toNat)
  case atStart => exact ⟨0, by omega, rfl, ⟨_, _, _, HI.out⟩, HX.out, hmbl.2⟩
  case round =>
    obtain ⟨j, hj, rfl, ⟨s, f, h, hst⟩, hx, hmr⟩ := hrel
    have HX' := Lib.hid hx
    clear hx HX HI
    by_cases hlt : j < k
    · skip
      --<<ONE
      obtain ⟨qs, ks, rfl, _, _⟩ := hst.so.len
      rw [List.length_map, wds_len] at hst
      have P4 : wr.cell? ⟨mb, 4, none⟩ = some (.slice qs j ks) := cell_at hst.row rfl
      have F4 : wr.frozen? ⟨mb, 4, none⟩ = false := free_at hst.row
      have HM := Lib.hid hst
      have HP4 := Lib.hid P4; have HF4 := Lib.hid F4
      clear hst P4 F4
      have hxr : w.heap.size ≤ wr.heap.size := HX'.out.size
      go_upto_region 8 with fail
      refine wp_region_noPanic ?_
      refine wp_region_last 7 (S := (fun w' => w'.cell? ⟨mb, 4, none⟩ = some (.slice qs j ks) ∧ w'.frozen? ⟨mb, 4, none⟩ = false)) (by kernel_rfl) (by kernel_rfl) _ rfl ?_ (fun hHeld => ?_)
      · (first | exact keep2w HP4.out HF4.out (Ext.drew _) | exact keep2w HP4.out HF4.out (Ext.trans (Ext.alloc _ _) (Ext.drew _)) | exact hS1)
      simp only [List.take_succ_cons, List.take_zero]
      refine wpAnyH_take (i := 0) (v := ?v1) rfl (by kernel_rfl) (by kernel_rfl) (by kernel_rfl) (fun _ _ _ h => h) (Or.inl ⟨by rfl, ?y1⟩) (by assumption) ?r1
      case y1 => intro w hSw; (try dsimp only at hSw); go_simp; (try with_reducible rfl)
      (try simp only [Act.put, List.setIfInBounds_toArray, List.set_cons_zero, List.set_cons_succ, List.getElem_toArray, List.getElem_cons_zero, List.getElem_cons_succ])
      refine wpAnyH_take (i := 1) (v := ?v2) rfl (by kernel_rfl) (by kernel_rfl) (by kernel_rfl) (fun _ _ _ h => h) (Or.inl ⟨by rfl, ?y2⟩) (by assumption) ?r2
      case y2 => intro w hSw; (try dsimp only at hSw); go_simp; (try with_reducible rfl)
      (try simp only [Act.put, List.setIfInBounds_toArray, List.set_cons_zero, List.set_cons_succ, List.getElem_toArray, List.getElem_cons_zero, List.getElem_cons_succ])
      refine wpAnyH_take (i := 2) (v := ?v3) rfl (by kernel_rfl) (by kernel_rfl) (by kernel_rfl) (fun _ _ _ h => h) (Or.inl ⟨by rfl, ?y3⟩) (by assumption) ?r3
      case y3 => intro w hSw; (try dsimp only at hSw); go_simp; (try with_reducible rfl)
      (try simp only [Act.put, List.setIfInBounds_toArray, List.set_cons_zero, List.set_cons_succ, List.getElem_toArray, List.getElem_cons_zero, List.getElem_cons_succ])
      refine wpAnyH_ready (rs := [3]) (by kernel_rfl) (by simp) ?_
      refine AllReadyH.cons rfl (fun K hK => ?_) AllReadyH.nil
      go_simp
      refine (refInt_is _ _).mono ?_
      rintro e' w' ⟨rfl, rfl⟩
      refine hK.out _ _ ?s4 (fun hHeld => ?k4)
      case s4 => ((try dsimp only); (first | exact keep2w HP4.out HF4.out (Ext.drew _) | exact keep2w HP4.out HF4.out (Ext.trans (Ext.alloc _ _) (Ext.drew _)) | exact hS1))
      clear hK K
      (try simp only [Act.put, List.setIfInBounds_toArray, List.set_cons_zero, List.set_cons_succ, List.getElem_toArray, List.getElem_cons_zero, List.getElem_cons_succ])
      refine wpAnyH_ready (rs := [4]) (by kernel_rfl) (by simp) ?_
      refine AllReadyH.cons rfl (fun K hK => ?_) AllReadyH.nil
      go_simp
      refine hK.out _ _ ?s5 (fun hHeld => ?k5)
      case s5 => ((try dsimp only); (first | exact keep2w HP4.out HF4.out (Ext.drew _) | exact keep2w HP4.out HF4.out (Ext.trans (Ext.alloc _ _) (Ext.drew _)) | exact hS1))
      clear hK K
      (try simp only [Act.put, List.setIfInBounds_toArray, List.set_cons_zero, List.set_cons_succ, List.getElem_toArray, List.getElem_cons_zero, List.getElem_cons_succ])
      refine wpAnyH_ready (rs := [5]) (by kernel_rfl) (by simp) ?_
      refine AllReadyH.cons rfl (fun K hK => ?_) AllReadyH.nil
      have e1 : Ext wr (wr.alloc (.cells #[.int .u64 (intW (j : Int))] 24)).drew := Ext.trans (Ext.alloc _ _) (Ext.drew _)
      refine step_append_rows E64 (by rfl) _ _ (by rfl) w.heap.size (.slice qs j ks) (.slice (some ⟨wr.heap.size, 0, none⟩) 1 1) ((wds j).map wordC) [[.int .u64 (intW (j : Int))]] (by rfl) (HM.out.so.ext e1) (by rfl) (rows_of_block (cs := #[.int .u64 (intW (j : Int))]) (heap_alloc_new wr _) rfl (by intro u hu; simp at hu; subst hu; rfl)) (by simp [wds_len]; unfold maxLen; omega) (by simp [wds_len]; omega) (by have := e1.size; omega) ?_
      intro v5 w5 ho5 hg5 hb5 hn5
      have hg : wr.grownBy w5 (Value.slice qs j ks).ownBlock := (grown_of_ext e1 _).trans hg5
      have hS1 : w5.cell? ⟨mb, 4, none⟩ = some (.slice qs j ks) ∧ w5.frozen? ⟨mb, 4, none⟩ = false :=
        ⟨hg.cell HP4.out (fun e => HM.out.sm mb e.symm rfl), (World.frozen?_of_block (hg.block mb hmr (fun e => HM.out.sm mb e.symm rfl))).trans HF4.out⟩
      refine hK.out _ _ ?s6 (fun hHeld => ?k6)
      case s6 => ((try dsimp only); (first | exact keep2w HP4.out HF4.out (Ext.drew _) | exact keep2w HP4.out HF4.out (Ext.trans (Ext.alloc _ _) (Ext.drew _)) | exact hS1))
      clear hK K
      (try simp only [Act.put, List.setIfInBounds_toArray, List.set_cons_zero, List.set_cons_succ, List.getElem_toArray, List.getElem_cons_zero, List.getElem_cons_succ])
      refine wpAnyH_take (i := 6) (v := ?v7) rfl (by kernel_rfl) (by kernel_rfl) (by kernel_rfl) (fun _ _ _ h => h) (Or.inl ⟨by rfl, ?y7⟩) (by assumption) ?r7
      case y7 => intro w hSw; (try dsimp only at hSw); go_simp; (try with_reducible rfl)
      (try simp only [Act.put, List.setIfInBounds_toArray, List.set_cons_zero, List.set_cons_succ, List.getElem_toArray, List.getElem_cons_zero, List.getElem_cons_succ])
      refine wpAnyH_done (by kernel_rfl) ?_ _
      show wpList _ _ _ _ _ _
      have hr5 := grown_block hg HM.out.row (fun e => HM.out.sm mb e rfl)
      have hwd : (wds j).map wordC ++ [[Value.int .u64 (intW (j : Int))]] = (wds (j + 1)).map wordC := by rw [wds_succ, List.map_append]; rfl
      rw [hwd] at ho5
      have hnb : ∀ b, v5.ownBlock = some b → (Value.slice qs j ks).ownBlock = some b ∨ wr.heap.size ≤ b := fun b hb => by
        rcases hb5 with h | h
        · rw [h] at hb; exact .inl hb
        · rw [h] at hb; have := Option.some.inj hb; have h6 := e1.size; omega
      obtain ⟨m4, mf4⟩ := hS1
      obtain ⟨q5, k5, rfl, _, _⟩ := ho5.len
      rw [List.length_map, wds_len] at ho5 hnb ⊢
      have HR5 := Lib.hid hr5; have HG := Lib.hid hg; have HO5 := Lib.hid ho5; have HNB := Lib.hid hnb
      have hx5 : Ext w w5 := Below.grown HX'.out hg hxr (fun b hb => (HM.out.so.own b hb).1)
      have HX5 := Lib.hid hx5
      have hsz5 := hg.size
      clear hr5 hg ho5 hnb hwd hg5 hb5 hn5 hHeld e1 hx5
      go_wp2
      refine NoPanic.normal ?_
      go_upto_region 9 with fail
      refine wp_fill1 HR5.out fun W6 c0 ht6 hs6 => ?_
      have hm6 := HM.out.push_s hmr HG.out HO5.out HNB.out ht6 (c0.trans rfl)
      have HX6 := Lib.hid (show Ext w W6 from (Turn.below (bs := [mb]) (Turn.trans (Turn.of_ext HX5.out) ht6) (Nat.le_refl _) (by intro b hb; simp at hb; subst hb; omega)))
      have hmr6 : mb < W6.heap.size := by omega
      clear hs6
      obtain ⟨qh, kh, rfl, _, _⟩ := hm6.ho.len
      rw [hands_len] at hm6 c0
      have HM6 := Lib.hid hm6
      clear hm6 ht6 HM HP4 HF4 HX' HX5 HR5 HG HO5 HNB m4 mf4
      obtain ⟨m0, m1, m2, m3, m4, m5, m6, m7, m8, m9⟩ := cells10 HM6.out.row
      have mf : ∀ i, W6.frozen? ⟨mb, i, none⟩ = false := fun i => free_at HM6.out.row
      clear c0
      have hxr6 : w.heap.size ≤ W6.heap.size := HX6.out.size
      go_wp2_with (refine wpList_append_rows EHd (by rfl) _ _ (by rfl) w.heap.size (.slice qh j kh) (.slice (some ⟨W6.heap.size, 0, none⟩) 1 1) (hands j) [[.int .i64 1, .int .i64 j, .int .i64 j]] (by rfl) (HM6.out.ho.ext (Ext.alloc _ _)) (by rfl) (rows_of_block (cs := #[.int .i64 1, .int .i64 j, .int .i64 j]) (heap_alloc_new _ _) rfl (by intro u hu; simp at hu; rcases hu with rfl | rfl <;> rfl)) (by simp [hands_len]; unfold maxLen; omega) (by simp [hands_len]; omega) (by simp; omega) ?_)
      intro v7 w7 ho7 hg7 hb7 hn7
      have hg := (World.grownBy_alloc W6 (.cells #[.int .i64 1, .int .i64 (j : Int), .int .i64 (j : Int)] 36) (Value.slice qh j kh).ownBlock).trans hg7
      have hhd : hands j ++ [[Value.int .i64 1, .int .i64 (j : Int), .int .i64 (j : Int)]] = hands (j + 1) := by rw [hands_succ]; rfl
      rw [hhd] at ho7
      have hnb : ∀ b, v7.ownBlock = some b → (Value.slice qh j kh).ownBlock = some b ∨ W6.heap.size ≤ b := fun b hb => by
        rcases hb7 with h | h
        · rw [h] at hb; exact .inl hb
        · rw [h] at hb; have := Option.some.inj hb; omega
      have hr7 := grown_block hg HM6.out.row (fun e => HM6.out.hm mb e rfl)
      have hx7 : Ext w w7 := Below.grown HX6.out hg hxr6 (fun b hb => (HM6.out.ho.own b hb).1)
      have HR7 := Lib.hid hr7; have HG := Lib.hid hg; have HO7 := Lib.hid ho7; have HNB := Lib.hid hnb; have HX7 := Lib.hid hx7
      have hsz7 := hg.size
      obtain ⟨q7, k7, rfl, _, _⟩ := ho7.len
      clear m0 m1 m2 m3 m4 m5 m6 m7 m8 m9 mf
      have m6 : w7.cell? ⟨mb, 6, none⟩ = some (.slice qh j kh) := cell_at hr7 rfl
      have mf : w7.frozen? ⟨mb, 6, none⟩ = false := free_at hr7
      clear hr7 hg ho7 hnb hhd hg7 hb7 hn7 hx7
      go_wp2
      obtain ⟨c1, ht7, hs7⟩ := fill1 (i := 6) HR7.out (Value.slice q7 (hands (j + 1)).length k7)
      refine ⟨⟨j + 1, by omega, by go_num, ⟨_, _, _, HM6.out.push_h hmr6 HG.out HO7.out HNB.out ht7 (c1.trans rfl)⟩, Turn.below (bs := [mb]) (Turn.trans (Turn.of_ext HX7.out) ht7) (Nat.le_refl _) (by intro b hb; simp at hb; subst hb; omega), by omega⟩, by simp [intOf]; omega⟩
      -->>ONE
    · obtain rfl : j = k := by omega
      obtain ⟨W1, rfl⟩ : ∃ W1 : World, W1 = wr := ⟨_, rfl⟩
      have HI := Lib.hid hst.two
      have HX := HX'
      have hm1 := hmr
      clear hst hmr
      go_wp2_with fail
      go_loopw [8] (fun i wr => ∃ i' : Nat, i' ≤ L.length ∧ i' ≤ j ∧ i = .int .i64 i' ∧ (∃ S x s f h, MS2 wr w.heap.size mb S x (hands (j - i')) s f h ∧ j - i' ≤ S.length ∧ S.length ≤ 30) ∧ Ext w wr ∧ mb < wr.heap.size) (fun i _ => L.length - (intOf i).toNat)
      case atStart => exact ⟨0, by omega, by omega, rfl, ⟨_, _, _, _, _, HI.out, by rw [wds_len]; omega, by rw [wds_len]; omega⟩, HX.out, hm1⟩
      case round =>
        obtain ⟨i', hi1, hi2, rfl, ⟨S, x, s, f, h, hst, hS1, hS2⟩, hx, hmr⟩ := hrel
        clear HI HX HX' hm1
        have HX := Lib.hid hx
        clear hx
        obtain ⟨qs, ks, rfl, _, _⟩ := hst.so.len
        obtain ⟨qf, kf, rfl, _, _⟩ := hst.fo.len
        obtain ⟨qh, kh, rfl, _, _⟩ := hst.ho.len
        rw [hands_len, List.length_map, List.length_singleton] at hst
        have HM := Lib.hid hst
        obtain ⟨m0, m1, m2, m3, m4, m5, m6, m7, m8, m9⟩ := cells10 hst.row
        clear hst
        by_cases hlt : i' < L.length
        · have hLi := List.getElem?_eq_getElem hlt
          generalize L[i'] = cd at hLi
          obtain ⟨cb, off, rfl, hcc⟩ := HC.out i' cd hLi
          have hcw := HX.out.cell hcc
          have HC0 := Lib.hid hcc
          have HKEEP := Lib.hid (show ∀ w', Ext wr w' → (w'.cell? ⟨mb, 0, none⟩ = some (.int .i64 0) ∧ w'.cell? ⟨mb, 1, none⟩ = some (.int .i64 0) ∧ w'.cell? ⟨mb, 2, none⟩ = some (.int .i64 0) ∧ w'.cell? ⟨mb, 3, none⟩ = some (.int .i64 0) ∧ w'.cell? ⟨mb, 4, none⟩ = some (.slice qs S.length ks) ∧ w'.cell? ⟨mb, 5, none⟩ = some (.slice qf 1 kf) ∧
              w'.cell? ⟨mb, 6, none⟩ = some (.slice qh (j - i') kh) ∧ w'.cell? ⟨mb, 7, none⟩ = some (.int .i64 0) ∧ w'.cell? ⟨mb, 8, none⟩ = some (.int .u64 (intW 0)) ∧ w'.cell? ⟨mb, 9, none⟩ = some (.int .i64 0)) ∧ w'.cell? ⟨cb, off + i', none⟩ = some (.int .i64 cd) from
            fun w' e => ⟨cells10 ((Below.block e mb hmr).trans HM.out.row), e.cell hcw⟩)
          have hxr : w.heap.size ≤ wr.heap.size := HX.out.size
          clear hLi hcc hcw
          by_cases hij : i' < j
          · skip
            --<<TWO
            go_upto_region 14 with fail
            clear m0 m1 m2 m3 m4 m5 m6 m7 m8 m9
            refine wp_region_noPanic ?_
            refine wp_region_last 6 (S := (fun w' => (w'.cell? ⟨mb, 0, none⟩ = some (.int .i64 0) ∧ w'.cell? ⟨mb, 1, none⟩ = some (.int .i64 0) ∧ w'.cell? ⟨mb, 2, none⟩ = some (.int .i64 0) ∧ w'.cell? ⟨mb, 3, none⟩ = some (.int .i64 0) ∧ w'.cell? ⟨mb, 4, none⟩ = some (.slice qs S.length ks) ∧ w'.cell? ⟨mb, 5, none⟩ = some (.slice qf 1 kf) ∧ w'.cell? ⟨mb, 6, none⟩ = some (.slice qh (j - i') kh) ∧ w'.cell? ⟨mb, 7, none⟩ = some (.int .i64 0) ∧ w'.cell? ⟨mb, 8, none⟩ = some (.int .u64 (intW 0)) ∧ w'.cell? ⟨mb, 9, none⟩ = some (.int .i64 0)) ∧ w'.cell? ⟨cb, off + i', none⟩ = some (.int .i64 cd))) (by kernel_rfl) (by kernel_rfl) _ rfl ?_ (fun hHeld => ?_)
            · (first | exact HKEEP.out _ (Ext.drew _) | exact HKEEP.out _ hx1)
            simp only [List.take_succ_cons, List.take_zero]
            refine wpAnyH_take (i := 0) (v := ?v8) rfl (by kernel_rfl) (by kernel_rfl) (by kernel_rfl) (fun _ _ _ h => h) (Or.inl ⟨by rfl, ?y8⟩) (by assumption) ?r8
            case y8 => intro w hSw; (try dsimp only at hSw); go_simp; (try with_reducible rfl)
            (try simp only [Act.put, List.setIfInBounds_toArray, List.set_cons_zero, List.set_cons_succ, List.getElem_toArray, List.getElem_cons_zero, List.getElem_cons_succ])
            refine wpAnyH_take (i := 1) (v := ?v9) rfl (by kernel_rfl) (by kernel_rfl) (by kernel_rfl) (fun _ _ _ h => h) (Or.inl ⟨by rfl, ?y9⟩) (by assumption) ?r9
            case y9 => intro w hSw; (try dsimp only at hSw); go_simp; (try with_reducible rfl)
            (try simp only [Act.put, List.setIfInBounds_toArray, List.set_cons_zero, List.set_cons_succ, List.getElem_toArray, List.getElem_cons_zero, List.getElem_cons_succ])
            refine wpAnyH_take (i := 2) (v := ?v10) rfl (by kernel_rfl) (by kernel_rfl) (by kernel_rfl) (fun _ _ _ h => h) (Or.inl ⟨by rfl, ?y10⟩) (by assumption) ?r10
            case y10 => intro w hSw; (try dsimp only at hSw); go_simp; (try with_reducible rfl)
            (try simp only [Act.put, List.setIfInBounds_toArray, List.set_cons_zero, List.set_cons_succ, List.getElem_toArray, List.getElem_cons_zero, List.getElem_cons_succ])
            refine wpAnyH_take (i := 3) (v := ?v11) rfl (by kernel_rfl) (by kernel_rfl) (by kernel_rfl) (fun _ _ _ h => h) (Or.inl ⟨by rfl, ?y11⟩) (by assumption) ?r11
            case y11 => intro w hSw; (try dsimp only at hSw); go_simp; (try with_reducible rfl)
            (try simp only [Act.put, List.setIfInBounds_toArray, List.set_cons_zero, List.set_cons_succ, List.getElem_toArray, List.getElem_cons_zero, List.getElem_cons_succ])
            refine wpAnyH_take (i := 4) (v := ?v12) rfl (by kernel_rfl) (by kernel_rfl) (by kernel_rfl) (fun _ _ _ h => h) (Or.inl ⟨by rfl, ?y12⟩) (by assumption) ?r12
            case y12 => intro w hSw; (try dsimp only at hSw); go_simp; (try with_reducible rfl)
            (try simp only [Act.put, List.setIfInBounds_toArray, List.set_cons_zero, List.set_cons_succ, List.getElem_toArray, List.getElem_cons_zero, List.getElem_cons_succ])
            refine wpAnyH_ready (rs := [5]) (by kernel_rfl) (by simp) ?_
            refine AllReadyH.cons rfl (fun K hK => ?_) AllReadyH.nil
            go_simp
            have hhd : hands (j - i') = hands (j - i' - 1) ++ [handC (j - i' - 1)] := by rw [← hands_succ, show j - i' - 1 + 1 = j - i' by omega]
            have hhr : RowsP wr.drew (.slice qh (j - i') kh) 3 (hands (j - i' - 1) ++ [[.int .i64 (((0 : Nat) : Int) + 1), .int .i64 ((j - i' - 1 : Nat) : Int), .int .i64 ((j - i' - 1 : Nat) : Int)]]) := by
              have h := (HM.out.ho.ext (Ext.drew _)).p
              rw [hhd] at h; exact h
            have hr := throw_yes (S := S) (F := [frC x]) (fc := frC x) ((HM.out.so.ext (Ext.drew _)).p) ((HM.out.fo.ext (Ext.drew _)).p) hhr rfl (by omega) (by omega) (by simp) (by rw [hands_len]; omega) 0 0 0 0 0 (intW 0) 0 cd
            unfold machV at hr
            refine hr.mono ?_
            rintro e' w' ⟨s', f', h', rfl, hs', hf', hh', hx'⟩
            have hx1 : Ext wr w' := (Ext.drew _).trans hx'
            refine hK.out _ _ ?s13 (fun hHeld => ?k13)
            case s13 => ((try dsimp only); (first | exact HKEEP.out _ (Ext.drew _) | exact HKEEP.out _ hx1))
            clear hK K
            (try simp only [Act.put, List.setIfInBounds_toArray, List.set_cons_zero, List.set_cons_succ, List.getElem_toArray, List.getElem_cons_zero, List.getElem_cons_succ])
            refine wpAnyH_done (by kernel_rfl) ?_ _
            show wpList _ _ _ _ _ _
            have hhm := (Below.block hx1 mb hmr).trans HM.out.row
            have HW := Lib.hid hhm
            have hmw : mb < w'.heap.size := (Array.getElem?_eq_some_iff.1 hhm).1
            have mf : ∀ i, w'.frozen? ⟨mb, i, none⟩ = false := fun i => free_at hhm
            obtain ⟨⟨m0, m1, m2, m3, m4, m5, m6, m7, m8, m9⟩, _⟩ := hHeld
            obtain ⟨p, hp⟩ : ∃ p : Nat, j - i' - 1 = p ∧ p + i' + 1 = j := ⟨_, rfl, by omega⟩
            have hpj := hp.2
            rw [hp.1] at hs' hf' hh'
            have HPJ := Lib.hid hpj
            have hpl : p + i' < j := by omega
            have hpl' : j ≤ p + i' + 1 := by omega
            clear hhm hp hpj
            obtain ⟨qs', ks', rfl, _, _⟩ := hs'.len
            obtain ⟨qf', kf', rfl, _, _⟩ := hf'.len
            obtain ⟨qh', kh', rfl, _, _⟩ := hh'.len
            have hsl : (List.map wordC (S.take p ++ [intW cd])).length = p + 1 := by simp; omega
            replace hf' : OwnP w' wr.drew.heap.size 27 (.slice qf' 1 kf') 4 [frC { x with pc := p }] := hf'
            have hfl : ((List.take (0 + 1) [frC x]).set 0 ((frC x).set 1 (Value.int .i64 (p : Int)))).length = 1 := rfl
            rw [hsl] at hs' ⊢
            rw [hands_len] at hh' ⊢
            rw [hfl]
            clear hsl hfl
            change OwnP w' wr.heap.size _ _ _ _ at hs'
            change OwnP w' wr.heap.size _ _ _ _ at hf'
            change OwnP w' wr.heap.size _ _ _ _ at hh'
            have HS := Lib.hid hs'; have HF := Lib.hid hf'; have HH := Lib.hid hh'; have HX1 := Lib.hid (HX.out.trans hx1)
            have hcc := (HKEEP.out w' hx1).2
            have HCC := Lib.hid hcc
            unfold machV
            go_wp2
            refine NoPanic.normal ?_
            go_upto_region 16 with fail
            refine wp_fill10 HW.out fun W6 c0 ht6 hs6 => ?_
            have hM6 : MS2 W6 w.heap.size mb (S.take p ++ [intW cd]) { x with pc := p } (hands p) (.slice qs' (p + 1) ks') (.slice qf' 1 kf') (.slice qh' p kh') := ⟨c0, (HS.out.turn ht6 (fun b hb => by have := (HS.out.own b hb).1; simp; omega)).mono (by omega), (HF.out.turn ht6 (fun b hb => by have := (HF.out.own b hb).1; simp; omega)).mono (by omega), (HH.out.turn ht6 (fun b hb => by have := (HH.out.own b hb).1; simp; omega)).mono (by omega)⟩
            have HX6 := Lib.hid (show Ext w W6 from (Turn.below (bs := [mb]) (Turn.trans (Turn.of_ext HX1.out) ht6) (Nat.le_refl _) (by intro b hb; simp at hb; subst hb; omega)))
            have hmr6 : mb < W6.heap.size := by omega
            obtain ⟨gs, rfl, _, x1, _⟩ := hM6.so.cell (i := p) (f := 0) (cs := wordC (intW cd)) (u := .int .u64 (intW cd)) (by rw [List.getElem?_map, List.getElem?_append_right (by simp; omega)]; simp [show min p S.length = p by omega]) rfl
            obtain ⟨gf, rfl, _, x2, _⟩ := hM6.fo.cell (i := 0) (f := 1) (cs := frC { x with pc := p }) (u := .int .i64 p) rfl rfl
            have HM6 := Lib.hid hM6
            obtain ⟨m0, m1, m2, m3, m4, m5, m6, m7, m8, m9⟩ := cells10 hM6.row
            have hcc6 : W6.cell? ⟨cb, off + i', none⟩ = some (.int .i64 cd) := HX6.out.cell HC0.out
            clear hM6 c0 ht6 hs6 hcc hs' hf' hh' hx1 hx' mf HM
            go_upto_region 17 with fail
            rw [show ((j : Int) - 1 - (i' : Int)) = (p : Int) by omega]
            have t0 : decide ((p : Int) < 0) = false := decide_eq_false (by omega)
            clear m0 m1 m2 m3 m4 m6 m8 m9
            go_upto_region 19 with fail
            clear t0
            have r4 := fun d os => cell_regrown (cell_at (i := 4) HM6.out.row rfl) d os
            have r5 := fun d os => cell_regrown m5 d os
            have r7 := fun d os => cell_regrown m7 d os
            have ry := fun d os => cell_regrown x2 d os
            have rx := fun d os => cell_regrown x1 d os
            have rc := fun d os => cell_regrown hcc6 d os
            have cI := fun d os => quiet_same (refInt_is cd (Go.Sort.grow (redrawn W6 d) os))
            have CI := Lib.hid cI
            have hwr : IntKind.i64.wrap ((p : Int) + 1) = (p : Int) + 1 := IntWalk.i64_in _ (by omega)
            have j1 : (p : Int) < (p : Int) + 1 := by omega
            have j2 : (i' : Int) < (L.length : Int) := by omega
            simp only [Nat.zero_mul, Nat.zero_add, Nat.add_zero, Nat.mul_one] at ry rx r4
            clear cI x1 x2 m5 m7 hcc6
            refine wp_region_quiet_below (by kernel_rfl) (by kernel_rfl) ?_
            repeat (first | go_big_quiet_step (exact CI.out _ _) | quiet_step (exact CI.out _ _))
            refine wpQuiet_nil ?_
            intro _ hw'
            obtain ⟨⟨dq, osq⟩, hw''⟩ := hw'
            subst hw''
            have HXQ := Lib.hid (Ext.regrown W6 dq osq)
            clear r4 r5 r7 ry rx rc
            go_wp2
            refine ⟨⟨i' + 1, by omega, by omega, by go_num, ⟨_, _, _, _, _, by rw [show j - (i' + 1) = p by omega]; exact HM6.out.ext HXQ.out, by simp; omega, by simp; omega⟩, HX6.out.trans HXQ.out, by have := HXQ.out.size; omega⟩, by simp [intOf]; omega⟩
            -->>TWO
          · obtain rfl : i' = j := by omega
            rw [Nat.sub_self] at HM HKEEP m6
            go_upto_region 14 with fail
            clear m0 m1 m2 m3 m4 m5 m6 m7 m8 m9
            refine wp_region_noPanic ?_
            refine wp_region_last 6 (S := (fun w' => (w'.cell? ⟨mb, 0, none⟩ = some (.int .i64 0) ∧ w'.cell? ⟨mb, 1, none⟩ = some (.int .i64 0) ∧ w'.cell? ⟨mb, 2, none⟩ = some (.int .i64 0) ∧ w'.cell? ⟨mb, 3, none⟩ = some (.int .i64 0) ∧ w'.cell? ⟨mb, 4, none⟩ = some (.slice qs S.length ks) ∧ w'.cell? ⟨mb, 5, none⟩ = some (.slice qf 1 kf) ∧ w'.cell? ⟨mb, 6, none⟩ = some (.slice qh 0 kh) ∧ w'.cell? ⟨mb, 7, none⟩ = some (.int .i64 0) ∧ w'.cell? ⟨mb, 8, none⟩ = some (.int .u64 (intW 0)) ∧ w'.cell? ⟨mb, 9, none⟩ = some (.int .i64 0)) ∧ w'.cell? ⟨cb, off + i', none⟩ = some (.int .i64 cd))) (by kernel_rfl) (by kernel_rfl) _ rfl ?_ (fun hHeld => ?_)
            · (first | exact HKEEP.out _ (Ext.drew _) | exact HKEEP.out _ hx1)
            simp only [List.take_succ_cons, List.take_zero]
            refine wpAnyH_take (i := 0) (v := ?v14) rfl (by kernel_rfl) (by kernel_rfl) (by kernel_rfl) (fun _ _ _ h => h) (Or.inl ⟨by rfl, ?y14⟩) (by assumption) ?r14
            case y14 => intro w hSw; (try dsimp only at hSw); go_simp; (try with_reducible rfl)
            (try simp only [Act.put, List.setIfInBounds_toArray, List.set_cons_zero, List.set_cons_succ, List.getElem_toArray, List.getElem_cons_zero, List.getElem_cons_succ])
            refine wpAnyH_take (i := 1) (v := ?v15) rfl (by kernel_rfl) (by kernel_rfl) (by kernel_rfl) (fun _ _ _ h => h) (Or.inl ⟨by rfl, ?y15⟩) (by assumption) ?r15
            case y15 => intro w hSw; (try dsimp only at hSw); go_simp; (try with_reducible rfl)
            (try simp only [Act.put, List.setIfInBounds_toArray, List.set_cons_zero, List.set_cons_succ, List.getElem_toArray, List.getElem_cons_zero, List.getElem_cons_succ])
            refine wpAnyH_take (i := 2) (v := ?v16) rfl (by kernel_rfl) (by kernel_rfl) (by kernel_rfl) (fun _ _ _ h => h) (Or.inl ⟨by rfl, ?y16⟩) (by assumption) ?r16
            case y16 => intro w hSw; (try dsimp only at hSw); go_simp; (try with_reducible rfl)
            (try simp only [Act.put, List.setIfInBounds_toArray, List.set_cons_zero, List.set_cons_succ, List.getElem_toArray, List.getElem_cons_zero, List.getElem_cons_succ])
            refine wpAnyH_take (i := 3) (v := ?v17) rfl (by kernel_rfl) (by kernel_rfl) (by kernel_rfl) (fun _ _ _ h => h) (Or.inl ⟨by rfl, ?y17⟩) (by assumption) ?r17
            case y17 => intro w hSw; (try dsimp only at hSw); go_simp; (try with_reducible rfl)
            (try simp only [Act.put, List.setIfInBounds_toArray, List.set_cons_zero, List.set_cons_succ, List.getElem_toArray, List.getElem_cons_zero, List.getElem_cons_succ])
            refine wpAnyH_take (i := 4) (v := ?v18) rfl (by kernel_rfl) (by kernel_rfl) (by kernel_rfl) (fun _ _ _ h => h) (Or.inl ⟨by rfl, ?y18⟩) (by assumption) ?r18
            case y18 => intro w hSw; (try dsimp only at hSw); go_simp; (try with_reducible rfl)
            (try simp only [Act.put, List.setIfInBounds_toArray, List.set_cons_zero, List.set_cons_succ, List.getElem_toArray, List.getElem_cons_zero, List.getElem_cons_succ])
            refine wpAnyH_ready (rs := [5]) (by kernel_rfl) (by simp) ?_
            refine AllReadyH.cons rfl (fun K hK => ?_) AllReadyH.nil
            go_simp
            have hhr : RowsP wr.drew (.slice qh 0 kh) 3 [] := by
              have h := (HM.out.ho.ext (Ext.drew _)).p
              exact h
            have hr := throw_none (S := S) (F := [frC x]) ((HM.out.so.ext (Ext.drew _)).p) ((HM.out.fo.ext (Ext.drew _)).p) hhr (by omega) (by simp) 0 0 0 0 0 (intW 0) 0 cd
            unfold machV at hr
            refine hr.mono ?_
            rintro e' w' ⟨h', rfl, hh', hx'⟩
            have hx1 : Ext wr w' := (Ext.drew _).trans hx'
            refine hK.out _ _ ?s19 (fun hHeld => ?k19)
            case s19 => ((try dsimp only); (first | exact HKEEP.out _ (Ext.drew _) | exact HKEEP.out _ hx1))
            clear hK K
            (try simp only [Act.put, List.setIfInBounds_toArray, List.set_cons_zero, List.set_cons_succ, List.getElem_toArray, List.getElem_cons_zero, List.getElem_cons_succ])
            refine wpAnyH_done (by kernel_rfl) ?_ _
            show wpList _ _ _ _ _ _
            have hhm := (Below.block hx1 mb hmr).trans HM.out.row
            have HW := Lib.hid hhm
            have hmw : mb < w'.heap.size := (Array.getElem?_eq_some_iff.1 hhm).1
            have mf : ∀ i, w'.frozen? ⟨mb, i, none⟩ = false := fun i => free_at hhm
            obtain ⟨⟨m0, m1, m2, m3, m4, m5, m6, m7, m8, m9⟩, _⟩ := hHeld
            obtain ⟨qh', kh', rfl, _, _⟩ := hh'.len
            have HX1 := Lib.hid (HX.out.trans hx1)
            clear hhm hh' hx1 hx' HM
            unfold machV
            go_wp2
            refine NoPanic.normal ?_
            go_upto_region 16 with fail
            refine wp_fill10 HW.out fun W6 c0 ht6 hs6 => ?_
            have HX6 := Lib.hid (show Ext w W6 from (Turn.below (bs := [mb]) (Turn.trans (Turn.of_ext HX1.out) ht6) (Nat.le_refl _) (by intro b hb; simp at hb; subst hb; omega)))
            have hcc6 : W6.cell? ⟨cb, off + i', none⟩ = some (.int .i64 cd) := HX6.out.cell HC0.out
            obtain ⟨x0, x1, x2, x3, x4, x5, x6, x7, x8, x9⟩ := cells10 c0
            clear c0 ht6 hs6 m0 m1 m2 m3 m4 m5 m6 m7 m8 m9 mf
            go_upto_region 17 with fail
            rw [show ((i' : Int) - 1 - (i' : Int)) = -1 by omega]
            go_upto_region 18 with fail
            have r4 := fun d os => cell_regrown x4 d os
            have r7 := fun d os => cell_regrown x7 d os
            have r9 := fun d os => cell_regrown x9 d os
            have rc := fun d os => cell_regrown hcc6 d os
            have cI := fun d os => quiet_same (refWrap_is cd (Go.Sort.grow (redrawn W6 d) os))
            have cW := fun d os => quiet_ext (wakes_is _ (HK.out.ext (HX6.out.trans (Ext.regrown W6 d os))))
            have CI := Lib.hid cI; have CW := Lib.hid cW
            have j2 : (i' : Int) < (L.length : Int) := by omega
            clear cI cW x0 x1 x2 x3 x4 x5 x6 x7 x8 x9 hcc6
            refine wp_region_quiet_below (by kernel_rfl) (by kernel_rfl) ?_
            repeat (first | go_big_quiet_step (first | exact CI.out _ _ | exact CW.out _ _) | quiet_step (first | exact CI.out _ _ | exact CW.out _ _))
            refine wpQuiet_nil ?_
            intro _ hw'
            obtain ⟨⟨dq, osq⟩, hw''⟩ := hw'
            subst hw''
            have HXQ := Lib.hid (Ext.regrown W6 dq osq)
            clear r4 r7 r9 rc
            go_wp2
            go_ret
            exact ⟨rfl, HX6.out.trans HXQ.out⟩
        · obtain rfl : i' = L.length := by omega
          go_wp2_with fail
          refine (wakes_is _ (HK.out.ext HX.out)).mono ?_
          rintro e w' ⟨rfl, hx'⟩
          have HX1 := Lib.hid (HX.out.trans hx')
          clear hx'
          go_wp2
          go_ret
          exact ⟨rfl, HX1.out⟩
theorem handlers_walk {w : World} {v : Value} {L : List Int} {x : Int} (hk : FrmLie w) (hx : (Lit.int .u8 x).wf = true) (hv : IntSl w v .i64 L) : Calls Tryd.prog 3 #[.int .u8 x, v] w (TrueExt w) := by
  have h3 : IntKind.u8.min ≤ x ∧ x ≤ IntKind.u8.max := by simpa [Lit.wf] using hx
  have h4 : 0 ≤ x ∧ x ≤ 255 := h3
  obtain ⟨m, rfl⟩ := Int.eq_ofNat_of_zero_le h4.1
  by_cases hl : L.length ≤ 25
  · exact handlers_short hk hv (by omega) hl
  · exact handlers_long hk hv (by omega) (by omega)
open Go.ChangeShapes Go.WideShapes in
theorem open_i64s {H : Type} {enc : TypeId × Value → H} {W : World} {v : Value} {d : DataW H} {ps : List MemPlace} {base : Nat} (hval : Value.okWide Tryd.prog W .any base 22 v) (h : DataW.Trod enc Tryd.prog W 0 (fun _ => true) true 22 v d ps) : ∃ l, IntSl W v .i64 l :=
  open_nums Tryd.underlying22 Tryd.underlying2 (by kernel_rfl) hval h
end Go.Proofs.YtfmedddjmcplnaaDoor
