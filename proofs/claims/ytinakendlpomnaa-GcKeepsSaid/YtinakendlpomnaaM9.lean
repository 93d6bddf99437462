/- Proved here: the contracts and laws of GcJ, GcK, GcLB of this claim, each beneath its own remark; conditions: those that each theorem names. -/
import Derived.Test.YtinakendlpomnaaM8
import Derived.Test.YtinakendlpomnaaM7
/- gc.Live. -/
namespace Go.Proofs.Ytinakendlpomnaa
open Go.RowKit Go.Maps Arena
set_option maxHeartbeats 8000000
set_option maxRecDepth 100000
def liveN (ws : List Int) (R : List (Nat × Nat)) (h : Hp) (roots : List Int) : Nat := match mayH ws R h roots with | none => 0 | some Hs => sizeF (liveF (firstN h) Hs roots)
def lenV : Value → Nat | .slice _ n _ => n | _ => 0
/-- the words that were met -/
def MetF (o0 : Nat) (Hs F : List (Nat × Ob)) (fm : Int → Option Value) : Prop := ∀ y ∈ Hs, fm ((2 * (o0 + y.1) : Nat) : Int) = if inF F y.1 then some (.bool true) else none
theorem MetF.put {o0 H : Nat} {Hs F : List (Nat × Ob)} {fm : Int → Option Value} (h : MetF o0 Hs F fm) (_hH : HsOK H Hs) {y : Nat × Ob} (_hy : y ∈ Hs) : MetF o0 Hs (F ++ [y]) (ufput fm ((2 * (o0 + y.1) : Nat) : Int) (.bool true)) := by
  intro z hz
  rw [inF_app]
  by_cases e : z.1 = y.1
  · rw [e, ufput_same]
    have : inF [y] y.1 = true := inF_true.2 ⟨y, by simp, rfl⟩
    rw [this, Bool.or_true, if_pos rfl]
  · rw [ufput_other (by omega), h z hz]
    have : inF [y] z.1 = false := by unfold inF; simp; omega
    rw [this, Bool.or_false]
theorem flat_words (l : List Int) : (l.map wordC).flatten = l.map (Value.int .u64) := by
  induction l with
  | nil => rfl
  | cons a l ih => simp only [List.map_cons, List.flatten_cons, ih]; rfl
theorem live_no {w : World} {p g bm n : Nat} {ws : List Int} {R : List (Nat × Nat)} (H : ArenaAt w p g bm n ws R) (h : Hp) (hw : (Lit.int .i64 h.base).wf = true) (hW : ∀ x ∈ ws, W64 x) {q : Option Addr} {c : Nat} {roots : List Int} (hr : RowsP w (.slice q roots.length c) 1 (roots.map wordC)) (hr64 : ∀ x ∈ roots, W64 x) (hrl : roots.length ≤ 100000) (hm : mayH ws R h roots = none) :
    Calls Try.prog 13 #[.pointer (some ⟨p, 0, none⟩), .agg #[.int .i64 h.base, .int .i64 h.half, .int .i64 h.space, .int .i64 h.top], .slice q roots.length c] w fun e w' => e = .returned (.tuple #[.int .i64 0, .bool false]) ∧ Ext w w' := by
  have HM := Lib.hid (fun W (e : Ext w W) => gcmay_is (H.ext e) h hw hW (hr.ext e) hr64 hrl)
  rw [hm] at HM
  rw [Option.isSome_none] at HM
  clear H hw hW hr hr64 hm
  go_enter Try.func13, Try.ntmps13
  go_wp2_with fail
  refine at_alloc1 fun W hE hS b0 => ?_
  refine (HM.out W hE).mono ?_
  rintro e w1 ⟨rfl, hx1⟩
  have HX := Lib.hid (hE.trans hx1)
  clear hx1 hE hS b0
  go_wp2_with fail
  go_ret2
  exact ⟨rfl, HX.out⟩
theorem live_yes {w : World} {p g bm n : Nat} {ws : List Int} {R : List (Nat × Nat)} (H : ArenaAt w p g bm n ws R) (h : Hp) (hw : (Lit.int .i64 h.base).wf = true) (hW : ∀ x ∈ ws, W64 x) {q : Option Addr} {c : Nat} {roots : List Int} (hr : RowsP w (.slice q roots.length c) 1 (roots.map wordC)) (hr64 : ∀ x ∈ roots, W64 x) (hrl : roots.length ≤ 100000) {Hs : List (Nat × Ob)} (hm : mayH ws R h roots = some Hs) :
    Calls Try.prog 13 #[.pointer (some ⟨p, 0, none⟩), .agg #[.int .i64 h.base, .int .i64 h.half, .int .i64 h.space, .int .i64 h.top], .slice q roots.length c] w fun e w' => e = .returned (.tuple #[.int .i64 (sizeF (liveF (firstN h) Hs roots) : Nat), .bool true]) ∧ Ext w w' := by
  have HM := Lib.hid (fun W (e : Ext w W) => gcmay_is (H.ext e) h hw hW (hr.ext e) hr64 hrl)
  rw [hm] at HM
  rw [Option.isSome_some] at HM
  obtain ⟨ha, hok⟩ := mayH_some hm
  obtain ⟨ht, _⟩ := allH_there ha
  obtain ⟨ba, Hh, sp, N⟩ := hpN_of H.good ht
  have gc := gc_of H.good H.len hW ha N roots
  have hq0 := queue_start (firstN h) Hs hok
  have hGET := Lib.hid (fun W (e : Ext w W) (x : Int) (hx : W64 x) => get_is (H.ext e) h hw hW hx)
  have hgetH : ∀ x, getH ws R h x = getL (firstN h) Hs x := fun x => by unfold getH; rw [ha]; rfl
  have hCL := Lib.hid (fun W (e : Ext w W) => clone_w (hr.ext e) (by rw [List.length_map]; omega))
  have hHb : Hh ≤ 2000 := N.hi
  have hsm := N.small
  generalize hFd : liveF (firstN h) Hs roots = Fin at gc hq0 ⊢
  generalize firstN h = o0 at gc hq0 hgetH hsm
  have HGH := Lib.hid hgetH
  have HG := Lib.hid gc; have HQ := Lib.hid hq0; have HR64 := Lib.hid hr64
  have hHsl : Hs.length ≤ 2000 := by
    have h1 := sizeF_ge Hs
    have h2 := gc.hs.size
    omega
  obtain ⟨lp, lg, lm⟩ := H.lt
  have ho0 : o0 ≤ 4000 := by omega
  clear H hw hW hr hr64 hm ha hok ht N gc hq0 hFd hgetH hsm
  go_enter Try.func13, Try.ntmps13
  go_wp2_with fail
  refine at_alloc1 fun W hE hS b0 => ?_
  refine (HM.out W hE).mono ?_
  rintro e w1 ⟨rfl, hx1⟩
  have HX1 := Lib.hid (hE.trans hx1)
  have c0 := (Below.block hx1 w.heap.size (by omega)).trans b0
  have hl1 : w.heap.size < w1.heap.size := (Array.getElem?_eq_some_iff.1 c0).1
  clear hx1 hE hS b0 HM
  have hmm := @run_makeMap Try.prog
  go_upto_region 4 with fail
  clear hmm
  refine wp_gen (fun W => UMap W w1.heap.size 0 (fun _ => none) ∧ Ext w1 W ∧ W.heap.size = w1.heap.size + 1) ⟨UMap.made w1, Ext.alloc _ _, by simp⟩ fun WA hF => ?_
  obtain ⟨hmp, hA, hszA⟩ := hF
  have HMP := Lib.hid hmp
  have HXA := Lib.hid (HX1.out.trans hA)
  have HD0 := Lib.hid ((Below.block hA w.heap.size hl1).trans c0)
  clear hA c0 hmp
  go_wp2_with fail
  refine (hCL.out _ HXA.out).mono ?_
  rintro e w2 ⟨v2, rfl, ho2, hx2⟩
  have FI := Lib.hid (FifoP.of_own ho2)
  have HX2 := Lib.hid (HXA.out.trans hx2)
  have HMP2 := Lib.hid (HMP.out.ext hx2)
  have HE0 := Lib.hid ((Below.block hx2 w.heap.size (by omega)).trans HD0.out)
  have hB : w.heap.size < w1.heap.size ∧ w1.heap.size < WA.heap.size ∧ WA.heap.size ≤ w2.heap.size := by have := Below.size hx2; omega
  obtain ⟨hB1, hB2, hB3⟩ := hB
  clear ho2 hx2 HMP HXA HD0 hszA hl1 HX1
  generalize w1.heap.size = mb at *
  generalize WA.heap.size = B at *
  rw [flat_words] at FI
  have hbn : w.heap.size ≤ mb ∧ w.heap.size < mb := by omega
  have hzb : ∀ W, (zeroValue 4).run Try.prog W = .ok (.bool false) W := fun W => by kernel_rfl
  go_wp2_with fail
  go_loopw [9, 10] (fun rv nv wr => ∃ (F : List (Nat × Ob)) (row : List Int) (fm : Int → Option Value), FifoP wr B 44 rv (row.map (Value.int .u64)) ∧ nv = .int .i64 (sizeF F : Nat) ∧ UMap wr mb F.length fm ∧ MetF o0 Hs F fm ∧ FinF Hs F ∧ Queue o0 Hs Fin F row ∧ row.length ≤ roots.length + 400 * F.length ∧ (∀ x ∈ row, W64 x) ∧ Ext w wr ∧ wr.heap[w.heap.size]? = some (.cells #[.int .i64 h.base, .int .i64 h.half, .int .i64 h.space, .int .i64 h.top] 24 (0, 0)) ∧ B ≤ wr.heap.size) (fun rv nv _ => (4000 - (Go.RowKit.intOf nv).toNat) * 500 + lenV rv)
  case atStart => exact ⟨[], roots, fun _ => none, FI.out, rfl, HMP2.out, fun y hy => rfl, FinF.nil Hs, HQ.out, by simp, HR64.out, HX2.out, HE0.out, hB3⟩
  case round =>
    obtain ⟨F, row, fm, hfi, rfl, hum, hmet, hfin, hqu, hrl2, hr2, hx, hbx, hBr⟩ := hrel
    have hFl := hfin.size.2
    have hFs := hfin.size.1
    have hHsz := HG.out.hs.size
    cases row with
    | nil =>
      have hF := queue_end hqu hFl
      subst hF
      obtain ⟨qv, cv, rfl, _, _⟩ := hfi.len
      have HX := Lib.hid hx
      clear hfi hum hmet hfin hqu hrl2 hr2 hx hbx
      go_wp2_with fail
      go_ret2
      exact ⟨rfl, HX.out⟩
    | cons x row =>
      obtain ⟨qv, cv, rfl, hcv1, hcv2⟩ := hfi.len
      rw [List.map_cons] at hfi
      obtain ⟨bb, off, rfl, -, hc0, hta⟩ := FifoP.head hfi
      rw [List.length_map] at hta hcv1 ⊢
      rw [List.length_cons] at hcv1 hrl2 ⊢
      have hsl := fun W => run_fifo_tail (P := Try.prog) E64 W bb off (row.length + 1) cv (by omega) hcv1
      rw [Nat.add_sub_cancel] at hsl
      generalize hqx : (if cv = 1 then some (⟨bb, off, none⟩ : Addr) else some ⟨bb, off + 1, none⟩) = qx at hta hsl
      have hx64 := hr2 x (.head _)
      have hxok : fieldOK (Hs.map (·.1)) o0 x = true := by
        obtain ⟨_, _, _, _, _, h4⟩ := hqu
        exact h4 x (.head _)
      have HIS := Lib.hid (fun W => isInt_is hx64 W)
      have TA := Lib.hid hta; have UM := Lib.hid hum; have MT := Lib.hid hmet; have FN := Lib.hid hfin; have QU := Lib.hid hqu; have RL := Lib.hid hrl2; have R2 := Lib.hid (fun z hz => hr2 z (List.mem_cons_of_mem x hz)); have HX := Lib.hid hx; have BX := Lib.hid hbx; have FL := Lib.hid hFl; have FS := Lib.hid (show sizeF F ≤ 2000 by omega); have X64 := Lib.hid hx64
      clear hqx hfi hta hum hmet hfin hqu hrl2 hr2 hx hbx hFl hFs hHsz
      rcases ok_cases hxok hx64 with hi | ⟨y, hy⟩
      · rw [hi] at HIS
        have hsk := queue_skip QU.out FL.out (addF_int hi)
        have SK := Lib.hid hsk
        clear hi hxok hx64 hsk
        go_wp2_with fail
        refine (HIS.out _).mono ?_
        rintro e w3 ⟨rfl, rfl⟩
        go_wp2_with fail
        exact ⟨⟨F, row, fm, TA.out, rfl, UM.out, MT.out, FN.out, SK.out, by have := RL.out; omega, R2.out, HX.out, BX.out, hBr⟩, by simp [Go.RowKit.intOf, lenV]⟩
      · obtain ⟨hyH, hy1, hy2, hy3⟩ := getL_some hy
        rw [hy2] at HIS
        have hxe : x = ((2 * (o0 + y.1) : Nat) : Int) := by
          have : ¬ x % 2 = 1 := by unfold isIntW at hy2; exact of_decide_eq_false hy2
          omega
        have hfm := MT.out y hyH
        rw [← hxe] at hfm
        have hkw : (Lit.int .u64 x).wf = true := WalkArith.wf_u64 (by have := hx64.1; have := hx64.2; omega)
        have hlk := UM.out.look Try.underlying80 (hzb wr) false hkw
        rw [hfm] at hlk
        have HY := Lib.hid hy; have HYH := Lib.hid hyH; have HXE := Lib.hid hxe; have HKW := Lib.hid hkw
        clear hxe hfm hyH hy1 hy2 hy3 hkw
        cases hb : inF F y.1 with
        | true =>
          rw [hb] at hlk
          have hsk := queue_skip QU.out FL.out (addF_seen hy hb)
          have SK := Lib.hid hsk
          clear hxok hx64 hsk hy hb
          have hlk' : (Instr.lookup 80 (.map (some mb)) (.int .u64 x) false).run Try.prog wr = .ok (.bool true) wr := hlk
          clear hlk
          go_wp2_with fail
          refine (HIS.out _).mono ?_
          rintro e w3 ⟨rfl, rfl⟩
          go_wp2_with fail
          exact ⟨⟨F, row, fm, TA.out, rfl, UM.out, MT.out, FN.out, SK.out, by have := RL.out; omega, R2.out, HX.out, BX.out, hBr⟩, by simp [Go.RowKit.intOf, lenV]⟩
        | false =>
          rw [hb] at hlk
          have hmt := queue_meet QU.out FL.out (addF_new hy hb) (fun z hz => (HG.out.ok y HYH.out z hz).2)
          have hfin2 := FN.out.add (o0 := o0) x
          rw [addF_new hy hb] at hfin2
          have MQ := Lib.hid hmt; have FN2 := Lib.hid hfin2
          have MT2 := Lib.hid (MT.out.put HG.out.hs HYH.out)
          rw [← HXE.out] at MT2
          have hmy := HG.out.hs.may y HYH.out
          have hfl400 : y.2.fields.length ≤ 400 := by unfold mayO at hmy; exact (mayK_bounds hmy).2.2.2.2.1
          have HWD := Lib.hid (fun q c W => owords_is y.2 c q W (by omega))
          rw [if_pos hmy] at HWD
          have HGX := Lib.hid (fun W e => hGET.out W e x X64.out)
          rw [HGH.out x, HY.out] at HGX
          have hsz2 : sizeF F + wordsO y.2 ≤ 2000 := by
            have h1 := hfin2.size.1
            have h2 := HG.out.hs.size
            rw [sizeF_app] at h1
            simp only [sizeF] at h1
            omega
          have hwp := wordsO_pos y.2
          have hFl2 : F.length + 1 ≤ 2000 := by
            have h1 := hfin2.size.2
            rw [List.length_append, List.length_singleton] at h1
            omega
          have hlk' : (Instr.lookup 80 (.map (some mb)) (.int .u64 x) false).run Try.prog wr = .ok (.bool false) wr := hlk
          clear hxok hx64 hmt hfin2 hy hb hlk hmy
          go_wp2_with fail
          refine (HIS.out _).mono ?_
          rintro e w3 ⟨rfl, rfl⟩
          go_upto_region 11 with (refine wpList_put_umap (by rfl) _ _ _ (by rfl) Try.underlying80 mb F.length fm (by rfl) UM.out (by unfold maxLen; omega) x (.bool true) (by rfl) (by rfl) HKW.out ?_)
          intro w5 him5 hg5
          have t5 : Turn [mb] wr w5 := Turn.of_grown hg5 (fun b e => .inl (by rw [← Option.some.inj e]; simp))
          have TA5 := Lib.hid (TA.out.turn t5 (fun b hb hm => by have := (TA.out.own b hb).1; rw [List.mem_singleton.1 hm] at this; omega))
          have HX5 := Lib.hid (show Ext w w5 from grown_ext HX.out hg5 (by intro b e; obtain rfl := Option.some.inj e; omega) (by omega))
          have BX5 := Lib.hid ((t5.block w.heap.size (Array.getElem?_eq_some_iff.1 BX.out).1 (by simp; omega)).trans BX.out)
          have UM5 := Lib.hid him5
          have hB5 : B ≤ w5.heap.size := by have := t5.size; omega
          clear him5 hg5 t5 UM TA HX BX hlk' hc0 hBr hsl
          obtain ⟨z0, z1, z2, z3⟩ := cells4 BX5.out
          go_wp2_with fail
          refine (HGX.out _ HX5.out).mono ?_
          rintro e w6 ⟨v, rfl, hx6, -, hv⟩
          obtain ⟨qg, cg, rfl, hog⟩ := hv y rfl
          have TA6 := Lib.hid (TA5.out.ext hx6)
          have HX6 := Lib.hid (HX5.out.trans hx6)
          have UM6 := Lib.hid (UM5.out.ext hx6)
          have BX6 := Lib.hid ((Below.block hx6 w.heap.size (Array.getElem?_eq_some_iff.1 BX5.out).1).trans BX5.out)
          have OG6 := Lib.hid hog.p
          have hB6 : B ≤ w6.heap.size := by have := Below.size hx6; omega
          clear hx6 hv hog z0 z1 z2 z3 TA5 HX5 UM5 BX5 hB5
          go_upto_region 12 with fail
          refine wp_alloc1 fun W7 hE7 hS7 b7 => ?_
          have TA7 := Lib.hid (TA6.out.ext hE7)
          have HX7 := Lib.hid (HX6.out.trans hE7)
          have UM7 := Lib.hid (UM6.out.ext hE7)
          have BX7 := Lib.hid ((Below.block hE7 w.heap.size (Array.getElem?_eq_some_iff.1 BX6.out).1).trans BX6.out)
          have OG7 := Lib.hid (OG6.out.ext hE7)
          have B7 := Lib.hid b7
          have hB7 : B ≤ W7.heap.size := by omega
          clear hE7 hS7 TA6 HX6 UM6 BX6 OG6
          generalize w6.heap.size = bo at *
          obtain ⟨z0, z1, z2, z3⟩ := cells4 B7.out
          clear b7
          go_wp2_with fail
          refine (HWD.out qg cg _).mono ?_
          rintro e w8 ⟨rfl, hx8⟩
          have TA8 := Lib.hid (TA7.out.ext hx8)
          have HX8 := Lib.hid (HX7.out.trans hx8)
          have UM8 := Lib.hid (UM7.out.ext hx8)
          have BX8 := Lib.hid ((Below.block hx8 w.heap.size (Array.getElem?_eq_some_iff.1 BX7.out).1).trans BX7.out)
          have OG8 := Lib.hid (OG7.out.ext hx8)
          have b8 := (Below.block hx8 bo (Array.getElem?_eq_some_iff.1 B7.out).1).trans B7.out
          have hB8 : B ≤ w8.heap.size := by have := Below.size hx8; omega
          clear hx8 TA7 HX7 UM7 BX7 OG7 B7 z0 z1 z2 z3 hB7 hB6
          obtain ⟨z0, z1, z2, z3⟩ := cells4 b8
          clear b8
          go_wp2_with (refine wpList_append_fifos E64 (by rfl) _ _ (by rfl) B (.slice qx row.length (cv - 1)) (.slice qg y.2.fields.length cg) (row.map (Value.int .u64)) (y.2.fields.map wordC) (by rfl) TA8.out (by omega) (by rfl) OG8.out (by simp; have := RL.out; unfold maxLen; omega) (by simp; have := RL.out; omega) ?_)
          intro v9 w9 hf9 ht9 hb9
          have hown : ∀ b ∈ (Value.slice qx row.length (cv - 1)).ownBlock.toList, B ≤ b := fun b hb => (TA8.out.own b (by simpa using hb)).1
          have FI9 := Lib.hid hf9
          have HX9 := Lib.hid (Turn.after HX8.out ht9 (fun b hb => by have := hown b hb; omega))
          have UM9 := Lib.hid (UM8.out.turn ht9 (fun hb => by have := hown mb hb; omega))
          have BX9 := Lib.hid ((ht9.block w.heap.size (Array.getElem?_eq_some_iff.1 BX8.out).1 (fun hb => by have := hown _ hb; omega)).trans BX8.out)
          have hB9 : B ≤ w9.heap.size := by have := ht9.size; omega
          clear hf9 ht9 hb9 hown TA8 HX8 UM8 BX8 OG8 z0 z1 z2 z3 hB8
          rw [flat_words, ← List.map_append] at FI9
          obtain ⟨qv9, cv9, rfl, hcv9, hcv9'⟩ := FI9.out.len
          rw [List.length_map, List.length_append] at FI9 hcv9 ⊢
          go_wp2_with fail
          refine ⟨⟨F ++ [y], row ++ y.2.fields, _, FI9.out, ?_, by rw [List.length_append]; exact UM9.out, MT2.out, FN2.out, MQ.out, ?_, ?_, HX9.out, BX9.out, hB9⟩, ?_⟩
          · rw [sizeF_app]
            simp [sizeF]
          · rw [List.length_append, List.length_append, List.length_singleton]
            have := RL.out
            omega
          · intro z hz
            rcases List.mem_append.1 hz with hz | hz
            · exact R2.out z hz
            · exact (HG.out.ok y HYH.out z hz).1
          · simp [Go.RowKit.intOf, lenV]
            omega
theorem live_is {w : World} {p g bm n : Nat} {ws : List Int} {R : List (Nat × Nat)} (H : ArenaAt w p g bm n ws R) (h : Hp) (hw : (Lit.int .i64 h.base).wf = true) (hW : ∀ x ∈ ws, W64 x) {q : Option Addr} {c : Nat} {roots : List Int} (hr : RowsP w (.slice q roots.length c) 1 (roots.map wordC)) (hr64 : ∀ x ∈ roots, W64 x) (hrl : roots.length ≤ 100000) :
    Calls Try.prog 13 #[.pointer (some ⟨p, 0, none⟩), .agg #[.int .i64 h.base, .int .i64 h.half, .int .i64 h.space, .int .i64 h.top], .slice q roots.length c] w fun e w' => e = .returned (.tuple #[.int .i64 (liveN ws R h roots : Nat), .bool (mayH ws R h roots).isSome]) ∧ Ext w w' := by
  unfold liveN
  cases hm : mayH ws R h roots with
  | none => exact live_no H h hw hW hr hr64 hrl hm
  | some Hs => exact live_yes H h hw hW hr hr64 hrl hm
end Go.Proofs.Ytinakendlpomnaa
/- gc.Room. -/
namespace Go.Proofs.Ytinakendlpomnaa
open Go.RowKit Go.Maps Arena
set_option maxHeartbeats 8000000
set_option maxRecDepth 100000
/-- what making room says -/
def RoomSaid (ws : List Int) (R : List (Nat × Nat)) (p g bm n : Nat) (h : Hp) (roots : List Int) (k : Int) (w : World) (e : Ending) (w' : World) : Prop :=
  match (if k < 0 then none else mayH ws R h roots) with
  | none => e = .returned (.tuple #[zeroHV, .slice none 0 0, .bool false]) ∧ Ext w w'
  | some Hs => if k ≤ h.half - h.top then ∃ q c, e = .returned (.tuple #[hpV h, .slice q roots.length c, .bool true]) ∧ OwnP w' w.heap.size 44 (.slice q roots.length c) 1 (roots.map wordC) ∧ Ext w w'
    else ∃ q c, e = .returned (.tuple #[hpV (collH h (liveF (firstN h) Hs roots)), .slice q roots.length c, .bool (decide (k ≤ h.half - (sizeF (liveF (firstN h) Hs roots) : Nat)))]) ∧ ArenaAt w' p g bm n (collWs ws h (liveF (firstN h) Hs roots)) R ∧
      OwnP w' w.heap.size 44 (.slice q roots.length c) 1 ((roots.map (newW (firstN h) (otherN h) (liveF (firstN h) Hs roots))).map wordC) ∧ Turn [g] w w'
theorem hp4 {w w' : World} (e : Ext w w') {b : Nat} {v0 v1 v2 v3 : Value} (h : w.cell? ⟨b, 0, none⟩ = some v0 ∧ w.cell? ⟨b, 1, none⟩ = some v1 ∧ w.cell? ⟨b, 2, none⟩ = some v2 ∧ w.cell? ⟨b, 3, none⟩ = some v3) : w'.cell? ⟨b, 0, none⟩ = some v0 ∧ w'.cell? ⟨b, 1, none⟩ = some v1 ∧ w'.cell? ⟨b, 2, none⟩ = some v2 ∧ w'.cell? ⟨b, 3, none⟩ = some v3 :=
  ⟨e.cell h.1, e.cell h.2.1, e.cell h.2.2.1, e.cell h.2.2.2⟩
theorem hp4s {w : World} {b d : Nat} {v0 v1 v2 v3 u0 u1 u2 u3 : Value} (h : w.cell? ⟨b, 0, none⟩ = some v0 ∧ w.cell? ⟨b, 1, none⟩ = some v1 ∧ w.cell? ⟨b, 2, none⟩ = some v2 ∧ w.cell? ⟨b, 3, none⟩ = some v3) (hb : b ≠ d) :
    ((((w.setCell ⟨d, 0, none⟩ u0).setCell ⟨d, 1, none⟩ u1).setCell ⟨d, 2, none⟩ u2).setCell ⟨d, 3, none⟩ u3).cell? ⟨b, 0, none⟩ = some v0 ∧ ((((w.setCell ⟨d, 0, none⟩ u0).setCell ⟨d, 1, none⟩ u1).setCell ⟨d, 2, none⟩ u2).setCell ⟨d, 3, none⟩ u3).cell? ⟨b, 1, none⟩ = some v1 ∧ ((((w.setCell ⟨d, 0, none⟩ u0).setCell ⟨d, 1, none⟩ u1).setCell ⟨d, 2, none⟩ u2).setCell ⟨d, 3, none⟩ u3).cell? ⟨b, 2, none⟩ = some v2 ∧ ((((w.setCell ⟨d, 0, none⟩ u0).setCell ⟨d, 1, none⟩ u1).setCell ⟨d, 2, none⟩ u2).setCell ⟨d, 3, none⟩ u3).cell? ⟨b, 3, none⟩ = some v3 := by
  have t : Turn [d] w ((((w.setCell ⟨d, 0, none⟩ u0).setCell ⟨d, 1, none⟩ u1).setCell ⟨d, 2, none⟩ u2).setCell ⟨d, 3, none⟩ u3) := ((((Turn.refl [d] w).setCell (.inl (by simp)) u0).setCell (.inl (by simp)) u1).setCell (.inl (by simp)) u2).setCell (.inl (by simp)) u3
  exact ⟨t.cell (by simpa using hb) h.1, t.cell (by simpa using hb) h.2.1, t.cell (by simpa using hb) h.2.2.1, t.cell (by simpa using hb) h.2.2.2⟩
theorem room_is {w : World} {p g bm n : Nat} {ws : List Int} {R : List (Nat × Nat)} (H : ArenaAt w p g bm n ws R) (h : Hp) (hw : (Lit.int .i64 h.base).wf = true) (hW : ∀ x ∈ ws, W64 x) {q : Option Addr} {c : Nat} {roots : List Int} (hr : RowStay w g (.slice q roots.length c) (roots.map wordC)) (hr64 : ∀ x ∈ roots, W64 x) (hrl : roots.length ≤ 100000) (k : Int) :
    Calls Try.prog 22 #[.pointer (some ⟨p, 0, none⟩), .agg #[.int .i64 h.base, .int .i64 h.half, .int .i64 h.space, .int .i64 h.top], .slice q roots.length c, .int .i64 k] w (RoomSaid ws R p g bm n h roots k w) := by
  have HM := Lib.hid (fun W (e : Ext w W) => gcmay_is (H.ext e) h hw hW (hr W (Turn.of_ext e)) hr64 hrl)
  have HC := Lib.hid (fun W (e : Ext w W) => coll_is (H.ext e) h hw hW (fun V t => hr V ((Turn.of_ext e).trans t)) hr64 hrl)
  have HCL := Lib.hid (show ∀ W, Ext w W → Calls Try.prog 36 #[.slice q roots.length c] W fun e w' => ∃ q2 c2, e = .returned (.slice q2 roots.length c2) ∧ OwnP w' W.heap.size 44 (.slice q2 roots.length c2) 1 (roots.map wordC) ∧ Ext W w' from fun W e => (clone_w (hr W (Turn.of_ext e)) (by rw [List.length_map]; omega)).mono (by
    rintro e w' ⟨v', rfl, ho, hx⟩
    obtain ⟨q2, c2, rfl, _, _⟩ := ho.len
    rw [List.length_map] at ho ⊢
    exact ⟨q2, c2, rfl, ho, hx⟩))
  obtain ⟨lp, lg, lm⟩ := H.lt
  unfold RoomSaid
  by_cases hk : k < 0
  · rw [if_pos hk]
    dsimp only
    clear H hw hW hr hr64 HM HC HCL
    go_enter Try.func22, Try.ntmps22
    go_upto_region 1 with fail
    refine wp_alloc2 fun W hE hS b0 b1 => ?_
    have HX := Lib.hid hE
    have f0 := free_at b1 (i := 0)
    have f1 := free_at b1 (i := 1)
    have f2 := free_at b1 (i := 2)
    have f3 := free_at b1 (i := 3)
    obtain ⟨y0, y1, y2, y3⟩ := cells4 b1
    go_wp2
    refine post_fill4 b1 fun W4 c4 hT4 hS4 => ?_
    obtain ⟨y0, y1, y2, y3⟩ := cells4 c4
    refine bodyPost_ret (v := .tuple #[zeroHV, .slice none 0 0, .bool false]) (by simp [results, Try.results22, go_sem, y0, y1, y2, y3, zeroHV]) rfl ?_
    exact ⟨rfl, Turn.after HX.out hT4 (by intro b hb; rw [List.mem_singleton.1 hb]; omega)⟩
  · rw [if_neg hk]
    cases hm : mayH ws R h roots with
    | none =>
      dsimp only
      rw [hm] at HM
      rw [Option.isSome_none] at HM
      clear H hw hW hr hr64 HC HCL hm
      go_enter Try.func22, Try.ntmps22
      go_wp2_with fail
      refine at_alloc2 fun W hE hS b0 b1 => ?_
      refine (HM.out W hE).mono ?_
      rintro e w1 ⟨rfl, hx1⟩
      have c1 := (Below.block hx1 (w.heap.size + 1) (by omega)).trans b1
      have HX := Lib.hid (hE.trans hx1)
      clear hx1 hE hS b0 b1
      have f0 := free_at c1 (i := 0)
      have f1 := free_at c1 (i := 1)
      have f2 := free_at c1 (i := 2)
      have f3 := free_at c1 (i := 3)
      obtain ⟨y0, y1, y2, y3⟩ := cells4 c1
      go_wp2
      refine post_fill4 c1 fun W4 c4 hT4 hS4 => ?_
      obtain ⟨y0, y1, y2, y3⟩ := cells4 c4
      refine bodyPost_ret (v := .tuple #[zeroHV, .slice none 0 0, .bool false]) (by simp [results, Try.results22, go_sem, y0, y1, y2, y3, zeroHV]) rfl ?_
      exact ⟨rfl, Turn.after HX.out hT4 (by intro b hb; rw [List.mem_singleton.1 hb]; omega)⟩
    | some Hs =>
      dsimp only
      rw [hm] at HM
      rw [Option.isSome_some] at HM
      unfold CollSaid at HC
      rw [hm] at HC
      dsimp only at HC
      obtain ⟨ha, _⟩ := mayH_some hm
      have hok := (thereB_ok (allH_there ha).1).1
      obtain ⟨a1, a2, a3, a4, a5, a6⟩ := hok
      have gcs : sizeF (liveF (firstN h) Hs roots) ≤ 2000 := by
        have h1 := (FinF.live (firstN h) Hs roots).size.1
        have h2 := (allH_ok H.good H.len ha).size
        omega
      clear H hw hW hr hr64 hm ha
      generalize liveF (firstN h) Hs roots = Fin at *
      by_cases hfit : k ≤ h.half - h.top
      · simp only [if_pos hfit]
        have hd : decide (k ≤ h.half - h.top) = true := decide_eq_true hfit
        clear HC
        go_enter Try.func22, Try.ntmps22
        go_wp2_with fail
        refine at_alloc2 fun W hE hS b0 b1 => ?_
        refine (HM.out W hE).mono ?_
        rintro e w1 ⟨rfl, hx1⟩
        have c0 := (Below.block hx1 w.heap.size (by omega)).trans b0
        have c1 := (Below.block hx1 (w.heap.size + 1) (by omega)).trans b1
        have HX := Lib.hid (hE.trans hx1)
        have hl1 : w.heap.size + 1 < w1.heap.size := (Array.getElem?_eq_some_iff.1 c1).1
        clear hx1 hE hS b0 b1
        obtain ⟨z0, z1, z2, z3⟩ := cells4 c0
        have hne : w.heap.size ≠ w.heap.size + 1 := by omega
        go_upto_region 4 with fail
        refine wp_region_noPanic ?_
        refine wp_region_last 5 (S := (fun w' => w'.cell? ⟨w.heap.size, 0, none⟩ = some (.int .i64 h.base) ∧ w'.cell? ⟨w.heap.size, 1, none⟩ = some (.int .i64 h.half) ∧ w'.cell? ⟨w.heap.size, 2, none⟩ = some (.int .i64 h.space) ∧ w'.cell? ⟨w.heap.size, 3, none⟩ = some (.int .i64 h.top))) (by kernel_rfl) (by kernel_rfl) _ rfl ?_ (fun hHeld => ?_)
        · (first | with_reducible exact hp4 (Ext.drew _) ⟨z0, z1, z2, z3⟩ | with_reducible exact hz2 | exact hp4s hz2 hne)
        simp only [List.take_succ_cons, List.take_zero]
        refine wpAnyH_take (i := 0) (v := ?v1) rfl (by kernel_rfl) (by kernel_rfl) (by kernel_rfl) (fun _ _ _ h => h) (Or.inl ⟨by rfl, ?y1⟩) (by assumption) ?r1
        case y1 => intro w hSw; (try dsimp only at hSw); go_simp; (try with_reducible rfl)
        (try simp only [Act.put, List.setIfInBounds_toArray, List.set_cons_zero, List.set_cons_succ, List.getElem_toArray, List.getElem_cons_zero, List.getElem_cons_succ])
        refine wpAnyH_take (i := 1) (v := ?v2) rfl (by kernel_rfl) (by kernel_rfl) (by kernel_rfl) (fun _ _ _ h => h) (Or.inl ⟨by rfl, ?y2⟩) (by assumption) ?r2
        case y2 => intro w hSw; (try dsimp only at hSw); go_simp; (try with_reducible rfl)
        (try simp only [Act.put, List.setIfInBounds_toArray, List.set_cons_zero, List.set_cons_succ, List.getElem_toArray, List.getElem_cons_zero, List.getElem_cons_succ])
        refine wpAnyH_ready (rs := [2]) (by kernel_rfl) (by simp) ?_
        refine AllReadyH.cons rfl (fun K hK => ?_) AllReadyH.nil
        go_simp
        refine (HCL.out _ (HX.out.trans (Ext.drew _))).mono ?_
        rintro e w2 ⟨q2, c2, rfl, ho2, hx2⟩
        have hx2' : Ext w1 w2 := (Ext.drew w1).trans hx2
        have d1 := (Below.block hx2' (w.heap.size + 1) hl1).trans c1
        have f0 := free_at d1 (i := 0)
        have f1 := free_at d1 (i := 1)
        have f2 := free_at d1 (i := 2)
        have f3 := free_at d1 (i := 3)
        obtain ⟨y0, y1, y2, y3⟩ := cells4 d1
        have hz2 := hp4 hx2' ⟨z0, z1, z2, z3⟩
        refine hK.out _ _ ?s3 (fun hHeld => ?k3)
        case s3 => ((try dsimp only); (first | with_reducible exact hp4 (Ext.drew _) ⟨z0, z1, z2, z3⟩ | with_reducible exact hz2 | exact hp4s hz2 hne))
        clear hK K
        (try simp only [Act.put, List.setIfInBounds_toArray, List.set_cons_zero, List.set_cons_succ, List.getElem_toArray, List.getElem_cons_zero, List.getElem_cons_succ])
        refine wpAnyH_ready (rs := [3]) (by kernel_rfl) (by simp) ?_
        refine AllReadyH.cons rfl (fun K hK => ?_) AllReadyH.nil
        go_simp
        refine hK.out _ _ ?s4 (fun hHeld => ?k4)
        case s4 => ((try dsimp only); (first | with_reducible exact hp4 (Ext.drew _) ⟨z0, z1, z2, z3⟩ | with_reducible exact hz2 | exact hp4s hz2 hne))
        clear hK K
        (try simp only [Act.put, List.setIfInBounds_toArray, List.set_cons_zero, List.set_cons_succ, List.getElem_toArray, List.getElem_cons_zero, List.getElem_cons_succ])
        refine wpAnyH_take (i := 4) (v := ?v5) rfl (by kernel_rfl) (by kernel_rfl) (by kernel_rfl) (fun _ _ _ h => h) (Or.inl ⟨by rfl, ?y5⟩) (by assumption) ?r5
        case y5 => intro w hSw; (try dsimp only at hSw); go_simp; (try with_reducible rfl)
        (try simp only [Act.put, List.setIfInBounds_toArray, List.set_cons_zero, List.set_cons_succ, List.getElem_toArray, List.getElem_cons_zero, List.getElem_cons_succ])
        refine wpAnyH_done (by kernel_rfl) ?_ _
        show wpList _ _ _ _ _ _
        refine list_gen (fun W => W.heap[w.heap.size + 1]? = some (.cells #[.int .i64 h.base, .int .i64 h.half, .int .i64 h.space, .int .i64 h.top] 24 (0, 0)) ∧ Turn [w.heap.size + 1] w2 W) ⟨(fill4 d1 _ _ _ _).1, (fill4 d1 _ _ _ _).2.1⟩ fun W3 hW3 => ?_
        obtain ⟨e1, t3⟩ := hW3
        have hle1 : w.heap.size ≤ w1.heap.size := by omega
        have O3 := Lib.hid (ho2.turn t3 (fun b hb hm => by have h1 := (ho2.own b hb).1; rw [List.mem_singleton.1 hm] at h1; simp at h1; omega))
        have X3 := Lib.hid (Turn.after (HX.out.trans hx2') t3 (by intro b hb; rw [List.mem_singleton.1 hb]; omega))
        clear ho2 hx2 hx2' hz2 hHeld d1 f0 f1 f2 f3 y0 y1 y2 y3 t3 z0 z1 z2 z3
        obtain ⟨y0, y1, y2, y3⟩ := cells4 e1
        go_wp2
        refine NoPanic.normal ?_
        go_wp2
        refine bodyPost_ret (v := .tuple #[.agg #[.int .i64 h.base, .int .i64 h.half, .int .i64 h.space, .int .i64 h.top], .slice q2 roots.length c2, .bool true]) (by simp [results, Try.results22, go_sem, y0, y1, y2, y3]) rfl ?_
        exact ⟨q2, c2, rfl, O3.out.mono (by simpa using hle1), X3.out⟩
      · simp only [if_neg hfit]
        have hd : decide (k ≤ h.half - h.top) = false := decide_eq_false hfit
        clear HCL
        go_enter Try.func22, Try.ntmps22
        go_wp2_with fail
        refine at_alloc2 fun W hE hS b0 b1 => ?_
        refine (HM.out W hE).mono ?_
        rintro e w1 ⟨rfl, hx1⟩
        have c0 := (Below.block hx1 w.heap.size (by omega)).trans b0
        have c1 := (Below.block hx1 (w.heap.size + 1) (by omega)).trans b1
        have HX := Lib.hid (hE.trans hx1)
        have hl1 : w.heap.size + 1 < w1.heap.size := (Array.getElem?_eq_some_iff.1 c1).1
        clear hx1 hE hS b0 b1
        obtain ⟨z0, z1, z2, z3⟩ := cells4 c0
        go_wp2_with fail
        refine (HC.out _ HX.out).mono ?_
        rintro e w2 ⟨q2, c2, rfl, hA2, ho2, hT2⟩
        have A2 := Lib.hid hA2; have O2 := Lib.hid ho2; have T2 := Lib.hid hT2
        have d0 := (hT2.block w.heap.size (Array.getElem?_eq_some_iff.1 c0).1 (by simp; omega)).trans c0
        have d1 := (hT2.block (w.heap.size + 1) (Array.getElem?_eq_some_iff.1 c1).1 (by simp; omega)).trans c1
        have hl2 : w.heap.size + 1 < w2.heap.size := (Array.getElem?_eq_some_iff.1 d1).1
        clear hA2 ho2 hT2 c0 c1 z0 z1 z2 z3
        obtain ⟨z0, z1, z2, z3⟩ := cells4 d0
        have f0 := free_at d0 (i := 0)
        have f1 := free_at d0 (i := 1)
        have f2 := free_at d0 (i := 2)
        have f3 := free_at d0 (i := 3)
        unfold hpV collH
        dsimp only
        go_upto_region 6 with fail
        refine wp_gen (fun W => W.heap[w.heap.size]? = some (.cells #[.int .i64 h.base, .int .i64 h.half, .int .i64 (1 - h.space), .int .i64 (sizeF Fin : Nat)] 24 (0, 0)) ∧ Turn [w.heap.size] w2 W) ⟨(fill4 d0 _ _ _ _).1, (fill4 d0 _ _ _ _).2.1⟩ fun W3 hW3 => ?_
        obtain ⟨e0, t3⟩ := hW3
        have A3 := Lib.hid (A2.out.turn t3 (by simp; omega) (by simp; omega) (by simp; omega))
        have O3 := Lib.hid (O2.out.turn t3 (fun b hb hm => by have h1 := (O2.out.own b hb).1; rw [List.mem_singleton.1 hm] at h1; omega))
        have T3 := Lib.hid (show Turn [g, w.heap.size] w1 W3 from (T2.out.mono (by simp)).trans (t3.mono (by simp)))
        have e1 := (t3.block (w.heap.size + 1) (Array.getElem?_eq_some_iff.1 d1).1 (by simp)).trans d1
        clear t3 A2 O2 T2 d0 d1 z0 z1 z2 z3 f0 f1 f2 f3
        obtain ⟨z0, z1, z2, z3⟩ := cells4 e0
        obtain ⟨y0, y1, y2, y3⟩ := cells4 e1
        have f0 := free_at e1 (i := 0)
        have f1 := free_at e1 (i := 1)
        have f2 := free_at e1 (i := 2)
        have f3 := free_at e1 (i := 3)
        have hd2 : IntKind.i64.wrap (h.half - ((sizeF Fin : Nat) : Int)) = h.half - ((sizeF Fin : Nat) : Int) := IntWalk.i64_in _ (by omega)
        go_region
        refine q_gen (fun W => W.heap[w.heap.size + 1]? = some (.cells #[.int .i64 h.base, .int .i64 h.half, .int .i64 (1 - h.space), .int .i64 (sizeF Fin : Nat)] 24 (0, 0)) ∧ Turn [w.heap.size + 1] W3 W) ?_ fun W4 hW4 => ?_
        · exact ⟨(fill4 e1 _ _ _ _).1, (fill4 e1 _ _ _ _).2.1.trans (Turn.of_ext (Ext.drew _))⟩
        · obtain ⟨e4, t4⟩ := hW4
          have A4 := A3.out.turn t4 (by simp; omega) (by simp; omega) (by simp; omega)
          have O4 := O3.out.turn t4 (fun b hb hm => by have h1 := (O3.out.own b hb).1; rw [List.mem_singleton.1 hm] at h1; omega)
          have T4 : Turn [g, w.heap.size, w.heap.size + 1] w W4 := ((Turn.of_ext HX.out).trans (T3.out.mono (by simp))).trans (t4.mono (by simp))
          have hle1 : w.heap.size ≤ w1.heap.size := by omega
          clear z0 z1 z2 z3 y0 y1 y2 y3 f0 f1 f2 f3
          obtain ⟨y0, y1, y2, y3⟩ := cells4 e4
          go_wp2
          refine bodyPost_ret (v := .tuple #[.agg #[.int .i64 h.base, .int .i64 h.half, .int .i64 (1 - h.space), .int .i64 (sizeF Fin : Nat)], .slice q2 roots.length c2, .bool (decide (k ≤ h.half - (sizeF Fin : Nat)))]) (by simp [results, Try.results22, go_sem, y0, y1, y2, y3]) rfl ?_
          refine ⟨q2, c2, rfl, A4, O4.mono hle1, T4.sub fun b hb => ?_⟩
          simp only [List.mem_cons, List.not_mem_nil, or_false] at hb
          rcases hb with rfl | rfl | rfl
          · exact .inl (by simp)
          all_goals exact .inr (by omega)
end Go.Proofs.Ytinakendlpomnaa
/- wakes of package gc's statements: the walk. -/
namespace Go.Proofs.Ytinakendlpomnaa
open Go.RowKit Go.Maps Arena
set_option maxHeartbeats 8000000
set_option maxRecDepth 100000
theorem Ext.cells6k {w w' : World} (e : Ext w w') {a0 a1 a2 a3 a4 a5 : Addr} {v0 v1 v2 v3 v4 v5 : Value} (h : w.cell? a0 = some v0 ∧ w.cell? a1 = some v1 ∧ w.cell? a2 = some v2 ∧ w.cell? a3 = some v3 ∧ w.cell? a4 = some v4 ∧ w.cell? a5 = some v5) : w'.cell? a0 = some v0 ∧ w'.cell? a1 = some v1 ∧ w'.cell? a2 = some v2 ∧ w'.cell? a3 = some v3 ∧ w'.cell? a4 = some v4 ∧ w'.cell? a5 = some v5 :=
  ⟨e.cell h.1, e.cell h.2.1, e.cell h.2.2.1, e.cell h.2.2.2.1, e.cell h.2.2.2.2.1, e.cell h.2.2.2.2.2⟩
theorem Turn.cells6 {w w' : World} {b : Nat} (t : Turn [b] w w') {t0 t1 gw a0 a1 a2 a3 a4 a5 : Nat} {v0 v1 v2 v3 v4 v5 : Value} (h : w.cell? ⟨t0, a0, none⟩ = some v0 ∧ w.cell? ⟨t1, a1, none⟩ = some v1 ∧ w.cell? ⟨t1, a2, none⟩ = some v2 ∧ w.cell? ⟨t1, a3, none⟩ = some v3 ∧ w.cell? ⟨t1, a4, none⟩ = some v4 ∧ w.cell? ⟨gw, a5, none⟩ = some v5) (h0 : t0 ≠ b) (h1 : t1 ≠ b) (h2 : gw ≠ b) :
    w'.cell? ⟨t0, a0, none⟩ = some v0 ∧ w'.cell? ⟨t1, a1, none⟩ = some v1 ∧ w'.cell? ⟨t1, a2, none⟩ = some v2 ∧ w'.cell? ⟨t1, a3, none⟩ = some v3 ∧ w'.cell? ⟨t1, a4, none⟩ = some v4 ∧ w'.cell? ⟨gw, a5, none⟩ = some v5 :=
  ⟨t.cell (by simpa using h0) h.1, t.cell (by simpa using h1) h.2.1, t.cell (by simpa using h1) h.2.2.1, t.cell (by simpa using h1) h.2.2.2.1, t.cell (by simpa using h1) h.2.2.2.2.1, t.cell (by simpa using h2) h.2.2.2.2.2⟩
/-- behind the region of a get: the new block holds the object -/
structure GetEnd (wr W : World) (b : Nat) (o : Ob) (q : Option Addr) (c : Nat) : Prop where
  blk : W.heap[b]? = some (.cells #[.int .i64 o.kind, .int .i64 o.tag, .slice q o.fields.length c, .string o.text] 48 (0, 0))
  x : Ext wr W
  ws : OwnP W wr.heap.size 44 (.slice q o.fields.length c) 1 (o.fields.map wordC)
  ge : wr.heap.size ≤ b
theorem GetEnd.fill {wr w9 : World} {B b : Nat} {o : Ob} {q : Option Addr} {c : Nat} {x0 x1 x2 x3 : Value} (hx : Ext wr w9) (ho : OwnP w9 B 44 (.slice q o.fields.length c) 1 (o.fields.map wordC)) (hb : wr.heap.size ≤ b) (hB : b < B) (nb : w9.heap[b]? = some (.cells #[x0, x1, x2, x3] 48 (0, 0))) :
    GetEnd wr ((((w9.setCell ⟨b, 0, none⟩ (.int .i64 o.kind)).setCell ⟨b, 1, none⟩ (.int .i64 o.tag)).setCell ⟨b, 2, none⟩ (.slice q o.fields.length c)).setCell ⟨b, 3, none⟩ (.string o.text)) b o q c := by
  obtain ⟨h1, h2, -⟩ := fill4 nb (.int .i64 o.kind) (.int .i64 o.tag) (.slice q o.fields.length c) (.string o.text)
  refine ⟨h1, Turn.after hx h2 (by intro x hm; rw [List.mem_singleton.1 hm]; exact hb), (ho.turn h2 fun x hx hm => ?_).mono (by omega), hb⟩
  have := (ho.own x hx).1
  rw [List.mem_singleton.1 hm] at this
  omega
theorem GetEnd.made {wr w9 : World} {B : Nat} {o : Ob} {q : Option Addr} {c : Nat} (hx : Ext wr w9) (ho : OwnP w9 B 44 (.slice q o.fields.length c) 1 (o.fields.map wordC)) (hB : wr.heap.size ≤ B) :
    GetEnd wr (w9.alloc (.cells #[.int .i64 o.kind, .int .i64 o.tag, .slice q o.fields.length c, .string o.text] 48 (0, 0))) w9.heap.size o q c :=
  ⟨heap_alloc_new _ _, hx.trans (Ext.alloc _ _), (ho.ext (Ext.alloc _ _)).mono hB, Below.size hx⟩
theorem wakes4 (w : World) : Calls Try.prog 7 #[] w fun e w' => e = .returned (.bool true) ∧ Ext w w' := by
  have hmk := run_make_row' (P := Try.prog) 22 44 (.int .u64 0) 8 Try.underlying22 info_u64 rfl .i64 .i64 20 (by omega) (by omega)
  simp only [Int.cast_ofNat_Int] at hmk
  go_enter Try.func7, Try.ntmps7
  go_wp2_with fail
  refine (lay_words (make_words w 20 (by omega) _) (by simp)).mono ?_; rintro e w1 ⟨p, g, bm, q, gq, B, rfl, hB⟩
  have HB := Lib.hid hB
  clear hB hmk
  go_wp2_with fail
  refine at_alloc2 fun W hE hS b0 b1 => ?_
  have hlt := HB.out.a.lt
  have HGE := Lib.hid (show w.heap.size ≤ g by have h1 := HB.out.ge.2.1; have h2 := Below.size (Ext.alloc w (Obj.cells (madeCells #[Value.int IntKind.u64 0] 20) 44)); omega)
  have HX1 := Lib.hid ((Ext.alloc w (Obj.cells (madeCells #[Value.int IntKind.u64 0] 20) 44)).trans HB.out.ext)
  have K0 := Lib.hid (show Wk w1 W p g bm w1.heap.size (w1.heap.size + 1) q 30 gk0 (rigR 20) gH0 from ⟨HB.out.a.ext hE, Turn.of_ext hE, b0, b1, by omega, by omega, by omega, by omega⟩)
  have HSZ := Lib.hid (show w1.heap.size + 1 < W.heap.size by omega)
  clear hE hS b0 b1 hlt HB
  have HT0' := Lib.hid (Nat.le_refl w1.heap.size)
  generalize hgt0 : w1.heap.size = t0 at K0 HSZ ⊢
  have HT0 := Lib.hid hgt0
  clear hgt0 HT0'
  generalize ht1 : t0 + 1 = t1 at K0 HSZ ⊢
  have HT1 := Lib.hid ht1
  clear ht1
  have hrow : RowStay W g (.slice none 0 0) (([] : List Int).map wordC) := fun _ _ => RowsP.nil _ _
  refine (put_yes (h' := gH1) (ws' := gk1) K0.out.a gH0 (by decide) gk0_64 gO1 0 none hrow (by simp [gO1]) (by simp [gO1]) gk_put1 gk_up1 rfl 0 (by rw [gk_top0]; rfl)).mono ?_
  rintro e w2 ⟨rfl, hA2, hT2⟩
  have K1 := Lib.hid (K0.out.put hA2 hT2)
  clear hrow hT2 hA2 K0 HSZ
  obtain ⟨x0, x1⟩ := cells2 K1.out.two
  obtain ⟨y0, y1, y2, y3⟩ := cells4 K1.out.hp
  have f0 := free_at K1.out.hp (i := 0)
  have f1 := free_at K1.out.hp (i := 1)
  have f2 := free_at K1.out.hp (i := 2)
  have f3 := free_at K1.out.hp (i := 3)
  have n0 := (Array.getElem?_eq_some_iff.1 K1.out.two).1
  have n1 := (Array.getElem?_eq_some_iff.1 K1.out.hp).1
  go_upto_region 6 with fail
  refine wp_fill4 K1.out.hp fun W3 c3 hT3 hS3 => ?_
  clear hS3
  have K2 := Lib.hid (K1.out.fill (h' := gH1) c3 hT3)
  clear x0 x1 y0 y1 y2 y3 f0 f1 f2 f3 n0 n1
  clear c3 hT3 K1
  obtain ⟨x0, x1⟩ := cells2 K2.out.two
  obtain ⟨y0, y1, y2, y3⟩ := cells4 K2.out.hp
  have f0 := free_at K2.out.hp (i := 0)
  have f1 := free_at K2.out.hp (i := 1)
  have f2 := free_at K2.out.hp (i := 2)
  have f3 := free_at K2.out.hp (i := 3)
  have n0 := (Array.getElem?_eq_some_iff.1 K2.out.two).1
  have n1 := (Array.getElem?_eq_some_iff.1 K2.out.hp).1
  have hrow : RowStay W3 g (.slice none 0 0) (([] : List Int).map wordC) := fun _ _ => RowsP.nil _ _
  go_wp2_with fail
  refine (put_yes (h' := gH2) (ws' := gk2) K2.out.a gH1 (by decide) gk1_64 gO2 0 none hrow (by simp [gO2]) (by simp [gO2]) gk_put2 gk_up2 rfl 4 (by rw [gk_top1]; rfl)).mono ?_
  rintro e w5 ⟨rfl, hA5, hT5⟩
  have K4 := Lib.hid (K2.out.put hA5 hT5)
  clear x0 x1 y0 y1 y2 y3 f0 f1 f2 f3 n0 n1
  clear K2 hrow hA5 hT5
  obtain ⟨x0, x1⟩ := cells2 K4.out.two
  obtain ⟨y0, y1, y2, y3⟩ := cells4 K4.out.hp
  have f0 := free_at K4.out.hp (i := 0)
  have f1 := free_at K4.out.hp (i := 1)
  have f2 := free_at K4.out.hp (i := 2)
  have f3 := free_at K4.out.hp (i := 3)
  have n0 := (Array.getElem?_eq_some_iff.1 K4.out.two).1
  have n1 := (Array.getElem?_eq_some_iff.1 K4.out.hp).1
  go_upto_region 7 with fail
  refine wp_fill4 K4.out.hp fun W6 c6 hT6 hS6 => ?_
  clear hS6
  have K5 := Lib.hid (K4.out.fill (h' := gH2) c6 hT6)
  clear x0 x1 y0 y1 y2 y3 f0 f1 f2 f3 n0 n1
  clear c6 hT6 K4
  obtain ⟨x0, x1⟩ := cells2 K5.out.two
  obtain ⟨y0, y1, y2, y3⟩ := cells4 K5.out.hp
  have f0 := free_at K5.out.hp (i := 0)
  have f1 := free_at K5.out.hp (i := 1)
  have f2 := free_at K5.out.hp (i := 2)
  have f3 := free_at K5.out.hp (i := 3)
  have n0 := (Array.getElem?_eq_some_iff.1 K5.out.two).1
  have n1 := (Array.getElem?_eq_some_iff.1 K5.out.hp).1
  go_wp2_with fail
  refine at_alloc1 fun W7 hE7 hS7 b7 => ?_
  clear hS7
  have K6 := Lib.hid (K5.out.ext hE7)
  have hl := lit_at (B := W6.heap.size) [4, 4] b7 (by simp) (by omega)
  have hgl : g < W6.heap.size := by have := K5.out.a.lt; omega
  refine (put_yes (h' := gH3) (ws' := gk3) K6.out.a gH2 (by decide) gk2_64 gO3 2 _ (hl.rowStay hgl) (w64_lits (by decide)) (by simp [gO3]) gk_put3 gk_up3 rfl 8 (by rw [gk_top2]; rfl)).mono ?_
  rintro e w8 ⟨rfl, hA8, hT8⟩
  have K7 := Lib.hid (K6.out.put hA8 hT8)
  clear x0 x1 y0 y1 y2 y3 f0 f1 f2 f3 n0 n1
  clear K5 K6 hE7 b7 hl hgl hA8 hT8
  obtain ⟨x0, x1⟩ := cells2 K7.out.two
  obtain ⟨y0, y1, y2, y3⟩ := cells4 K7.out.hp
  have f0 := free_at K7.out.hp (i := 0)
  have f1 := free_at K7.out.hp (i := 1)
  have f2 := free_at K7.out.hp (i := 2)
  have f3 := free_at K7.out.hp (i := 3)
  have n0 := (Array.getElem?_eq_some_iff.1 K7.out.two).1
  have n1 := (Array.getElem?_eq_some_iff.1 K7.out.hp).1
  go_upto_region 8 with fail
  refine wp_fill4 K7.out.hp fun W9 c9 hT9 hS9 => ?_
  clear hS9
  have K8 := Lib.hid (K7.out.fill (h' := gH3) c9 hT9)
  clear x0 x1 y0 y1 y2 y3 f0 f1 f2 f3 n0 n1
  clear c9 hT9 K7
  obtain ⟨x0, x1⟩ := cells2 K8.out.two
  obtain ⟨y0, y1, y2, y3⟩ := cells4 K8.out.hp
  have f0 := free_at K8.out.hp (i := 0)
  have f1 := free_at K8.out.hp (i := 1)
  have f2 := free_at K8.out.hp (i := 2)
  have f3 := free_at K8.out.hp (i := 3)
  have n0 := (Array.getElem?_eq_some_iff.1 K8.out.two).1
  have n1 := (Array.getElem?_eq_some_iff.1 K8.out.hp).1
  go_wp2_with fail
  refine at_alloc1 fun W10 hE10 hS10 b10 => ?_
  clear hS10
  have K9 := Lib.hid (K8.out.ext hE10)
  have hl := lit_at (B := W9.heap.size) [8, 5] b10 (by simp) (by omega)
  refine (live_is K9.out.a gH3 (by decide) gk3_64 (roots := [8, 5]) hl.p (w64_lits (by decide)) (by simp)).mono ?_
  rintro e w11 ⟨rfl, hx11⟩
  rw [show liveN gk3 (rigR 20) gH3 [8, 5] = 5 by unfold liveN; rw [gk_may2, gk_first3]; simp only; rw [gk_live2, gk_size], show (mayH gk3 (rigR 20) gH3 [8, 5]).isSome = true by rw [gk_may2]; rfl]
  have K10 := Lib.hid (K9.out.ext hx11)
  clear x0 x1 y0 y1 y2 y3 f0 f1 f2 f3 n0 n1
  clear K8 K9 hE10 b10 hl hx11
  obtain ⟨x0, x1⟩ := cells2 K10.out.two
  obtain ⟨y0, y1, y2, y3⟩ := cells4 K10.out.hp
  have f0 := free_at K10.out.hp (i := 0)
  have f1 := free_at K10.out.hp (i := 1)
  have f2 := free_at K10.out.hp (i := 2)
  have f3 := free_at K10.out.hp (i := 3)
  have n0 := (Array.getElem?_eq_some_iff.1 K10.out.two).1
  have n1 := (Array.getElem?_eq_some_iff.1 K10.out.hp).1
  go_wp2_with fail
  refine at_alloc1 fun W12 hE12 hS12 b12 => ?_
  clear hS12
  have K11 := Lib.hid (K10.out.ext hE12)
  have hl := lit_at (B := w11.heap.size) [8, 5, 4] b12 (by simp) (by omega)
  have hgl : g < w11.heap.size := by have := K10.out.a.lt; omega
  refine (coll_is K11.out.a gH3 (by decide) gk3_64 (roots := [8, 5, 4]) (hl.rowStay hgl) (w64_lits (by decide)) (by simp)).mono ?_
  intro e w13 hcs
  unfold CollSaid at hcs
  rw [gk_may3] at hcs
  dsimp only at hcs
  rw [gk_first3, gk_other3, gk_live3, gk_roots, gk_coll] at hcs
  obtain ⟨qr, cr, rfl, hA13, hO13, hT13⟩ := hcs
  have K12 := Lib.hid (K11.out.put (ws' := gk4) hA13 hT13)
  have HO := Lib.hid hO13
  clear x0 x1 y0 y1 y2 y3 f0 f1 f2 f3 n0 n1
  have hg12 : g < W12.heap.size := K11.out.a.lt.2.1
  clear K10 K11 hE12 b12 hl hgl hA13 hO13 hT13
  obtain ⟨x0, x1⟩ := cells2 K12.out.two
  obtain ⟨y0, y1, y2, y3⟩ := cells4 K12.out.hp
  have f0 := free_at K12.out.hp (i := 0)
  have f1 := free_at K12.out.hp (i := 1)
  have f2 := free_at K12.out.hp (i := 2)
  have f3 := free_at K12.out.hp (i := 3)
  have n0 := (Array.getElem?_eq_some_iff.1 K12.out.two).1
  have n1 := (Array.getElem?_eq_some_iff.1 K12.out.hp).1
  unfold hpV gH4
  dsimp only
  go_upto_region 10 with fail
  refine wp_alloc1 fun W14 hE14 hS14 b14 => ?_
  have K13 := Lib.hid (K12.out.ext hE14)
  have HO14 := Lib.hid (HO.out.ext hE14)
  have HB14 := Lib.hid b14
  clear x0 x1 y0 y1 y2 y3 f0 f1 f2 f3 n0 n1
  have hg13 : g < w13.heap.size ∧ t0 < w13.heap.size ∧ t1 < w13.heap.size := by have h1 := K12.out.a.lt; have h2 := (Array.getElem?_eq_some_iff.1 K12.out.two).1; have h3 := (Array.getElem?_eq_some_iff.1 K12.out.hp).1; omega
  clear hE14 hS14 K12 HO b14
  generalize w13.heap.size = t3 at *
  have HOP := Lib.hid HO14.out
  obtain ⟨gr, rfl, -, c20, -⟩ := HOP.out.cell (i := 0) (f := 0) (cs := wordC 20) (u := .int .u64 20) rfl rfl
  obtain ⟨gr1, e1, -, c21, -⟩ := HOP.out.cell (i := 1) (f := 0) (cs := wordC 5) (u := .int .u64 5) rfl rfl
  obtain ⟨gr2, e2, -, c22, -⟩ := HOP.out.cell (i := 2) (f := 0) (cs := wordC 26) (u := .int .u64 26) rfl rfl
  obtain rfl : gr1 = gr := by obtain ⟨h, _⟩ := Addr.mk.inj (Option.some.inj e1); exact h.symm
  obtain rfl : gr2 = gr1 := by obtain ⟨h, _⟩ := Addr.mk.inj (Option.some.inj e2); exact h.symm
  clear e1 e2
  obtain ⟨x0, x1⟩ := cells2 K13.out.two
  obtain ⟨e0, e1, e2, e3⟩ := cells4 HB14.out
  go_upto_region 12 with fail
  have HGET := Lib.hid (show ∀ W, Ext W14 W → Calls Try.prog 21 #[.pointer (some ⟨p, 0, none⟩), .agg #[.int .i64 3, .int .i64 10, .int .i64 1, .int .i64 5], .int .u64 20] W fun e w' => ∃ q c, e = .returned (.tuple #[.agg #[.int .i64 gO4.kind, .int .i64 gO4.tag, .slice q gO4.fields.length c, .string gO4.text], .bool true]) ∧ OwnP w' W.heap.size 44 (.slice q gO4.fields.length c) 1 (gO4.fields.map wordC) ∧ Ext W w' from fun W e => by
    refine (get_is (K13.out.ext e).a gH4 (by decide) gk4_64 (x := 20) (w64_lits (l := [20]) (by decide) 20 (by simp))).mono ?_
    rintro e w' ⟨v, rfl, hx, _, hy⟩
    obtain ⟨qo, co, rfl, ho⟩ := hy (0, gO4) gk_get4
    rw [show (getH gk4 (rigR 20) gH4 20).isSome = true by rw [gk_get4]; rfl]
    exact ⟨qo, co, rfl, ho, hx⟩)
  have hg14 : gr2 < W14.heap.size ∧ t0 < W14.heap.size ∧ t3 < W14.heap.size ∧ g < W14.heap.size := ⟨(HOP.out.own gr2 rfl).2, (Array.getElem?_eq_some_iff.1 K13.out.two).1, (Array.getElem?_eq_some_iff.1 HB14.out).1, K13.out.a.lt.2.1⟩
  have c20' : W14.cell? ⟨gr2, 0, none⟩ = some (.int .u64 20) := c20
  have HK0 := Lib.hid (show W14.cell? ⟨t0, 0, none⟩ = some (.pointer (some ⟨p, 0, none⟩)) ∧ W14.cell? ⟨t3, 0, none⟩ = some (.int .i64 3) ∧ W14.cell? ⟨t3, 1, none⟩ = some (.int .i64 10) ∧ W14.cell? ⟨t3, 2, none⟩ = some (.int .i64 1) ∧ W14.cell? ⟨t3, 3, none⟩ = some (.int .i64 5) ∧ W14.cell? ⟨gr2, 0, none⟩ = some (.int .u64 20) from ⟨x0, e0, e1, e2, e3, c20'⟩)
  clear x0 x1 e0 e1 e2 e3 c20 c21 c22 c20'
  refine wp_region_noPanic ?_
  refine wp_region_last 12 (S := (fun w' => w'.cell? ⟨t0, 0, none⟩ = some (.pointer (some ⟨p, 0, none⟩)) ∧ w'.cell? ⟨t3, 0, none⟩ = some (.int .i64 3) ∧ w'.cell? ⟨t3, 1, none⟩ = some (.int .i64 10) ∧ w'.cell? ⟨t3, 2, none⟩ = some (.int .i64 1) ∧ w'.cell? ⟨t3, 3, none⟩ = some (.int .i64 5) ∧ w'.cell? ⟨gr2, 0, none⟩ = some (.int .u64 20))) (by kernel_rfl) (by kernel_rfl) _ rfl ?_ (fun hHeld => ?_)
  · (first | with_reducible exact (Ext.drew _).cells6k HK0.out | with_reducible exact hkp | with_reducible exact (Ext.alloc _ _).cells6k hkp | with_reducible exact Ext.cells6k (Ext.trans (Ext.alloc _ _) (Ext.drew _)) HK0.out | exact Turn.cells6 (fill4 nb15 _ _ _ _).2.1 hkp (by omega) (by omega) (by omega))
  simp only [List.take_succ_cons, List.take_zero]
  refine wpAnyH_take (i := 0) (v := ?v1) rfl (by kernel_rfl) (by kernel_rfl) (by kernel_rfl) (fun _ _ _ h => h) (Or.inl ⟨by rfl, ?y1⟩) (by assumption) ?r1
  case y1 => intro w hSw; (try dsimp only at hSw); go_simp; (try with_reducible rfl)
  (try simp only [Act.put, List.setIfInBounds_toArray, List.set_cons_zero, List.set_cons_succ, List.getElem_toArray, List.getElem_cons_zero, List.getElem_cons_succ])
  refine wpAnyH_take (i := 1) (v := ?v2) rfl (by kernel_rfl) (by kernel_rfl) (by kernel_rfl) (fun _ _ _ h => h) (Or.inl ⟨by rfl, ?y2⟩) (by assumption) ?r2
  case y2 => intro w hSw; (try dsimp only at hSw); go_simp; (try with_reducible rfl)
  (try simp only [Act.put, List.setIfInBounds_toArray, List.set_cons_zero, List.set_cons_succ, List.getElem_toArray, List.getElem_cons_zero, List.getElem_cons_succ])
  refine wpAnyH_take (i := 2) (v := ?v3) rfl (by kernel_rfl) (by kernel_rfl) (by kernel_rfl) (fun _ _ _ h => h) (Or.inl ⟨by rfl, ?y3⟩) (by assumption) ?r3
  case y3 => intro w hSw; (try dsimp only at hSw); go_simp; (try with_reducible rfl)
  (try simp only [Act.put, List.setIfInBounds_toArray, List.set_cons_zero, List.set_cons_succ, List.getElem_toArray, List.getElem_cons_zero, List.getElem_cons_succ])
  refine wpAnyH_take (i := 3) (v := ?v4) rfl (by kernel_rfl) (by kernel_rfl) (by kernel_rfl) (fun _ _ _ h => h) (Or.inl ⟨by rfl, ?y4⟩) (by assumption) ?r4
  case y4 => intro w hSw; (try dsimp only at hSw); go_simp; (try with_reducible rfl)
  (try simp only [Act.put, List.setIfInBounds_toArray, List.set_cons_zero, List.set_cons_succ, List.getElem_toArray, List.getElem_cons_zero, List.getElem_cons_succ])
  refine wpAnyH_take (i := 4) (v := ?v5) rfl (by kernel_rfl) (by kernel_rfl) (by kernel_rfl) (fun _ _ _ h => h) (Or.inl ⟨by rfl, ?y5⟩) (by assumption) ?r5
  case y5 => intro w hSw; (try dsimp only at hSw); go_simp; (try with_reducible rfl)
  (try simp only [Act.put, List.setIfInBounds_toArray, List.set_cons_zero, List.set_cons_succ, List.getElem_toArray, List.getElem_cons_zero, List.getElem_cons_succ])
  refine wpAnyH_take (i := 5) (v := ?v6) rfl (by kernel_rfl) (by kernel_rfl) (by kernel_rfl) (fun _ _ _ h => h) (Or.inl ⟨by rfl, ?y6⟩) (by assumption) ?r6
  case y6 => intro w hSw; (try dsimp only at hSw); go_simp; (try with_reducible rfl)
  (try simp only [Act.put, List.setIfInBounds_toArray, List.set_cons_zero, List.set_cons_succ, List.getElem_toArray, List.getElem_cons_zero, List.getElem_cons_succ])
  refine wpAnyH_ready (rs := [6, 10]) (by kernel_rfl) (by simp) ?_
  refine AllReadyH.cons rfl (fun K hK => ?_) (AllReadyH.cons rfl (fun K hK => ?_) (AllReadyH.nil))
  · skip
    go_simp
    refine (HGET.out _ (Ext.drew _)).mono ?_
    rintro e w15 ⟨qg, cg, rfl, hsg, hx15'⟩
    have hx15 : Ext W14 w15 := (Ext.drew W14).trans hx15'
    have hkp := hx15.cells6k HK0.out
    refine hK.out _ _ ?s7 (fun hHeld => ?k7)
    case s7 => ((try dsimp only); (first | with_reducible exact (Ext.drew _).cells6k HK0.out | with_reducible exact hkp | with_reducible exact (Ext.alloc _ _).cells6k hkp | with_reducible exact Ext.cells6k (Ext.trans (Ext.alloc _ _) (Ext.drew _)) HK0.out | exact Turn.cells6 (fill4 nb15 _ _ _ _).2.1 hkp (by omega) (by omega) (by omega)))
    clear hK K
    (try simp only [Act.put, List.setIfInBounds_toArray, List.set_cons_zero, List.set_cons_succ, List.getElem_toArray, List.getElem_cons_zero, List.getElem_cons_succ])
    refine wpAnyH_take (i := 7) (v := ?v8) rfl (by kernel_rfl) (by kernel_rfl) (by kernel_rfl) (fun _ _ _ h => h) (Or.inl ⟨by rfl, ?y8⟩) (by assumption) ?r8
    case y8 => intro w hSw; (try dsimp only at hSw); go_simp; (try with_reducible rfl)
    (try simp only [Act.put, List.setIfInBounds_toArray, List.set_cons_zero, List.set_cons_succ, List.getElem_toArray, List.getElem_cons_zero, List.getElem_cons_succ])
    refine wpAnyH_take (i := 8) (v := ?v9) rfl (by kernel_rfl) (by kernel_rfl) (by kernel_rfl) (fun _ _ _ h => h) (Or.inl ⟨by rfl, ?y9⟩) (by assumption) ?r9
    case y9 => intro w hSw; (try dsimp only at hSw); go_simp; (try with_reducible rfl)
    (try simp only [Act.put, List.setIfInBounds_toArray, List.set_cons_zero, List.set_cons_succ, List.getElem_toArray, List.getElem_cons_zero, List.getElem_cons_succ])
    refine wpAnyH_take (i := 9) (v := ?v10) rfl (by kernel_rfl) (by kernel_rfl) (by kernel_rfl) (fun _ _ _ h => h) (Or.inl ⟨by rfl, ?y10⟩) (by assumption) ?r10
    case y10 => intro w hSw; (try dsimp only at hSw); go_simp; (try with_reducible rfl)
    (try simp only [Act.put, List.setIfInBounds_toArray, List.set_cons_zero, List.set_cons_succ, List.getElem_toArray, List.getElem_cons_zero, List.getElem_cons_succ])
    refine wpAnyH_ready (rs := [10]) (by kernel_rfl) (by simp) ?_
    refine AllReadyH.cons rfl (fun K hK => ?_) AllReadyH.nil
    go_simp
    refine hK.out _ _ ?s11 (fun hHeld => ?k11)
    case s11 => ((try dsimp only); (first | with_reducible exact (Ext.drew _).cells6k HK0.out | with_reducible exact hkp | with_reducible exact (Ext.alloc _ _).cells6k hkp | with_reducible exact Ext.cells6k (Ext.trans (Ext.alloc _ _) (Ext.drew _)) HK0.out | exact Turn.cells6 (fill4 nb15 _ _ _ _).2.1 hkp (by omega) (by omega) (by omega)))
    clear hK K
    (try simp only [Act.put, List.setIfInBounds_toArray, List.set_cons_zero, List.set_cons_succ, List.getElem_toArray, List.getElem_cons_zero, List.getElem_cons_succ])
    refine wpAnyH_ready (rs := [11]) (by kernel_rfl) (by simp) ?_
    refine AllReadyH.cons rfl (fun K hK => ?_) AllReadyH.nil
    go_simp
    refine hK.out _ _ ?s12 (fun hHeld => ?k12)
    case s12 => ((try dsimp only); (first | with_reducible exact (Ext.drew _).cells6k HK0.out | with_reducible exact hkp | with_reducible exact (Ext.alloc _ _).cells6k hkp | with_reducible exact Ext.cells6k (Ext.trans (Ext.alloc _ _) (Ext.drew _)) HK0.out | exact Turn.cells6 (fill4 nb15 _ _ _ _).2.1 hkp (by omega) (by omega) (by omega)))
    clear hK K
    (try simp only [Act.put, List.setIfInBounds_toArray, List.set_cons_zero, List.set_cons_succ, List.getElem_toArray, List.getElem_cons_zero, List.getElem_cons_succ])
    refine wpAnyH_done (by kernel_rfl) ?_ _
    show wpList _ _ _ _ _ _
    first
      | (refine list_gen (fun W => GetEnd W14 W W14.heap.size gO4 qg cg) (GetEnd.fill hx15 hsg (Nat.le_refl _) (by simp) nb15) fun W16 hP => ?_; generalize hb16 : W14.heap.size = b16 at hP ⊢)
      | (refine list_gen (fun W => GetEnd W14 W w15.heap.size gO4 qg cg) (GetEnd.made hx15 hsg (by simp)) fun W16 hP => ?_; generalize hb16 : w15.heap.size = b16 at hP ⊢)
    have HP := Lib.hid hP
    have K14 := Lib.hid (K13.out.ext hP.x)
    have OP16 := Lib.hid (HOP.out.ext hP.x)
    have HB16 := Lib.hid ((Below.block hP.x t3 hg14.2.2.1).trans HB14.out)
    clear hP hb16 hsg hkp hHeld HGET HK0
    obtain ⟨x0, x1⟩ := cells2 K14.out.two
    obtain ⟨e0, e1, e2, e3⟩ := cells4 HB16.out
    go_wp2
    refine NoPanic.normal ?_
    go_wp2_with fail
    refine (room_is K14.out.a gH4 (by decide) gk4_64 (roots := [20, 5, 26]) (OP16.out.rowStay hg12) (w64_lits (by decide)) (by simp) 6).mono ?_
    intro e w17 hrs
    unfold RoomSaid at hrs
    rw [if_neg (by omega), gk_may4] at hrs
    dsimp only at hrs
    simp only [if_neg (show ¬ (6 : Int) ≤ gH4.half - gH4.top by decide)] at hrs
    rw [gk_live4] at hrs
    obtain ⟨q5, c5, rfl, hA17, hO17, hT17⟩ := hrs
    rw [show decide ((6 : Int) ≤ gH4.half - ((sizeF [(0, gO4), (3, gO2)] : Nat) : Int)) = false by decide]
    have K15 := Lib.hid (K14.out.put hA17 hT17)
    have hb16g : b16 ≠ g := by have := HP.out.ge; omega
    have B17 := Lib.hid (hT17.keep HB16.out (by omega))
    have P17 := Lib.hid (hT17.keep HP.out.blk hb16g)
    have W17 := Lib.hid (HP.out.ws.turn hT17 (fun b hb hm => by have h1 := (HP.out.ws.own b hb).1; rw [List.mem_singleton.1 hm] at h1; omega))
    have O17 := Lib.hid (OP16.out.turn hT17 (fun b hb hm => by have h1 := (OP16.out.own b hb).1; rw [List.mem_singleton.1 hm] at h1; omega))
    clear hA17 hO17 hT17 x0 x1 e0 e1 e2 e3 HP K14 OP16 HB16
    unfold hpV collH
    dsimp only
    go_upto_region 14 with fail
    refine wp_alloc1 fun W18 hE18 hS18 b18 => ?_
    have K16 := Lib.hid (K15.out.ext hE18)
    have B18 := Lib.hid ((Below.block hE18 _ (Array.getElem?_eq_some_iff.1 B17.out).1).trans B17.out)
    have P18 := Lib.hid ((Below.block hE18 _ (Array.getElem?_eq_some_iff.1 P17.out).1).trans P17.out)
    have V18 := Lib.hid (W17.out.ext hE18)
    have O18 := Lib.hid (O17.out.ext hE18)
    clear hE18 hS18 b18 K15 B17 P17 W17 O17
    obtain ⟨x0, x1⟩ := cells2 K16.out.two
    go_wp2_with fail
    refine (wordsA_said (x := 3) K16.out.a (by decide)).mono ?_
    rintro e w19 ⟨vw, rfl, hws, hx19⟩
    rw [rig_free (m := 20) (by omega)]
    obtain ⟨qw, cw, rfl, hlw, hcw, -⟩ := hws
    have hlen20 : (wordsAt (collWs gk4 gH4 [(0, gO4), (3, gO2)]) (rigR 20) 3).length = 20 := by rw [wordsAt_len K16.out.a.good K16.out.a.len, rig_len]
    rw [hlen20] at hlw ⊢
    have K17 := Lib.hid (K16.out.ext hx19)
    have B19 := Lib.hid ((Below.block hx19 _ (Array.getElem?_eq_some_iff.1 B18.out).1).trans B18.out)
    have P19 := Lib.hid ((Below.block hx19 _ (Array.getElem?_eq_some_iff.1 P18.out).1).trans P18.out)
    have V19 := Lib.hid (V18.out.ext hx19)
    have O19 := Lib.hid (O18.out.ext hx19)
    clear hx19 hlen20 x0 x1 K16 B18 P18 V18 O18
    obtain ⟨e0, e1, e2, e3⟩ := cells4 B19.out
    obtain ⟨p0, p1, p2, p3⟩ := cells4 P19.out
    obtain ⟨_, h1, -, c20, -⟩ := O19.out.cell (i := 0) (f := 0) (cs := wordC 20) (u := .int .u64 20) rfl rfl
    obtain ⟨rfl, -⟩ := Addr.mk.inj (Option.some.inj h1)
    obtain ⟨_, h2, -, c21, -⟩ := O19.out.cell (i := 1) (f := 0) (cs := wordC 5) (u := .int .u64 5) rfl rfl
    obtain ⟨rfl, -⟩ := Addr.mk.inj (Option.some.inj h2)
    obtain ⟨_, h3, -, c22, -⟩ := O19.out.cell (i := 2) (f := 0) (cs := wordC 26) (u := .int .u64 26) rfl rfl
    obtain ⟨rfl, -⟩ := Addr.mk.inj (Option.some.inj h3)
    clear h1 h2 h3
    go_wp2_with fail
    refine at_alloc1 fun W20 hE20 hS20 b20 => ?_
    have hl := lit_at (B := w19.heap.size) [26, 26] b20 (by simp) (by omega)
    refine (keep_words (WordSl.of_rows (V19.out.ext hE20).p) (WordSl.of_rows hl.p)).mono ?_
    rintro e w21 ⟨rfl, hx21⟩
    rw [show decide (gO4.fields = [26, 26]) = true by decide]
    have K18 := Lib.hid ((K17.out.ext hE20).ext hx21)
    clear hE20 hS20 b20 hl hx21 e0 e1 e2 e3 p0 p1 p2 p3 c20 c21 c22 V19 O19 B19 P19
    go_wp2
    go_ret
    refine ⟨rfl, Turn.after HX1.out K18.out.t (fun b hb => ?_)⟩
    have h1 := HGE.out
    have h2 := HT0.out
    have h3 := HT1.out
    have h4 := Below.size HX1.out
    simp only [List.mem_cons, List.not_mem_nil, or_false] at hb
    rcases hb with rfl | rfl <;> omega
  · skip
    go_simp
    refine hK.out _ _ ?s13 (fun hHeld => ?k13)
    case s13 => ((try dsimp only); (first | with_reducible exact (Ext.drew _).cells6k HK0.out | with_reducible exact hkp | with_reducible exact (Ext.alloc _ _).cells6k hkp | with_reducible exact Ext.cells6k (Ext.trans (Ext.alloc _ _) (Ext.drew _)) HK0.out | exact Turn.cells6 (fill4 nb15 _ _ _ _).2.1 hkp (by omega) (by omega) (by omega)))
    clear hK K
    (try simp only [Act.put, List.setIfInBounds_toArray, List.set_cons_zero, List.set_cons_succ, List.getElem_toArray, List.getElem_cons_zero, List.getElem_cons_succ])
    refine wpAnyH_ready (rs := [6]) (by kernel_rfl) (by simp) ?_
    refine AllReadyH.cons rfl (fun K hK => ?_) AllReadyH.nil
    go_simp
    refine (HGET.out _ (Ext.trans (Ext.alloc _ _) (Ext.drew _))).mono ?_
    rintro e w15 ⟨qg, cg, rfl, hsg, hxw15⟩
    have hx15 : Ext W14 w15 := (Ext.trans (Ext.alloc _ _) (Ext.drew _)).trans hxw15
    have hkp := hx15.cells6k HK0.out
    have nb15 : w15.heap[W14.heap.size]? = some (Obj.cells #[.int .i64 0, .int .i64 0, .slice none 0 0, .string ⟨#[]⟩] 48 (0, 0)) := (Below.block hxw15 _ (by simp)).trans (heap_alloc_new _ _)
    obtain ⟨k0, k1, k2, k3⟩ := cells4 nb15
    have kf0 := free_at nb15 (i := 0)
    have kf1 := free_at nb15 (i := 1)
    have kf2 := free_at nb15 (i := 2)
    have kf3 := free_at nb15 (i := 3)
    refine hK.out _ _ ?s14 (fun hHeld => ?k14)
    case s14 => ((try dsimp only); (first | with_reducible exact (Ext.drew _).cells6k HK0.out | with_reducible exact hkp | with_reducible exact (Ext.alloc _ _).cells6k hkp | with_reducible exact Ext.cells6k (Ext.trans (Ext.alloc _ _) (Ext.drew _)) HK0.out | exact Turn.cells6 (fill4 nb15 _ _ _ _).2.1 hkp (by omega) (by omega) (by omega)))
    clear hK K
    (try simp only [Act.put, List.setIfInBounds_toArray, List.set_cons_zero, List.set_cons_succ, List.getElem_toArray, List.getElem_cons_zero, List.getElem_cons_succ])
    refine wpAnyH_take (i := 7) (v := ?v15) rfl (by kernel_rfl) (by kernel_rfl) (by kernel_rfl) (fun _ _ _ h => h) (Or.inl ⟨by rfl, ?y15⟩) (by assumption) ?r15
    case y15 => intro w hSw; (try dsimp only at hSw); go_simp; (try with_reducible rfl)
    (try simp only [Act.put, List.setIfInBounds_toArray, List.set_cons_zero, List.set_cons_succ, List.getElem_toArray, List.getElem_cons_zero, List.getElem_cons_succ])
    refine wpAnyH_take (i := 8) (v := ?v16) rfl (by kernel_rfl) (by kernel_rfl) (by kernel_rfl) (fun _ _ _ h => h) (Or.inl ⟨by rfl, ?y16⟩) (by assumption) ?r16
    case y16 => intro w hSw; (try dsimp only at hSw); go_simp; (try with_reducible rfl)
    (try simp only [Act.put, List.setIfInBounds_toArray, List.set_cons_zero, List.set_cons_succ, List.getElem_toArray, List.getElem_cons_zero, List.getElem_cons_succ])
    refine wpAnyH_take (i := 9) (v := ?v17) rfl (by kernel_rfl) (by kernel_rfl) (by kernel_rfl) (fun _ _ _ h => h) (Or.inl ⟨by rfl, ?y17⟩) (by assumption) ?r17
    case y17 => intro w hSw; (try dsimp only at hSw); go_simp; (try with_reducible rfl)
    (try simp only [Act.put, List.setIfInBounds_toArray, List.set_cons_zero, List.set_cons_succ, List.getElem_toArray, List.getElem_cons_zero, List.getElem_cons_succ])
    refine wpAnyH_ready (rs := [11]) (by kernel_rfl) (by simp) ?_
    refine AllReadyH.cons rfl (fun K hK => ?_) AllReadyH.nil
    go_simp
    refine hK.out _ _ ?s18 (fun hHeld => ?k18)
    case s18 => ((try dsimp only); (first | with_reducible exact (Ext.drew _).cells6k HK0.out | with_reducible exact hkp | with_reducible exact (Ext.alloc _ _).cells6k hkp | with_reducible exact Ext.cells6k (Ext.trans (Ext.alloc _ _) (Ext.drew _)) HK0.out | exact Turn.cells6 (fill4 nb15 _ _ _ _).2.1 hkp (by omega) (by omega) (by omega)))
    clear hK K
    (try simp only [Act.put, List.setIfInBounds_toArray, List.set_cons_zero, List.set_cons_succ, List.getElem_toArray, List.getElem_cons_zero, List.getElem_cons_succ])
    refine wpAnyH_done (by kernel_rfl) ?_ _
    show wpList _ _ _ _ _ _
    first
      | (refine list_gen (fun W => GetEnd W14 W W14.heap.size gO4 qg cg) (GetEnd.fill hx15 hsg (Nat.le_refl _) (by simp) nb15) fun W16 hP => ?_; generalize hb16 : W14.heap.size = b16 at hP ⊢)
      | (refine list_gen (fun W => GetEnd W14 W w15.heap.size gO4 qg cg) (GetEnd.made hx15 hsg (by simp)) fun W16 hP => ?_; generalize hb16 : w15.heap.size = b16 at hP ⊢)
    have HP := Lib.hid hP
    have K14 := Lib.hid (K13.out.ext hP.x)
    have OP16 := Lib.hid (HOP.out.ext hP.x)
    have HB16 := Lib.hid ((Below.block hP.x t3 hg14.2.2.1).trans HB14.out)
    clear hP hb16 hsg hkp hHeld HGET HK0
    obtain ⟨x0, x1⟩ := cells2 K14.out.two
    obtain ⟨e0, e1, e2, e3⟩ := cells4 HB16.out
    go_wp2
    refine NoPanic.normal ?_
    go_wp2_with fail
    refine (room_is K14.out.a gH4 (by decide) gk4_64 (roots := [20, 5, 26]) (OP16.out.rowStay hg12) (w64_lits (by decide)) (by simp) 6).mono ?_
    intro e w17 hrs
    unfold RoomSaid at hrs
    rw [if_neg (by omega), gk_may4] at hrs
    dsimp only at hrs
    simp only [if_neg (show ¬ (6 : Int) ≤ gH4.half - gH4.top by decide)] at hrs
    rw [gk_live4] at hrs
    obtain ⟨q5, c5, rfl, hA17, hO17, hT17⟩ := hrs
    rw [show decide ((6 : Int) ≤ gH4.half - ((sizeF [(0, gO4), (3, gO2)] : Nat) : Int)) = false by decide]
    have K15 := Lib.hid (K14.out.put hA17 hT17)
    have hb16g : b16 ≠ g := by have := HP.out.ge; omega
    have B17 := Lib.hid (hT17.keep HB16.out (by omega))
    have P17 := Lib.hid (hT17.keep HP.out.blk hb16g)
    have W17 := Lib.hid (HP.out.ws.turn hT17 (fun b hb hm => by have h1 := (HP.out.ws.own b hb).1; rw [List.mem_singleton.1 hm] at h1; omega))
    have O17 := Lib.hid (OP16.out.turn hT17 (fun b hb hm => by have h1 := (OP16.out.own b hb).1; rw [List.mem_singleton.1 hm] at h1; omega))
    clear hA17 hO17 hT17 x0 x1 e0 e1 e2 e3 HP K14 OP16 HB16
    unfold hpV collH
    dsimp only
    go_upto_region 14 with fail
    refine wp_alloc1 fun W18 hE18 hS18 b18 => ?_
    have K16 := Lib.hid (K15.out.ext hE18)
    have B18 := Lib.hid ((Below.block hE18 _ (Array.getElem?_eq_some_iff.1 B17.out).1).trans B17.out)
    have P18 := Lib.hid ((Below.block hE18 _ (Array.getElem?_eq_some_iff.1 P17.out).1).trans P17.out)
    have V18 := Lib.hid (W17.out.ext hE18)
    have O18 := Lib.hid (O17.out.ext hE18)
    clear hE18 hS18 b18 K15 B17 P17 W17 O17
    obtain ⟨x0, x1⟩ := cells2 K16.out.two
    go_wp2_with fail
    refine (wordsA_said (x := 3) K16.out.a (by decide)).mono ?_
    rintro e w19 ⟨vw, rfl, hws, hx19⟩
    rw [rig_free (m := 20) (by omega)]
    obtain ⟨qw, cw, rfl, hlw, hcw, -⟩ := hws
    have hlen20 : (wordsAt (collWs gk4 gH4 [(0, gO4), (3, gO2)]) (rigR 20) 3).length = 20 := by rw [wordsAt_len K16.out.a.good K16.out.a.len, rig_len]
    rw [hlen20] at hlw ⊢
    have K17 := Lib.hid (K16.out.ext hx19)
    have B19 := Lib.hid ((Below.block hx19 _ (Array.getElem?_eq_some_iff.1 B18.out).1).trans B18.out)
    have P19 := Lib.hid ((Below.block hx19 _ (Array.getElem?_eq_some_iff.1 P18.out).1).trans P18.out)
    have V19 := Lib.hid (V18.out.ext hx19)
    have O19 := Lib.hid (O18.out.ext hx19)
    clear hx19 hlen20 x0 x1 K16 B18 P18 V18 O18
    obtain ⟨e0, e1, e2, e3⟩ := cells4 B19.out
    obtain ⟨p0, p1, p2, p3⟩ := cells4 P19.out
    obtain ⟨_, h1, -, c20, -⟩ := O19.out.cell (i := 0) (f := 0) (cs := wordC 20) (u := .int .u64 20) rfl rfl
    obtain ⟨rfl, -⟩ := Addr.mk.inj (Option.some.inj h1)
    obtain ⟨_, h2, -, c21, -⟩ := O19.out.cell (i := 1) (f := 0) (cs := wordC 5) (u := .int .u64 5) rfl rfl
    obtain ⟨rfl, -⟩ := Addr.mk.inj (Option.some.inj h2)
    obtain ⟨_, h3, -, c22, -⟩ := O19.out.cell (i := 2) (f := 0) (cs := wordC 26) (u := .int .u64 26) rfl rfl
    obtain ⟨rfl, -⟩ := Addr.mk.inj (Option.some.inj h3)
    clear h1 h2 h3
    go_wp2_with fail
    refine at_alloc1 fun W20 hE20 hS20 b20 => ?_
    have hl := lit_at (B := w19.heap.size) [26, 26] b20 (by simp) (by omega)
    refine (keep_words (WordSl.of_rows (V19.out.ext hE20).p) (WordSl.of_rows hl.p)).mono ?_
    rintro e w21 ⟨rfl, hx21⟩
    rw [show decide (gO4.fields = [26, 26]) = true by decide]
    have K18 := Lib.hid ((K17.out.ext hE20).ext hx21)
    clear hE20 hS20 b20 hl hx21 e0 e1 e2 e3 p0 p1 p2 p3 c20 c21 c22 V19 O19 B19 P19
    go_wp2
    go_ret
    refine ⟨rfl, Turn.after HX1.out K18.out.t (fun b hb => ?_)⟩
    have h1 := HGE.out
    have h2 := HT0.out
    have h3 := HT1.out
    have h4 := Below.size HX1.out
    simp only [List.mem_cons, List.not_mem_nil, or_false] at hb
    rcases hb with rfl | rfl <;> omega
end Go.Proofs.Ytinakendlpomnaa
