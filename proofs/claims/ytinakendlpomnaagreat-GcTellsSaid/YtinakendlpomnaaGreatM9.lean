/- Proved here: the contracts and laws of GcLB of this claim, each beneath its own remark; conditions: those that each theorem names. -/
import Derived.Test.YtinakendlpomnaaGreatM7
import Derived.Test.YtinakendlpomnaaGreatM8
/- wakes of package gc's statements: the walk. -/
namespace Go.Proofs.YtinakendlpomnaaGreat
open Go.RowKit Go.Maps Arena
set_option maxHeartbeats 8000000
set_option maxRecDepth 100000
theorem Ext.cells6k {w w' : World} (e : Ext w w') {a0 a1 a2 a3 a4 a5 : Addr} {v0 v1 v2 v3 v4 v5 : Value} (h : w.cell? a0 = some v0 ∧ w.cell? a1 = some v1 ∧ w.cell? a2 = some v2 ∧ w.cell? a3 = some v3 ∧ w.cell? a4 = some v4 ∧ w.cell? a5 = some v5) : w'.cell? a0 = some v0 ∧ w'.cell? a1 = some v1 ∧ w'.cell? a2 = some v2 ∧ w'.cell? a3 = some v3 ∧ w'.cell? a4 = some v4 ∧ w'.cell? a5 = some v5 :=
  ⟨e.cell h.1, e.cell h.2.1, e.cell h.2.2.1, e.cell h.2.2.2.1, e.cell h.2.2.2.2.1, e.cell h.2.2.2.2.2⟩
theorem Turn.cells6 {w w' : World} {b : Nat} (t : Turn [b] w w') {t0 t1 gw a0 a1 a2 a3 a4 a5 : Nat} {v0 v1 v2 v3 v4 v5 : Value} (h : w.cell? ⟨t0, a0, none⟩ = some v0 ∧ w.cell? ⟨t1, a1, none⟩ = some v1 ∧ w.cell? ⟨t1, a2, none⟩ = some v2 ∧ w.cell? ⟨t1, a3, none⟩ = some v3 ∧ w.cell? ⟨t1, a4, none⟩ = some v4 ∧ w.cell? ⟨gw, a5, none⟩ = some v5) (h0 : t0 ≠ b) (h1 : t1 ≠ b) (h2 : gw ≠ b) :
    w'.cell? ⟨t0, a0, none⟩ = some v0 ∧ w'.cell? ⟨t1, a1, none⟩ = some v1 ∧ w'.cell? ⟨t1, a2, none⟩ = some v2 ∧ w'.cell? ⟨t1, a3, none⟩ = some v3 ∧ w'.cell? ⟨t1, a4, none⟩ = some v4 ∧ w'.cell? ⟨gw, a5, none⟩ = some v5 :=
  ⟨t.cell (by simpa using h0) h.1, t.cell (by simpa using h1) h.2.1, t.cell (by simpa using h1) h.2.2.1, t.cell (by simpa using h1) h.2.2.2.1, t.cell (by simpa using h1) h.2.2.2.2.1, t.cell (by simpa using h2) h.2.2.2.2.2⟩
/-- behind the region of a get: the new block holds the object -/
structure GetEnd (wr W : World) (b : Nat) (o : Ob) (q : Option Addr) (c : Nat) : Prop where
  blk : W.heap[b]? = some (.cells #[.int .i64 o.kind, .int .i64 o.tag, .slice q o.fields.length c, .string o.text] 55 (0, 0))
  x : Ext wr W
  ws : OwnP W wr.heap.size 51 (.slice q o.fields.length c) 1 (o.fields.map wordC)
  ge : wr.heap.size ≤ b
theorem GetEnd.fill {wr w9 : World} {B b : Nat} {o : Ob} {q : Option Addr} {c : Nat} {x0 x1 x2 x3 : Value} (hx : Ext wr w9) (ho : OwnP w9 B 51 (.slice q o.fields.length c) 1 (o.fields.map wordC)) (hb : wr.heap.size ≤ b) (hB : b < B) (nb : w9.heap[b]? = some (.cells #[x0, x1, x2, x3] 55 (0, 0))) :
    GetEnd wr ((((w9.setCell ⟨b, 0, none⟩ (.int .i64 o.kind)).setCell ⟨b, 1, none⟩ (.int .i64 o.tag)).setCell ⟨b, 2, none⟩ (.slice q o.fields.length c)).setCell ⟨b, 3, none⟩ (.string o.text)) b o q c := by
  obtain ⟨h1, h2, -⟩ := fill4 nb (.int .i64 o.kind) (.int .i64 o.tag) (.slice q o.fields.length c) (.string o.text)
  refine ⟨h1, Turn.after hx h2 (by intro x hm; rw [List.mem_singleton.1 hm]; exact hb), (ho.turn h2 fun x hx hm => ?_).mono (by omega), hb⟩
  have := (ho.own x hx).1
  rw [List.mem_singleton.1 hm] at this
  omega
theorem GetEnd.made {wr w9 : World} {B : Nat} {o : Ob} {q : Option Addr} {c : Nat} (hx : Ext wr w9) (ho : OwnP w9 B 51 (.slice q o.fields.length c) 1 (o.fields.map wordC)) (hB : wr.heap.size ≤ B) :
    GetEnd wr (w9.alloc (.cells #[.int .i64 o.kind, .int .i64 o.tag, .slice q o.fields.length c, .string o.text] 55 (0, 0))) w9.heap.size o q c :=
  ⟨heap_alloc_new _ _, hx.trans (Ext.alloc _ _), (ho.ext (Ext.alloc _ _)).mono hB, Below.size hx⟩
theorem wakes4 (w : World) : Calls Tryz.prog 6 #[] w fun e w' => e = .returned (.bool true) ∧ Ext w w' := by
  have hmk := run_make_row' (P := Tryz.prog) 22 51 (.int .u64 0) 8 Tryz.underlying22 info_u64 rfl .i64 .i64 20 (by omega) (by omega)
  simp only [Int.cast_ofNat_Int] at hmk
  go_enter Tryz.func6, Tryz.ntmps6
  go_wp2_with fail
  refine (lay_words (make_words w 20 (by omega) _) (by simp)).mono ?_; rintro e w1 ⟨p, g, bm, q, gq, B, rfl, hB⟩
  have HB := Lib.hid hB
  clear hB hmk
  go_wp2_with fail
  refine at_alloc2 fun W hE hS b0 b1 => ?_
  have hlt := HB.out.a.lt
  have HGE := Lib.hid (show w.heap.size ≤ g by have h1 := HB.out.ge.2.1; have h2 := Below.size (Ext.alloc w (Obj.cells (madeCells #[Value.int IntKind.u64 0] 20) 51)); omega)
  have HX1 := Lib.hid ((Ext.alloc w (Obj.cells (madeCells #[Value.int IntKind.u64 0] 20) 51)).trans HB.out.ext)
  have K0 := Lib.hid (show Wk w1 W p g bm w1.heap.size (w1.heap.size + 1) q 30 gk0 (rigR 20) gH0 from ⟨HB.out.a.ext hE, Turn.of_ext hE, b0, b1, by omega, by omega, by omega, by omega⟩)
  have HSZ := Lib.hid (show w1.heap.size + 1 < W.heap.size by omega)
  clear hE hS b0 b1 hlt HB
  have HT0' := Lib.hid (Nat.le_refl w1.heap.size)
  generalize hgt0 : w1.heap.size = t0 at K0 HSZ ⊢
  have HT0 := Lib.hid hgt0
  clear hgt0 HT0'
  generalize ht1 : t0 + 1 = t1 at K0 HSZ ⊢
  have HT1 := Lib.hid ht1
  clear ht1
  have hrow : RowStay W g (.slice none 0 0) (([] : List Int).map wordC) := fun _ _ => RowsP.nil _ _
  refine (put_yes (h' := gH1) (ws' := gk1) K0.out.a gH0 (by decide) gk0_64 gO1 0 none hrow (by simp [gO1]) (by simp [gO1]) gk_put1 gk_up1 rfl 0 (by rw [gk_top0]; rfl)).mono ?_
  rintro e w2 ⟨rfl, hA2, hT2⟩
  have K1 := Lib.hid (K0.out.put hA2 hT2)
  clear hrow hT2 hA2 K0 HSZ
  obtain ⟨x0, x1⟩ := cells2 K1.out.two
  obtain ⟨y0, y1, y2, y3⟩ := cells4 K1.out.hp
  have f0 := free_at K1.out.hp (i := 0)
  have f1 := free_at K1.out.hp (i := 1)
  have f2 := free_at K1.out.hp (i := 2)
  have f3 := free_at K1.out.hp (i := 3)
  have n0 := (Array.getElem?_eq_some_iff.1 K1.out.two).1
  have n1 := (Array.getElem?_eq_some_iff.1 K1.out.hp).1
  go_upto_region 6 with fail
  refine wp_fill4 K1.out.hp fun W3 c3 hT3 hS3 => ?_
  clear hS3
  have K2 := Lib.hid (K1.out.fill (h' := gH1) c3 hT3)
  clear x0 x1 y0 y1 y2 y3 f0 f1 f2 f3 n0 n1
  clear c3 hT3 K1
  obtain ⟨x0, x1⟩ := cells2 K2.out.two
  obtain ⟨y0, y1, y2, y3⟩ := cells4 K2.out.hp
  have f0 := free_at K2.out.hp (i := 0)
  have f1 := free_at K2.out.hp (i := 1)
  have f2 := free_at K2.out.hp (i := 2)
  have f3 := free_at K2.out.hp (i := 3)
  have n0 := (Array.getElem?_eq_some_iff.1 K2.out.two).1
  have n1 := (Array.getElem?_eq_some_iff.1 K2.out.hp).1
  have hrow : RowStay W3 g (.slice none 0 0) (([] : List Int).map wordC) := fun _ _ => RowsP.nil _ _
  go_wp2_with fail
  refine (put_yes (h' := gH2) (ws' := gk2) K2.out.a gH1 (by decide) gk1_64 gO2 0 none hrow (by simp [gO2]) (by simp [gO2]) gk_put2 gk_up2 rfl 4 (by rw [gk_top1]; rfl)).mono ?_
  rintro e w5 ⟨rfl, hA5, hT5⟩
  have K4 := Lib.hid (K2.out.put hA5 hT5)
  clear x0 x1 y0 y1 y2 y3 f0 f1 f2 f3 n0 n1
  clear K2 hrow hA5 hT5
  obtain ⟨x0, x1⟩ := cells2 K4.out.two
  obtain ⟨y0, y1, y2, y3⟩ := cells4 K4.out.hp
  have f0 := free_at K4.out.hp (i := 0)
  have f1 := free_at K4.out.hp (i := 1)
  have f2 := free_at K4.out.hp (i := 2)
  have f3 := free_at K4.out.hp (i := 3)
  have n0 := (Array.getElem?_eq_some_iff.1 K4.out.two).1
  have n1 := (Array.getElem?_eq_some_iff.1 K4.out.hp).1
  go_upto_region 7 with fail
  refine wp_fill4 K4.out.hp fun W6 c6 hT6 hS6 => ?_
  clear hS6
  have K5 := Lib.hid (K4.out.fill (h' := gH2) c6 hT6)
  clear x0 x1 y0 y1 y2 y3 f0 f1 f2 f3 n0 n1
  clear c6 hT6 K4
  obtain ⟨x0, x1⟩ := cells2 K5.out.two
  obtain ⟨y0, y1, y2, y3⟩ := cells4 K5.out.hp
  have f0 := free_at K5.out.hp (i := 0)
  have f1 := free_at K5.out.hp (i := 1)
  have f2 := free_at K5.out.hp (i := 2)
  have f3 := free_at K5.out.hp (i := 3)
  have n0 := (Array.getElem?_eq_some_iff.1 K5.out.two).1
  have n1 := (Array.getElem?_eq_some_iff.1 K5.out.hp).1
  go_wp2_with fail
  refine at_alloc1 fun W7 hE7 hS7 b7 => ?_
  clear hS7
  have K6 := Lib.hid (K5.out.ext hE7)
  have hl := lit_at (B := W6.heap.size) [4, 4] b7 (by simp) (by omega)
  have hgl : g < W6.heap.size := by have := K5.out.a.lt; omega
  refine (put_yes (h' := gH3) (ws' := gk3) K6.out.a gH2 (by decide) gk2_64 gO3 2 _ (hl.rowStay hgl) (w64_lits (by decide)) (by simp [gO3]) gk_put3 gk_up3 rfl 8 (by rw [gk_top2]; rfl)).mono ?_
  rintro e w8 ⟨rfl, hA8, hT8⟩
  have K7 := Lib.hid (K6.out.put hA8 hT8)
  clear x0 x1 y0 y1 y2 y3 f0 f1 f2 f3 n0 n1
  clear K5 K6 hE7 b7 hl hgl hA8 hT8
  obtain ⟨x0, x1⟩ := cells2 K7.out.two
  obtain ⟨y0, y1, y2, y3⟩ := cells4 K7.out.hp
  have f0 := free_at K7.out.hp (i := 0)
  have f1 := free_at K7.out.hp (i := 1)
  have f2 := free_at K7.out.hp (i := 2)
  have f3 := free_at K7.out.hp (i := 3)
  have n0 := (Array.getElem?_eq_some_iff.1 K7.out.two).1
  have n1 := (Array.getElem?_eq_some_iff.1 K7.out.hp).1
  go_upto_region 8 with fail
  refine wp_fill4 K7.out.hp fun W9 c9 hT9 hS9 => ?_
  clear hS9
  have K8 := Lib.hid (K7.out.fill (h' := gH3) c9 hT9)
  clear x0 x1 y0 y1 y2 y3 f0 f1 f2 f3 n0 n1
  clear c9 hT9 K7
  obtain ⟨x0, x1⟩ := cells2 K8.out.two
  obtain ⟨y0, y1, y2, y3⟩ := cells4 K8.out.hp
  have f0 := free_at K8.out.hp (i := 0)
  have f1 := free_at K8.out.hp (i := 1)
  have f2 := free_at K8.out.hp (i := 2)
  have f3 := free_at K8.out.hp (i := 3)
  have n0 := (Array.getElem?_eq_some_iff.1 K8.out.two).1
  have n1 := (Array.getElem?_eq_some_iff.1 K8.out.hp).1
  go_wp2_with fail
  refine at_alloc1 fun W10 hE10 hS10 b10 => ?_
  clear hS10
  have K9 := Lib.hid (K8.out.ext hE10)
  have hl := lit_at (B := W9.heap.size) [8, 5] b10 (by simp) (by omega)
  refine (live_is K9.out.a gH3 (by decide) gk3_64 (roots := [8, 5]) hl.p (w64_lits (by decide)) (by simp)).mono ?_
  rintro e w11 ⟨rfl, hx11⟩
  rw [show liveN gk3 (rigR 20) gH3 [8, 5] = 5 by unfold liveN; rw [gk_may2, gk_first3]; simp only; rw [gk_live2, gk_size], show (mayH gk3 (rigR 20) gH3 [8, 5]).isSome = true by rw [gk_may2]; rfl]
  have K10 := Lib.hid (K9.out.ext hx11)
  clear x0 x1 y0 y1 y2 y3 f0 f1 f2 f3 n0 n1
  clear K8 K9 hE10 b10 hl hx11
  obtain ⟨x0, x1⟩ := cells2 K10.out.two
  obtain ⟨y0, y1, y2, y3⟩ := cells4 K10.out.hp
  have f0 := free_at K10.out.hp (i := 0)
  have f1 := free_at K10.out.hp (i := 1)
  have f2 := free_at K10.out.hp (i := 2)
  have f3 := free_at K10.out.hp (i := 3)
  have n0 := (Array.getElem?_eq_some_iff.1 K10.out.two).1
  have n1 := (Array.getElem?_eq_some_iff.1 K10.out.hp).1
  go_wp2_with fail
  refine at_alloc1 fun W12 hE12 hS12 b12 => ?_
  clear hS12
  have K11 := Lib.hid (K10.out.ext hE12)
  have hl := lit_at (B := w11.heap.size) [8, 5, 4] b12 (by simp) (by omega)
  have hgl : g < w11.heap.size := by have := K10.out.a.lt; omega
  refine (coll_is K11.out.a gH3 (by decide) gk3_64 (roots := [8, 5, 4]) (hl.rowStay hgl) (w64_lits (by decide)) (by simp)).mono ?_
  intro e w13 hcs
  unfold CollSaid at hcs
  rw [gk_may3] at hcs
  dsimp only at hcs
  rw [gk_first3, gk_other3, gk_live3, gk_roots, gk_coll] at hcs
  obtain ⟨qr, cr, rfl, hA13, hO13, hT13⟩ := hcs
  have K12 := Lib.hid (K11.out.put (ws' := gk4) hA13 hT13)
  have HO := Lib.hid hO13
  clear x0 x1 y0 y1 y2 y3 f0 f1 f2 f3 n0 n1
  have hg12 : g < W12.heap.size := K11.out.a.lt.2.1
  clear K10 K11 hE12 b12 hl hgl hA13 hO13 hT13
  obtain ⟨x0, x1⟩ := cells2 K12.out.two
  obtain ⟨y0, y1, y2, y3⟩ := cells4 K12.out.hp
  have f0 := free_at K12.out.hp (i := 0)
  have f1 := free_at K12.out.hp (i := 1)
  have f2 := free_at K12.out.hp (i := 2)
  have f3 := free_at K12.out.hp (i := 3)
  have n0 := (Array.getElem?_eq_some_iff.1 K12.out.two).1
  have n1 := (Array.getElem?_eq_some_iff.1 K12.out.hp).1
  unfold hpV gH4
  dsimp only
  go_upto_region 10 with fail
  refine wp_alloc1 fun W14 hE14 hS14 b14 => ?_
  have K13 := Lib.hid (K12.out.ext hE14)
  have HO14 := Lib.hid (HO.out.ext hE14)
  have HB14 := Lib.hid b14
  clear x0 x1 y0 y1 y2 y3 f0 f1 f2 f3 n0 n1
  have hg13 : g < w13.heap.size ∧ t0 < w13.heap.size ∧ t1 < w13.heap.size := by have h1 := K12.out.a.lt; have h2 := (Array.getElem?_eq_some_iff.1 K12.out.two).1; have h3 := (Array.getElem?_eq_some_iff.1 K12.out.hp).1; omega
  clear hE14 hS14 K12 HO b14
  generalize w13.heap.size = t3 at *
  have HOP := Lib.hid HO14.out
  obtain ⟨gr, rfl, -, c20, -⟩ := HOP.out.cell (i := 0) (f := 0) (cs := wordC 20) (u := .int .u64 20) rfl rfl
  obtain ⟨gr1, e1, -, c21, -⟩ := HOP.out.cell (i := 1) (f := 0) (cs := wordC 5) (u := .int .u64 5) rfl rfl
  obtain ⟨gr2, e2, -, c22, -⟩ := HOP.out.cell (i := 2) (f := 0) (cs := wordC 26) (u := .int .u64 26) rfl rfl
  obtain rfl : gr1 = gr := by obtain ⟨h, _⟩ := Addr.mk.inj (Option.some.inj e1); exact h.symm
  obtain rfl : gr2 = gr1 := by obtain ⟨h, _⟩ := Addr.mk.inj (Option.some.inj e2); exact h.symm
  clear e1 e2
  obtain ⟨x0, x1⟩ := cells2 K13.out.two
  obtain ⟨e0, e1, e2, e3⟩ := cells4 HB14.out
  go_upto_region 12 with fail
  have HGET := Lib.hid (show ∀ W, Ext W14 W → Calls Tryz.prog 19 #[.pointer (some ⟨p, 0, none⟩), .agg #[.int .i64 3, .int .i64 10, .int .i64 1, .int .i64 5], .int .u64 20] W fun e w' => ∃ q c, e = .returned (.tuple #[.agg #[.int .i64 gO4.kind, .int .i64 gO4.tag, .slice q gO4.fields.length c, .string gO4.text], .bool true]) ∧ OwnP w' W.heap.size 51 (.slice q gO4.fields.length c) 1 (gO4.fields.map wordC) ∧ Ext W w' from fun W e => by
    refine (get_is (K13.out.ext e).a gH4 (by decide) gk4_64 (x := 20) (w64_lits (l := [20]) (by decide) 20 (by simp))).mono ?_
    rintro e w' ⟨v, rfl, hx, _, hy⟩
    obtain ⟨qo, co, rfl, ho⟩ := hy (0, gO4) gk_get4
    rw [show (getH gk4 (rigR 20) gH4 20).isSome = true by rw [gk_get4]; rfl]
    exact ⟨qo, co, rfl, ho, hx⟩)
  have hg14 : gr2 < W14.heap.size ∧ t0 < W14.heap.size ∧ t3 < W14.heap.size ∧ g < W14.heap.size := ⟨(HOP.out.own gr2 rfl).2, (Array.getElem?_eq_some_iff.1 K13.out.two).1, (Array.getElem?_eq_some_iff.1 HB14.out).1, K13.out.a.lt.2.1⟩
  have c20' : W14.cell? ⟨gr2, 0, none⟩ = some (.int .u64 20) := c20
  have HK0 := Lib.hid (show W14.cell? ⟨t0, 0, none⟩ = some (.pointer (some ⟨p, 0, none⟩)) ∧ W14.cell? ⟨t3, 0, none⟩ = some (.int .i64 3) ∧ W14.cell? ⟨t3, 1, none⟩ = some (.int .i64 10) ∧ W14.cell? ⟨t3, 2, none⟩ = some (.int .i64 1) ∧ W14.cell? ⟨t3, 3, none⟩ = some (.int .i64 5) ∧ W14.cell? ⟨gr2, 0, none⟩ = some (.int .u64 20) from ⟨x0, e0, e1, e2, e3, c20'⟩)
  clear x0 x1 e0 e1 e2 e3 c20 c21 c22 c20'
  refine wp_region_noPanic ?_
  refine wp_region_last 12 (S := (fun w' => w'.cell? ⟨t0, 0, none⟩ = some (.pointer (some ⟨p, 0, none⟩)) ∧ w'.cell? ⟨t3, 0, none⟩ = some (.int .i64 3) ∧ w'.cell? ⟨t3, 1, none⟩ = some (.int .i64 10) ∧ w'.cell? ⟨t3, 2, none⟩ = some (.int .i64 1) ∧ w'.cell? ⟨t3, 3, none⟩ = some (.int .i64 5) ∧ w'.cell? ⟨gr2, 0, none⟩ = some (.int .u64 20))) (by kernel_rfl) (by kernel_rfl) _ rfl ?_ (fun hHeld => ?_)
  · (first | with_reducible exact (Ext.drew _).cells6k HK0.out | with_reducible exact hkp | with_reducible exact (Ext.alloc _ _).cells6k hkp | with_reducible exact Ext.cells6k (Ext.trans (Ext.alloc _ _) (Ext.drew _)) HK0.out | exact Turn.cells6 (fill4 nb15 _ _ _ _).2.1 hkp (by omega) (by omega) (by omega))
  simp only [List.take_succ_cons, List.take_zero]
  refine wpAnyH_take (i := 0) (v := ?v1) rfl (by kernel_rfl) (by kernel_rfl) (by kernel_rfl) (fun _ _ _ h => h) (Or.inl ⟨by rfl, ?y1⟩) (by assumption) ?r1
  case y1 => intro w hSw; (try dsimp only at hSw); go_simp; (try with_reducible rfl)
  (try simp only [Act.put, List.setIfInBounds_toArray, List.set_cons_zero, List.set_cons_succ, List.getElem_toArray, List.getElem_cons_zero, List.getElem_cons_succ])
  refine wpAnyH_take (i := 1) (v := ?v2) rfl (by kernel_rfl) (by kernel_rfl) (by kernel_rfl) (fun _ _ _ h => h) (Or.inl ⟨by rfl, ?y2⟩) (by assumption) ?r2
  case y2 => intro w hSw; (try dsimp only at hSw); go_simp; (try with_reducible rfl)
  (try simp only [Act.put, List.setIfInBounds_toArray, List.set_cons_zero, List.set_cons_succ, List.getElem_toArray, List.getElem_cons_zero, List.getElem_cons_succ])
  refine wpAnyH_take (i := 2) (v := ?v3) rfl (by kernel_rfl) (by kernel_rfl) (by kernel_rfl) (fun _ _ _ h => h) (Or.inl ⟨by rfl, ?y3⟩) (by assumption) ?r3
  case y3 => intro w hSw; (try dsimp only at hSw); go_simp; (try with_reducible rfl)
  (try simp only [Act.put, List.setIfInBounds_toArray, List.set_cons_zero, List.set_cons_succ, List.getElem_toArray, List.getElem_cons_zero, List.getElem_cons_succ])
  refine wpAnyH_take (i := 3) (v := ?v4) rfl (by kernel_rfl) (by kernel_rfl) (by kernel_rfl) (fun _ _ _ h => h) (Or.inl ⟨by rfl, ?y4⟩) (by assumption) ?r4
  case y4 => intro w hSw; (try dsimp only at hSw); go_simp; (try with_reducible rfl)
  (try simp only [Act.put, List.setIfInBounds_toArray, List.set_cons_zero, List.set_cons_succ, List.getElem_toArray, List.getElem_cons_zero, List.getElem_cons_succ])
  refine wpAnyH_take (i := 4) (v := ?v5) rfl (by kernel_rfl) (by kernel_rfl) (by kernel_rfl) (fun _ _ _ h => h) (Or.inl ⟨by rfl, ?y5⟩) (by assumption) ?r5
  case y5 => intro w hSw; (try dsimp only at hSw); go_simp; (try with_reducible rfl)
  (try simp only [Act.put, List.setIfInBounds_toArray, List.set_cons_zero, List.set_cons_succ, List.getElem_toArray, List.getElem_cons_zero, List.getElem_cons_succ])
  refine wpAnyH_take (i := 5) (v := ?v6) rfl (by kernel_rfl) (by kernel_rfl) (by kernel_rfl) (fun _ _ _ h => h) (Or.inl ⟨by rfl, ?y6⟩) (by assumption) ?r6
  case y6 => intro w hSw; (try dsimp only at hSw); go_simp; (try with_reducible rfl)
  (try simp only [Act.put, List.setIfInBounds_toArray, List.set_cons_zero, List.set_cons_succ, List.getElem_toArray, List.getElem_cons_zero, List.getElem_cons_succ])
  refine wpAnyH_ready (rs := [6, 10]) (by kernel_rfl) (by simp) ?_
  refine AllReadyH.cons rfl (fun K hK => ?_) (AllReadyH.cons rfl (fun K hK => ?_) (AllReadyH.nil))
  · skip
    go_simp
    refine (HGET.out _ (Ext.drew _)).mono ?_
    rintro e w15 ⟨qg, cg, rfl, hsg, hx15'⟩
    have hx15 : Ext W14 w15 := (Ext.drew W14).trans hx15'
    have hkp := hx15.cells6k HK0.out
    refine hK.out _ _ ?s7 (fun hHeld => ?k7)
    case s7 => ((try dsimp only); (first | with_reducible exact (Ext.drew _).cells6k HK0.out | with_reducible exact hkp | with_reducible exact (Ext.alloc _ _).cells6k hkp | with_reducible exact Ext.cells6k (Ext.trans (Ext.alloc _ _) (Ext.drew _)) HK0.out | exact Turn.cells6 (fill4 nb15 _ _ _ _).2.1 hkp (by omega) (by omega) (by omega)))
    clear hK K
    (try simp only [Act.put, List.setIfInBounds_toArray, List.set_cons_zero, List.set_cons_succ, List.getElem_toArray, List.getElem_cons_zero, List.getElem_cons_succ])
    refine wpAnyH_take (i := 7) (v := ?v8) rfl (by kernel_rfl) (by kernel_rfl) (by kernel_rfl) (fun _ _ _ h => h) (Or.inl ⟨by rfl, ?y8⟩) (by assumption) ?r8
    case y8 => intro w hSw; (try dsimp only at hSw); go_simp; (try with_reducible rfl)
    (try simp only [Act.put, List.setIfInBounds_toArray, List.set_cons_zero, List.set_cons_succ, List.getElem_toArray, List.getElem_cons_zero, List.getElem_cons_succ])
    refine wpAnyH_take (i := 8) (v := ?v9) rfl (by kernel_rfl) (by kernel_rfl) (by kernel_rfl) (fun _ _ _ h => h) (Or.inl ⟨by rfl, ?y9⟩) (by assumption) ?r9
    case y9 => intro w hSw; (try dsimp only at hSw); go_simp; (try with_reducible rfl)
    (try simp only [Act.put, List.setIfInBounds_toArray, List.set_cons_zero, List.set_cons_succ, List.getElem_toArray, List.getElem_cons_zero, List.getElem_cons_succ])
    refine wpAnyH_take (i := 9) (v := ?v10) rfl (by kernel_rfl) (by kernel_rfl) (by kernel_rfl) (fun _ _ _ h => h) (Or.inl ⟨by rfl, ?y10⟩) (by assumption) ?r10
    case y10 => intro w hSw; (try dsimp only at hSw); go_simp; (try with_reducible rfl)
    (try simp only [Act.put, List.setIfInBounds_toArray, List.set_cons_zero, List.set_cons_succ, List.getElem_toArray, List.getElem_cons_zero, List.getElem_cons_succ])
    refine wpAnyH_ready (rs := [10]) (by kernel_rfl) (by simp) ?_
    refine AllReadyH.cons rfl (fun K hK => ?_) AllReadyH.nil
    go_simp
    refine hK.out _ _ ?s11 (fun hHeld => ?k11)
    case s11 => ((try dsimp only); (first | with_reducible exact (Ext.drew _).cells6k HK0.out | with_reducible exact hkp | with_reducible exact (Ext.alloc _ _).cells6k hkp | with_reducible exact Ext.cells6k (Ext.trans (Ext.alloc _ _) (Ext.drew _)) HK0.out | exact Turn.cells6 (fill4 nb15 _ _ _ _).2.1 hkp (by omega) (by omega) (by omega)))
    clear hK K
    (try simp only [Act.put, List.setIfInBounds_toArray, List.set_cons_zero, List.set_cons_succ, List.getElem_toArray, List.getElem_cons_zero, List.getElem_cons_succ])
    refine wpAnyH_ready (rs := [11]) (by kernel_rfl) (by simp) ?_
    refine AllReadyH.cons rfl (fun K hK => ?_) AllReadyH.nil
    go_simp
    refine hK.out _ _ ?s12 (fun hHeld => ?k12)
    case s12 => ((try dsimp only); (first | with_reducible exact (Ext.drew _).cells6k HK0.out | with_reducible exact hkp | with_reducible exact (Ext.alloc _ _).cells6k hkp | with_reducible exact Ext.cells6k (Ext.trans (Ext.alloc _ _) (Ext.drew _)) HK0.out | exact Turn.cells6 (fill4 nb15 _ _ _ _).2.1 hkp (by omega) (by omega) (by omega)))
    clear hK K
    (try simp only [Act.put, List.setIfInBounds_toArray, List.set_cons_zero, List.set_cons_succ, List.getElem_toArray, List.getElem_cons_zero, List.getElem_cons_succ])
    refine wpAnyH_done (by kernel_rfl) ?_ _
    show wpList _ _ _ _ _ _
    first
      | (refine list_gen (fun W => GetEnd W14 W W14.heap.size gO4 qg cg) (GetEnd.fill hx15 hsg (Nat.le_refl _) (by simp) nb15) fun W16 hP => ?_; generalize hb16 : W14.heap.size = b16 at hP ⊢)
      | (refine list_gen (fun W => GetEnd W14 W w15.heap.size gO4 qg cg) (GetEnd.made hx15 hsg (by simp)) fun W16 hP => ?_; generalize hb16 : w15.heap.size = b16 at hP ⊢)
    have HP := Lib.hid hP
    have K14 := Lib.hid (K13.out.ext hP.x)
    have OP16 := Lib.hid (HOP.out.ext hP.x)
    have HB16 := Lib.hid ((Below.block hP.x t3 hg14.2.2.1).trans HB14.out)
    clear hP hb16 hsg hkp hHeld HGET HK0
    obtain ⟨x0, x1⟩ := cells2 K14.out.two
    obtain ⟨e0, e1, e2, e3⟩ := cells4 HB16.out
    go_wp2
    refine NoPanic.normal ?_
    go_wp2_with fail
    refine (room_is K14.out.a gH4 (by decide) gk4_64 (roots := [20, 5, 26]) (OP16.out.rowStay hg12) (w64_lits (by decide)) (by simp) 6).mono ?_
    intro e w17 hrs
    unfold RoomSaid at hrs
    rw [if_neg (by omega), gk_may4] at hrs
    dsimp only at hrs
    simp only [if_neg (show ¬ (6 : Int) ≤ gH4.half - gH4.top by decide)] at hrs
    rw [gk_live4] at hrs
    obtain ⟨q5, c5, rfl, hA17, hO17, hT17⟩ := hrs
    rw [show decide ((6 : Int) ≤ gH4.half - ((sizeF [(0, gO4), (3, gO2)] : Nat) : Int)) = false by decide]
    have K15 := Lib.hid (K14.out.put hA17 hT17)
    have hb16g : b16 ≠ g := by have := HP.out.ge; omega
    have B17 := Lib.hid (hT17.keep HB16.out (by omega))
    have P17 := Lib.hid (hT17.keep HP.out.blk hb16g)
    have W17 := Lib.hid (HP.out.ws.turn hT17 (fun b hb hm => by have h1 := (HP.out.ws.own b hb).1; rw [List.mem_singleton.1 hm] at h1; omega))
    have O17 := Lib.hid (OP16.out.turn hT17 (fun b hb hm => by have h1 := (OP16.out.own b hb).1; rw [List.mem_singleton.1 hm] at h1; omega))
    clear hA17 hO17 hT17 x0 x1 e0 e1 e2 e3 HP K14 OP16 HB16
    unfold hpV collH
    dsimp only
    go_upto_region 14 with fail
    refine wp_alloc1 fun W18 hE18 hS18 b18 => ?_
    have K16 := Lib.hid (K15.out.ext hE18)
    have B18 := Lib.hid ((Below.block hE18 _ (Array.getElem?_eq_some_iff.1 B17.out).1).trans B17.out)
    have P18 := Lib.hid ((Below.block hE18 _ (Array.getElem?_eq_some_iff.1 P17.out).1).trans P17.out)
    have V18 := Lib.hid (W17.out.ext hE18)
    have O18 := Lib.hid (O17.out.ext hE18)
    clear hE18 hS18 b18 K15 B17 P17 W17 O17
    obtain ⟨x0, x1⟩ := cells2 K16.out.two
    go_wp2_with fail
    refine (wordsA_said (x := 3) K16.out.a (by decide)).mono ?_
    rintro e w19 ⟨vw, rfl, hws, hx19⟩
    rw [rig_free (m := 20) (by omega)]
    obtain ⟨qw, cw, rfl, hlw, hcw, -⟩ := hws
    have hlen20 : (wordsAt (collWs gk4 gH4 [(0, gO4), (3, gO2)]) (rigR 20) 3).length = 20 := by rw [wordsAt_len K16.out.a.good K16.out.a.len, rig_len]
    rw [hlen20] at hlw ⊢
    have K17 := Lib.hid (K16.out.ext hx19)
    have B19 := Lib.hid ((Below.block hx19 _ (Array.getElem?_eq_some_iff.1 B18.out).1).trans B18.out)
    have P19 := Lib.hid ((Below.block hx19 _ (Array.getElem?_eq_some_iff.1 P18.out).1).trans P18.out)
    have V19 := Lib.hid (V18.out.ext hx19)
    have O19 := Lib.hid (O18.out.ext hx19)
    clear hx19 hlen20 x0 x1 K16 B18 P18 V18 O18
    obtain ⟨e0, e1, e2, e3⟩ := cells4 B19.out
    obtain ⟨p0, p1, p2, p3⟩ := cells4 P19.out
    obtain ⟨_, h1, -, c20, -⟩ := O19.out.cell (i := 0) (f := 0) (cs := wordC 20) (u := .int .u64 20) rfl rfl
    obtain ⟨rfl, -⟩ := Addr.mk.inj (Option.some.inj h1)
    obtain ⟨_, h2, -, c21, -⟩ := O19.out.cell (i := 1) (f := 0) (cs := wordC 5) (u := .int .u64 5) rfl rfl
    obtain ⟨rfl, -⟩ := Addr.mk.inj (Option.some.inj h2)
    obtain ⟨_, h3, -, c22, -⟩ := O19.out.cell (i := 2) (f := 0) (cs := wordC 26) (u := .int .u64 26) rfl rfl
    obtain ⟨rfl, -⟩ := Addr.mk.inj (Option.some.inj h3)
    clear h1 h2 h3
    go_wp2_with fail
    refine at_alloc1 fun W20 hE20 hS20 b20 => ?_
    have hl := lit_at (B := w19.heap.size) [26, 26] b20 (by simp) (by omega)
    refine (keep_words (WordSl.of_rows (V19.out.ext hE20).p) (WordSl.of_rows hl.p)).mono ?_
    rintro e w21 ⟨rfl, hx21⟩
    rw [show decide (gO4.fields = [26, 26]) = true by decide]
    have K18 := Lib.hid ((K17.out.ext hE20).ext hx21)
    clear hE20 hS20 b20 hl hx21 e0 e1 e2 e3 p0 p1 p2 p3 c20 c21 c22 V19 O19 B19 P19
    go_wp2
    go_ret
    refine ⟨rfl, Turn.after HX1.out K18.out.t (fun b hb => ?_)⟩
    have h1 := HGE.out
    have h2 := HT0.out
    have h3 := HT1.out
    have h4 := Below.size HX1.out
    simp only [List.mem_cons, List.not_mem_nil, or_false] at hb
    rcases hb with rfl | rfl <;> omega
  · skip
    go_simp
    refine hK.out _ _ ?s13 (fun hHeld => ?k13)
    case s13 => ((try dsimp only); (first | with_reducible exact (Ext.drew _).cells6k HK0.out | with_reducible exact hkp | with_reducible exact (Ext.alloc _ _).cells6k hkp | with_reducible exact Ext.cells6k (Ext.trans (Ext.alloc _ _) (Ext.drew _)) HK0.out | exact Turn.cells6 (fill4 nb15 _ _ _ _).2.1 hkp (by omega) (by omega) (by omega)))
    clear hK K
    (try simp only [Act.put, List.setIfInBounds_toArray, List.set_cons_zero, List.set_cons_succ, List.getElem_toArray, List.getElem_cons_zero, List.getElem_cons_succ])
    refine wpAnyH_ready (rs := [6]) (by kernel_rfl) (by simp) ?_
    refine AllReadyH.cons rfl (fun K hK => ?_) AllReadyH.nil
    go_simp
    refine (HGET.out _ (Ext.trans (Ext.alloc _ _) (Ext.drew _))).mono ?_
    rintro e w15 ⟨qg, cg, rfl, hsg, hxw15⟩
    have hx15 : Ext W14 w15 := (Ext.trans (Ext.alloc _ _) (Ext.drew _)).trans hxw15
    have hkp := hx15.cells6k HK0.out
    have nb15 : w15.heap[W14.heap.size]? = some (Obj.cells #[.int .i64 0, .int .i64 0, .slice none 0 0, .string ⟨#[]⟩] 55 (0, 0)) := (Below.block hxw15 _ (by simp)).trans (heap_alloc_new _ _)
    obtain ⟨k0, k1, k2, k3⟩ := cells4 nb15
    have kf0 := free_at nb15 (i := 0)
    have kf1 := free_at nb15 (i := 1)
    have kf2 := free_at nb15 (i := 2)
    have kf3 := free_at nb15 (i := 3)
    refine hK.out _ _ ?s14 (fun hHeld => ?k14)
    case s14 => ((try dsimp only); (first | with_reducible exact (Ext.drew _).cells6k HK0.out | with_reducible exact hkp | with_reducible exact (Ext.alloc _ _).cells6k hkp | with_reducible exact Ext.cells6k (Ext.trans (Ext.alloc _ _) (Ext.drew _)) HK0.out | exact Turn.cells6 (fill4 nb15 _ _ _ _).2.1 hkp (by omega) (by omega) (by omega)))
    clear hK K
    (try simp only [Act.put, List.setIfInBounds_toArray, List.set_cons_zero, List.set_cons_succ, List.getElem_toArray, List.getElem_cons_zero, List.getElem_cons_succ])
    refine wpAnyH_take (i := 7) (v := ?v15) rfl (by kernel_rfl) (by kernel_rfl) (by kernel_rfl) (fun _ _ _ h => h) (Or.inl ⟨by rfl, ?y15⟩) (by assumption) ?r15
    case y15 => intro w hSw; (try dsimp only at hSw); go_simp; (try with_reducible rfl)
    (try simp only [Act.put, List.setIfInBounds_toArray, List.set_cons_zero, List.set_cons_succ, List.getElem_toArray, List.getElem_cons_zero, List.getElem_cons_succ])
    refine wpAnyH_take (i := 8) (v := ?v16) rfl (by kernel_rfl) (by kernel_rfl) (by kernel_rfl) (fun _ _ _ h => h) (Or.inl ⟨by rfl, ?y16⟩) (by assumption) ?r16
    case y16 => intro w hSw; (try dsimp only at hSw); go_simp; (try with_reducible rfl)
    (try simp only [Act.put, List.setIfInBounds_toArray, List.set_cons_zero, List.set_cons_succ, List.getElem_toArray, List.getElem_cons_zero, List.getElem_cons_succ])
    refine wpAnyH_take (i := 9) (v := ?v17) rfl (by kernel_rfl) (by kernel_rfl) (by kernel_rfl) (fun _ _ _ h => h) (Or.inl ⟨by rfl, ?y17⟩) (by assumption) ?r17
    case y17 => intro w hSw; (try dsimp only at hSw); go_simp; (try with_reducible rfl)
    (try simp only [Act.put, List.setIfInBounds_toArray, List.set_cons_zero, List.set_cons_succ, List.getElem_toArray, List.getElem_cons_zero, List.getElem_cons_succ])
    refine wpAnyH_ready (rs := [11]) (by kernel_rfl) (by simp) ?_
    refine AllReadyH.cons rfl (fun K hK => ?_) AllReadyH.nil
    go_simp
    refine hK.out _ _ ?s18 (fun hHeld => ?k18)
    case s18 => ((try dsimp only); (first | with_reducible exact (Ext.drew _).cells6k HK0.out | with_reducible exact hkp | with_reducible exact (Ext.alloc _ _).cells6k hkp | with_reducible exact Ext.cells6k (Ext.trans (Ext.alloc _ _) (Ext.drew _)) HK0.out | exact Turn.cells6 (fill4 nb15 _ _ _ _).2.1 hkp (by omega) (by omega) (by omega)))
    clear hK K
    (try simp only [Act.put, List.setIfInBounds_toArray, List.set_cons_zero, List.set_cons_succ, List.getElem_toArray, List.getElem_cons_zero, List.getElem_cons_succ])
    refine wpAnyH_done (by kernel_rfl) ?_ _
    show wpList _ _ _ _ _ _
    first
      | (refine list_gen (fun W => GetEnd W14 W W14.heap.size gO4 qg cg) (GetEnd.fill hx15 hsg (Nat.le_refl _) (by simp) nb15) fun W16 hP => ?_; generalize hb16 : W14.heap.size = b16 at hP ⊢)
      | (refine list_gen (fun W => GetEnd W14 W w15.heap.size gO4 qg cg) (GetEnd.made hx15 hsg (by simp)) fun W16 hP => ?_; generalize hb16 : w15.heap.size = b16 at hP ⊢)
    have HP := Lib.hid hP
    have K14 := Lib.hid (K13.out.ext hP.x)
    have OP16 := Lib.hid (HOP.out.ext hP.x)
    have HB16 := Lib.hid ((Below.block hP.x t3 hg14.2.2.1).trans HB14.out)
    clear hP hb16 hsg hkp hHeld HGET HK0
    obtain ⟨x0, x1⟩ := cells2 K14.out.two
    obtain ⟨e0, e1, e2, e3⟩ := cells4 HB16.out
    go_wp2
    refine NoPanic.normal ?_
    go_wp2_with fail
    refine (room_is K14.out.a gH4 (by decide) gk4_64 (roots := [20, 5, 26]) (OP16.out.rowStay hg12) (w64_lits (by decide)) (by simp) 6).mono ?_
    intro e w17 hrs
    unfold RoomSaid at hrs
    rw [if_neg (by omega), gk_may4] at hrs
    dsimp only at hrs
    simp only [if_neg (show ¬ (6 : Int) ≤ gH4.half - gH4.top by decide)] at hrs
    rw [gk_live4] at hrs
    obtain ⟨q5, c5, rfl, hA17, hO17, hT17⟩ := hrs
    rw [show decide ((6 : Int) ≤ gH4.half - ((sizeF [(0, gO4), (3, gO2)] : Nat) : Int)) = false by decide]
    have K15 := Lib.hid (K14.out.put hA17 hT17)
    have hb16g : b16 ≠ g := by have := HP.out.ge; omega
    have B17 := Lib.hid (hT17.keep HB16.out (by omega))
    have P17 := Lib.hid (hT17.keep HP.out.blk hb16g)
    have W17 := Lib.hid (HP.out.ws.turn hT17 (fun b hb hm => by have h1 := (HP.out.ws.own b hb).1; rw [List.mem_singleton.1 hm] at h1; omega))
    have O17 := Lib.hid (OP16.out.turn hT17 (fun b hb hm => by have h1 := (OP16.out.own b hb).1; rw [List.mem_singleton.1 hm] at h1; omega))
    clear hA17 hO17 hT17 x0 x1 e0 e1 e2 e3 HP K14 OP16 HB16
    unfold hpV collH
    dsimp only
    go_upto_region 14 with fail
    refine wp_alloc1 fun W18 hE18 hS18 b18 => ?_
    have K16 := Lib.hid (K15.out.ext hE18)
    have B18 := Lib.hid ((Below.block hE18 _ (Array.getElem?_eq_some_iff.1 B17.out).1).trans B17.out)
    have P18 := Lib.hid ((Below.block hE18 _ (Array.getElem?_eq_some_iff.1 P17.out).1).trans P17.out)
    have V18 := Lib.hid (W17.out.ext hE18)
    have O18 := Lib.hid (O17.out.ext hE18)
    clear hE18 hS18 b18 K15 B17 P17 W17 O17
    obtain ⟨x0, x1⟩ := cells2 K16.out.two
    go_wp2_with fail
    refine (wordsA_said (x := 3) K16.out.a (by decide)).mono ?_
    rintro e w19 ⟨vw, rfl, hws, hx19⟩
    rw [rig_free (m := 20) (by omega)]
    obtain ⟨qw, cw, rfl, hlw, hcw, -⟩ := hws
    have hlen20 : (wordsAt (collWs gk4 gH4 [(0, gO4), (3, gO2)]) (rigR 20) 3).length = 20 := by rw [wordsAt_len K16.out.a.good K16.out.a.len, rig_len]
    rw [hlen20] at hlw ⊢
    have K17 := Lib.hid (K16.out.ext hx19)
    have B19 := Lib.hid ((Below.block hx19 _ (Array.getElem?_eq_some_iff.1 B18.out).1).trans B18.out)
    have P19 := Lib.hid ((Below.block hx19 _ (Array.getElem?_eq_some_iff.1 P18.out).1).trans P18.out)
    have V19 := Lib.hid (V18.out.ext hx19)
    have O19 := Lib.hid (O18.out.ext hx19)
    clear hx19 hlen20 x0 x1 K16 B18 P18 V18 O18
    obtain ⟨e0, e1, e2, e3⟩ := cells4 B19.out
    obtain ⟨p0, p1, p2, p3⟩ := cells4 P19.out
    obtain ⟨_, h1, -, c20, -⟩ := O19.out.cell (i := 0) (f := 0) (cs := wordC 20) (u := .int .u64 20) rfl rfl
    obtain ⟨rfl, -⟩ := Addr.mk.inj (Option.some.inj h1)
    obtain ⟨_, h2, -, c21, -⟩ := O19.out.cell (i := 1) (f := 0) (cs := wordC 5) (u := .int .u64 5) rfl rfl
    obtain ⟨rfl, -⟩ := Addr.mk.inj (Option.some.inj h2)
    obtain ⟨_, h3, -, c22, -⟩ := O19.out.cell (i := 2) (f := 0) (cs := wordC 26) (u := .int .u64 26) rfl rfl
    obtain ⟨rfl, -⟩ := Addr.mk.inj (Option.some.inj h3)
    clear h1 h2 h3
    go_wp2_with fail
    refine at_alloc1 fun W20 hE20 hS20 b20 => ?_
    have hl := lit_at (B := w19.heap.size) [26, 26] b20 (by simp) (by omega)
    refine (keep_words (WordSl.of_rows (V19.out.ext hE20).p) (WordSl.of_rows hl.p)).mono ?_
    rintro e w21 ⟨rfl, hx21⟩
    rw [show decide (gO4.fields = [26, 26]) = true by decide]
    have K18 := Lib.hid ((K17.out.ext hE20).ext hx21)
    clear hE20 hS20 b20 hl hx21 e0 e1 e2 e3 p0 p1 p2 p3 c20 c21 c22 V19 O19 B19 P19
    go_wp2
    go_ret
    refine ⟨rfl, Turn.after HX1.out K18.out.t (fun b hb => ?_)⟩
    have h1 := HGE.out
    have h2 := HT0.out
    have h3 := HT1.out
    have h4 := Below.size HX1.out
    simp only [List.mem_cons, List.not_mem_nil, or_false] at hb
    rcases hb with rfl | rfl <;> omega
end Go.Proofs.YtinakendlpomnaaGreat
