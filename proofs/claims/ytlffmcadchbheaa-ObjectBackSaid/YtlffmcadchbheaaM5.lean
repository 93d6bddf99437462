/- Proved here: the contracts and laws of ObjI, ObjJ, ObjK, ObjL, ObjM, Bts, ObjN, ObjO, IMap of this claim, each beneath its own remark; conditions: those that each theorem names. -/
import Derived.Test.YtlffmcadchbheaaM4
import Derived.Test.YtlffmcadchbheaaM3
import Derived.Test.YtlffmcadchbheaaProg
import Derived.Test.YtlffmcadchbheaaM1
import Derived.Deep.CutBlock
import Derived.Laws.IdiomStrings
import Derived.Laws.BytesArg
import Derived.Maps.OwnOps
import Derived.Maps.Views
/- A text's object laid out (the reference's). -/
namespace Go.Proofs.Ytlffmcadchbheaa
open Go.RowKit
set_option maxHeartbeats 4000000
set_option maxRecDepth 100000
theorem _root_.Go.RowKit.Below.cellB {B : Nat} {w w' : World} (h : Below B w w') {a : Addr} {v : Value} (ha : a.block < B) (hc : w.cell? a = some v) : w'.cell? a = some v := by
  rw [World.cell?_of_block (w := w) (Below.block h a.block ha)]
  exact hc
theorem shl_val {b r m : Nat} (hb : b < 256) (hr : r < 8) (hm : m = r) : IntKind.u64.wrap (IntKind.u64.wrap (b : Int) * 2 ^ min (8 * m) 64) = ((b * 256 ^ r : Nat) : Int) := by
  subst hm
  rw [wrapu_of (x := (b : Int)) (by omega) (by omega), show min (8 * m) 64 = 8 * m by omega]
  rcases (show m = 0 ∨ m = 1 ∨ m = 2 ∨ m = 3 ∨ m = 4 ∨ m = 5 ∨ m = 6 ∨ m = 7 by omega) with rfl | rfl | rfl | rfl | rfl | rfl | rfl | rfl <;> (rw [wrapu_of (by omega) (by omega)]; omega)
theorem lay_text (c : Nat) (q : Option Addr) (s : ByteArray) (w : World) (hF : RowsP w (.slice q 0 c) 1 []) (h : s.size ≤ 400) : Calls Try.prog 55 #[.agg #[.int .i64 2, .int .i64 0, .slice q 0 c, .string s]] w fun e w' => ∃ v, e = .returned v ∧ OwnP w' w.heap.size 29 v 1 ((headK 2 0 0 s.size :: pieces s.data.toList).map wordC) ∧ Ext w w' := by
  have hhd := fun W => refhead_is 2 0 0 c q s W (by simp [mayK, h])
  generalize headK 2 0 0 s.size = hd at hhd ⊢
  have HH := Lib.hid hhd
  have HF := Lib.hid hF
  have hS : s.data.toList.length = s.size := Array.length_toList
  have HS := Lib.hid hS
  clear hF hhd hS
  go_enter Try.func55, Try.ntmps55
  go_wp2_with fail
  refine at_alloc1 fun W hE hS b0 => ?_
  refine (HH.out _).mono ?_
  rintro e w1 ⟨rfl, hx⟩
  have hb1 := (Below.block hx w.heap.size (by omega)).trans b0
  have HX := Lib.hid (hE.trans hx)
  clear hx hE hS b0
  obtain ⟨x0, x1, x2, x3⟩ := cells4 hb1
  have hs2 : w.heap.size < w1.heap.size := (Array.getElem?_eq_some_iff.1 hb1).1
  clear hb1
  have HO1 := Lib.hid (show OwnP (w1.alloc (.cells #[.int .u64 hd] 29)) (w.heap.size + 1) 29 (.slice (some ⟨w1.heap.size, 0, none⟩) 1 1) 1 [wordC hd] from OwnP.of_form (Rows1.one rfl (by intro u hu; simp [wordC] at hu; subst hu; rfl)) hs2 (heap_alloc_new _ _) (by simp) (by unfold maxLen; omega) (by simp) (by simp [wordC]))
  go_wp2_with (refine wpList_append_rows E64 (by rfl) _ _ (by rfl) (w.heap.size + 1) (.slice (some ⟨w1.heap.size, 0, none⟩) 1 1) (.slice q 0 c) [wordC hd] [] (by rfl) HO1.out (by rfl) (RowsP.ext HF.out (HX.out.trans (Ext.alloc _ _))) (by simp; unfold maxLen; omega) (by simp) (by simp; omega) ?_)
  intro v2 w2 ho2 hg2 hb2 _
  have hx2 : Ext w w2 := Below.grown (HX.out.trans (Ext.alloc _ _)) hg2 (by simp; omega) (fun b hb => by simp [Value.ownBlock] at hb; omega)
  have Z3 := Lib.hid (hg2.cell (a := ⟨w.heap.size, 3, none⟩) ((Ext.alloc w1 _).cell x3) (by simp [Value.ownBlock]; omega))
  have hsz2 : w.heap.size + 1 ≤ w2.heap.size := by have := World.block_lt_of_cell? _ _ Z3.out; exact this
  have HX2 := Lib.hid hx2
  have HO2 := Lib.hid (show OwnP w2 (w.heap.size + 1) 29 v2 1 (wordC hd :: (List.range ((0 + 7) / 8)).map fun i => wordC (pieceN (s.data.toList.take 0) i)) by simpa using ho2)
  clear ho2 hg2 hb2 hx2 x0 x1 x2 x3
  go_wp2_with fail
  go_loopw [3, 4] (fun v i wr => ∃ (k : Nat) (vv : Value), k ≤ s.size ∧ i = .int .i64 k ∧ v = vv ∧ OwnP wr (w.heap.size + 1) 29 vv 1 (wordC hd :: (List.range ((k + 7) / 8)).map fun i => wordC (pieceN (s.data.toList.take k) i)) ∧ Below (w.heap.size + 1) w2 wr) (fun _ i _ => s.size - (intOf i).toNat)
  case atStart => exact ⟨0, _, by omega, rfl, rfl, HO2.out, Below.refl _ _⟩
  case round =>
    obtain ⟨k, vv, hk, rfl, hvv, hown, hB⟩ := hrel
    obtain rfl := hvv.symm
    have HOW := Lib.hid hown; have HB := Lib.hid hB
    have z0 := hB.cellB (a := ⟨w.heap.size, 3, none⟩) (Nat.lt_succ_self _) Z3.out
    clear hown hB
    by_cases hlt : k < s.size
    · have i1 : (k : Int) < (s.size : Int) := by omega
      have hkl : k < s.data.toList.length := by rw [HS.out]; exact hlt
      have hxk := List.getElem?_eq_getElem hkl
      generalize hbx : s.data.toList[k] = x at hxk
      have HXK := Lib.hid hxk
      obtain ⟨j, hj⟩ : ∃ j : Nat, j = k / 8 := ⟨_, rfl⟩
      have HJ := Lib.hid hj
      have hjk : (k : Int) / 8 = (j : Int) := by omega
      have hj50 : j ≤ 50 := by omega
      obtain ⟨r, hr⟩ : ∃ r : Nat, r = k % 8 := ⟨_, rfl⟩
      have HR := Lib.hid hr
      have hrk2 : (k : Int).tmod 8 = (r : Int) := by rw [Int.tmod_eq_emod_of_nonneg (by omega)]; omega
      have hr8 : r < 8 := by omega
      have hjm2 : 1 + (j : Int) < (j : Int) + 2 := by omega
      have hjm3 : (0 : Int) ≤ 1 + (j : Int) := by omega
      have hwj0 : IntKind.i64.wrap (j : Int) = (j : Int) := wrap64_of (by omega) (by omega)
      have htn : (1 + (j : Int)).toNat = j + 1 := by omega
      have hwj : IntKind.i64.wrap (1 + (j : Int)) = 1 + (j : Int) := wrap64_of (by omega) (by omega)
      have hP := pieceN_here hxk
      rw [← hj, ← hr] at hP
      have HOR := Lib.hid (show bits .or .u64 (pieceN (s.data.toList.take k) j) (IntKind.u64.wrap (IntKind.u64.wrap (x.toNat : Int) * 2 ^ min (8 * (k % 8)) 64)) = pieceN (s.data.toList.take k) j + ((x.toNat * 256 ^ r : Nat) : Int) by
        obtain ⟨_, hp1, hp2⟩ := hP
        obtain ⟨a, ha⟩ := Int.eq_ofNat_of_zero_le hp1
        rw [ha] at hp2 ⊢
        have hp3 : a < 256 ^ r := by exact_mod_cast hp2
        rw [shl_val x.toNat_lt hr8 (show k % 8 = r by omega)]
        exact or_shl x.toNat_lt hr8 hp3)
      have hsk : (s[k]'hlt).toNat = x.toNat := by rw [← hbx]; rfl
      by_cases hr0 : r = 0
      · have hrm : (k : Int) % 8 = 0 := by omega
        have hjn : (k + 7) / 8 = j := by omega
        rw [hjn] at HOW
        have hpn : pieceN (s.data.toList.take k) j = 0 := by
          unfold pieceN
          rw [List.drop_of_length_le (by rw [List.length_take]; omega)]
          rfl
        have HPN := Lib.hid hpn
        have hlen2 : 1 + j ≤ 60 := by omega
        have HK2 := Lib.hid hrk2
        have hB0 := HB.out
        have hown0 := HOW.out.own
        clear hj hr hxk hbx hP hpn
        go_wp2_with (refine wpList_append_rows E64 (by rfl) _ _ (by rfl) (w.heap.size + 1) vv (.slice (some ⟨wr.heap.size, 0, none⟩) 1 1) (wordC hd :: (List.range j).map fun i => wordC (pieceN (s.data.toList.take k) i)) [[.int .u64 0]] (by rfl) (HOW.out.ext (Ext.alloc _ _)) (by rfl) (rows_of_block (cs := #[.int .u64 0]) (heap_alloc_new _ _) rfl (by intro u hu; simp at hu; subst hu; rfl)) (by simp; unfold maxLen; omega) (by simp; omega) (by have := Below.size hB0; simp; omega) ?_)
        intro v4 w4 ho4 hg4 hb4 _
        have HB4 := Lib.hid (show Below (w.heap.size + 1) w2 w4 from Below.grown (Below.alloc hB0 (by have := Below.size hB0; omega) _) hg4 (by have := Below.size hB0; simp; omega) (fun b hb => (hown0 b hb).1))
        have HOW4 := Lib.hid (show OwnP w4 (w.heap.size + 1) 29 v4 1 (wordC hd :: (List.range (j + 1)).map fun i => wordC (pieceN (s.data.toList.take k) i)) by
          rw [range_succ_map, HPN.out]; simpa [wordC] using ho4)
        clear ho4 hg4 hb4 hB0 hown0 z0 HOW HB HPN hrk2
        rename Hid (Below (w.heap.size + 1) w2 w4) => HB
        rename Hid (OwnP w4 _ _ v4 _ _) => HOW
        have hown := HOW.out
        obtain ⟨gv, cv, hgv, hgb⟩ : ∃ gv cv, v4 = .slice (some ⟨gv, 0, none⟩) (j + 2) cv ∧ w.heap.size + 1 ≤ gv := by
          rcases hown.forms with ⟨_, h⟩ | ⟨gv, cap, cur, h, hb, _⟩
          · cases h
          · exact ⟨gv, cap, by rw [h]; simp, hb⟩
        subst hgv
        have hrow : (wordC hd :: (List.range (j + 1)).map fun i => wordC (pieceN (s.data.toList.take k) i))[j + 1]? = some [.int .u64 (pieceN (s.data.toList.take k) j)] := by simp [wordC]
        obtain ⟨g', e, _, y0, f0⟩ := hown.cell hrow (f := 0) rfl
        obtain ⟨rfl, _⟩ := Addr.mk.inj (Option.some.inj e)
        have z3 := (HB.out.cellB (a := ⟨w.heap.size, 3, none⟩) (Nat.lt_succ_self _) Z3.out)
        have hps := pieces_step (m := j + 1) HXK.out wordC
        rw [← HJ.out, ← HR.out] at hps
        have hst := hown.store (i := j + 1) (f := 0) hrow (by omega) (u := .int .u64 (pieceN (s.data.toList.take k) j + ((x.toNat * 256 ^ r : Nat) : Int))) rfl
        have HST := Lib.hid (show OwnP (w4.setCell ⟨gv, j + 1, none⟩ (.int .u64 (pieceN (s.data.toList.take k) j + ((x.toNat * 256 ^ r : Nat) : Int)))) (w.heap.size + 1) 29 (.slice (some ⟨gv, 0, none⟩) (j + 2) cv) 1 (wordC hd :: (List.range (j + 1)).map fun i => wordC (pieceN (s.data.toList.take (k + 1)) i)) by rw [hps]; simpa [wordC] using hst)
        rw [← HOR.out] at HST
        have HT := Lib.hid (show Below (w.heap.size + 1) w2 (w4.setCell ⟨gv, j + 1, none⟩ (.int .u64 (bits .or .u64 (pieceN (s.data.toList.take k) j) (IntKind.u64.wrap (IntKind.u64.wrap (x.toNat : Int) * 2 ^ min (8 * (k % 8)) 64))))) from Below.setCell HB.out hgb _)
        rw [Nat.mul_one, Nat.add_zero] at y0 f0
        clear hown hrow hps hst e hgb
        go_upto_region 8 with fail
        refine wp_region_noPanic ?_
        refine wp_region_last 18 (S := (fun w' => w'.cell? ⟨gv, j + 1, none⟩ = some (.int .u64 (pieceN (s.data.toList.take k) j)) ∧ w'.frozen? ⟨gv, j + 1, none⟩ = false ∧ w'.cell? ⟨w.heap.size, 3, none⟩ = some (.string s))) (by kernel_rfl) (by kernel_rfl) _ rfl ?_ (fun hHeld => ?_)
        · (exact ⟨(Ext.drew _).cell y0, ((Ext.drew _).frozen y0).trans f0, (Ext.drew _).cell z3⟩)
        simp only [List.take_succ_cons, List.take_zero]
        refine wpAnyH_take (i := 0) (v := ?v1) rfl (by kernel_rfl) (by kernel_rfl) (by kernel_rfl) (fun _ _ _ h => h) (Or.inl ⟨by rfl, ?y1⟩) (by assumption) ?r1
        case y1 => intro w hSw; (try dsimp only at hSw); go_simp; (try with_reducible rfl)
        (try simp only [Act.put, List.setIfInBounds_toArray, List.set_cons_zero, List.set_cons_succ, List.getElem_toArray, List.getElem_cons_zero, List.getElem_cons_succ])
        refine wpAnyH_take (i := 1) (v := ?v2) rfl (by kernel_rfl) (by kernel_rfl) (by kernel_rfl) (fun _ _ _ h => h) (Or.inl ⟨by rfl, ?y2⟩) (by assumption) ?r2
        case y2 => intro w hSw; (try dsimp only at hSw); go_simp; (try with_reducible rfl)
        (try simp only [Act.put, List.setIfInBounds_toArray, List.set_cons_zero, List.set_cons_succ, List.getElem_toArray, List.getElem_cons_zero, List.getElem_cons_succ])
        refine wpAnyH_take (i := 2) (v := ?v3) rfl (by kernel_rfl) (by kernel_rfl) (by kernel_rfl) (fun _ _ _ h => h) (Or.inl ⟨by rfl, ?y3⟩) (by assumption) ?r3
        case y3 => intro w hSw; (try dsimp only at hSw); go_simp; (try with_reducible rfl)
        (try simp only [Act.put, List.setIfInBounds_toArray, List.set_cons_zero, List.set_cons_succ, List.getElem_toArray, List.getElem_cons_zero, List.getElem_cons_succ])
        refine wpAnyH_take (i := 3) (v := ?v4) rfl (by kernel_rfl) (by kernel_rfl) (by kernel_rfl) (fun _ _ _ h => h) (Or.inl ⟨by rfl, ?y4⟩) (by assumption) ?r4
        case y4 => intro w hSw; (try dsimp only at hSw); go_simp; (try with_reducible rfl)
        (try simp only [Act.put, List.setIfInBounds_toArray, List.set_cons_zero, List.set_cons_succ, List.getElem_toArray, List.getElem_cons_zero, List.getElem_cons_succ])
        refine wpAnyH_take (i := 4) (v := ?v5) rfl (by kernel_rfl) (by kernel_rfl) (by kernel_rfl) (fun _ _ _ h => h) (Or.inl ⟨by rfl, ?y5⟩) (by assumption) ?r5
        case y5 => intro w hSw; (try dsimp only at hSw); go_simp; (try with_reducible rfl)
        (try simp only [Act.put, List.setIfInBounds_toArray, List.set_cons_zero, List.set_cons_succ, List.getElem_toArray, List.getElem_cons_zero, List.getElem_cons_succ])
        refine wpAnyH_take (i := 5) (v := ?v6) rfl (by kernel_rfl) (by kernel_rfl) (by kernel_rfl) (fun _ _ _ h => h) (Or.inl ⟨by rfl, ?y6⟩) (by assumption) ?r6
        case y6 => intro w hSw; (try dsimp only at hSw); go_simp; (try with_reducible rfl)
        (try simp only [Act.put, List.setIfInBounds_toArray, List.set_cons_zero, List.set_cons_succ, List.getElem_toArray, List.getElem_cons_zero, List.getElem_cons_succ])
        refine wpAnyH_take (i := 6) (v := ?v7) rfl (by kernel_rfl) (by kernel_rfl) (by kernel_rfl) (fun _ _ _ h => h) (Or.inl ⟨by rfl, ?y7⟩) (by assumption) ?r7
        case y7 => intro w hSw; (try dsimp only at hSw); go_simp; (try with_reducible rfl)
        (try simp only [Act.put, List.setIfInBounds_toArray, List.set_cons_zero, List.set_cons_succ, List.getElem_toArray, List.getElem_cons_zero, List.getElem_cons_succ])
        refine wpAnyH_take (i := 7) (v := ?v8) rfl (by kernel_rfl) (by kernel_rfl) (by kernel_rfl) (fun _ _ _ h => h) (Or.inl ⟨by rfl, ?y8⟩) (by assumption) ?r8
        case y8 => intro w hSw; (try dsimp only at hSw); go_simp; (try with_reducible rfl)
        (try simp only [Act.put, List.setIfInBounds_toArray, List.set_cons_zero, List.set_cons_succ, List.getElem_toArray, List.getElem_cons_zero, List.getElem_cons_succ])
        refine wpAnyH_take (i := 8) (v := ?v9) rfl (by kernel_rfl) (by kernel_rfl) (by kernel_rfl) (fun _ _ _ h => h) (Or.inl ⟨by rfl, ?y9⟩) (by assumption) ?r9
        case y9 => intro w hSw; (try dsimp only at hSw); go_simp; (try with_reducible rfl)
        (try simp only [Act.put, List.setIfInBounds_toArray, List.set_cons_zero, List.set_cons_succ, List.getElem_toArray, List.getElem_cons_zero, List.getElem_cons_succ])
        refine wpAnyH_take (i := 9) (v := ?v10) rfl (by kernel_rfl) (by kernel_rfl) (by kernel_rfl) (fun _ _ _ h => h) (Or.inl ⟨by rfl, ?y10⟩) (by assumption) ?r10
        case y10 => intro w hSw; (try dsimp only at hSw); go_simp; (try with_reducible rfl)
        (try simp only [Act.put, List.setIfInBounds_toArray, List.set_cons_zero, List.set_cons_succ, List.getElem_toArray, List.getElem_cons_zero, List.getElem_cons_succ])
        refine wpAnyH_take (i := 10) (v := ?v11) rfl (by kernel_rfl) (by kernel_rfl) (by kernel_rfl) (fun _ _ _ h => h) (Or.inl ⟨by rfl, ?y11⟩) (by assumption) ?r11
        case y11 => intro w hSw; (try dsimp only at hSw); go_simp; (try with_reducible rfl)
        (try simp only [Act.put, List.setIfInBounds_toArray, List.set_cons_zero, List.set_cons_succ, List.getElem_toArray, List.getElem_cons_zero, List.getElem_cons_succ])
        refine wpAnyH_take (i := 11) (v := ?v12) rfl (by kernel_rfl) (by kernel_rfl) (by kernel_rfl) (fun _ _ _ h => h) (Or.inl ⟨by rfl, ?y12⟩) (by assumption) ?r12
        case y12 => intro w hSw; (try dsimp only at hSw); go_simp; (try with_reducible rfl)
        (try simp only [Act.put, List.setIfInBounds_toArray, List.set_cons_zero, List.set_cons_succ, List.getElem_toArray, List.getElem_cons_zero, List.getElem_cons_succ])
        refine wpAnyH_take (i := 12) (v := ?v13) rfl (by kernel_rfl) (by kernel_rfl) (by kernel_rfl) (fun _ _ _ h => h) (Or.inl ⟨by rfl, ?y13⟩) (by assumption) ?r13
        case y13 => intro w hSw; (try dsimp only at hSw); go_simp; (try with_reducible rfl)
        (try simp only [Act.put, List.setIfInBounds_toArray, List.set_cons_zero, List.set_cons_succ, List.getElem_toArray, List.getElem_cons_zero, List.getElem_cons_succ])
        refine wpAnyH_take (i := 13) (v := ?v14) rfl (by kernel_rfl) (by kernel_rfl) (by kernel_rfl) (fun _ _ _ h => h) (Or.inl ⟨by rfl, ?y14⟩) (by assumption) ?r14
        case y14 => intro w hSw; (try dsimp only at hSw); go_simp; (try with_reducible rfl)
        (try simp only [Act.put, List.setIfInBounds_toArray, List.set_cons_zero, List.set_cons_succ, List.getElem_toArray, List.getElem_cons_zero, List.getElem_cons_succ])
        refine wpAnyH_take (i := 14) (v := ?v15) rfl (by kernel_rfl) (by kernel_rfl) (by kernel_rfl) (fun _ _ _ h => h) (Or.inl ⟨by rfl, ?y15⟩) (by assumption) ?r15
        case y15 => intro w hSw; (try dsimp only at hSw); go_simp; (try with_reducible rfl)
        (try simp only [Act.put, List.setIfInBounds_toArray, List.set_cons_zero, List.set_cons_succ, List.getElem_toArray, List.getElem_cons_zero, List.getElem_cons_succ])
        refine wpAnyH_take (i := 15) (v := ?v16) rfl (by kernel_rfl) (by kernel_rfl) (by kernel_rfl) (fun _ _ _ h => h) (Or.inl ⟨by rfl, ?y16⟩) (by assumption) ?r16
        case y16 => intro w hSw; (try dsimp only at hSw); go_simp; (try with_reducible rfl)
        (try simp only [Act.put, List.setIfInBounds_toArray, List.set_cons_zero, List.set_cons_succ, List.getElem_toArray, List.getElem_cons_zero, List.getElem_cons_succ])
        refine wpAnyH_take (i := 16) (v := ?v17) rfl (by kernel_rfl) (by kernel_rfl) (by kernel_rfl) (fun _ _ _ h => h) (Or.inl ⟨by rfl, ?y17⟩) (by assumption) ?r17
        case y17 => intro w hSw; (try dsimp only at hSw); go_simp; (try with_reducible rfl)
        (try simp only [Act.put, List.setIfInBounds_toArray, List.set_cons_zero, List.set_cons_succ, List.getElem_toArray, List.getElem_cons_zero, List.getElem_cons_succ])
        refine wpAnyH_take (i := 17) (v := ?v18) rfl (by kernel_rfl) (by kernel_rfl) (by kernel_rfl) (fun _ _ _ h => h) (Or.inl ⟨by rfl, ?y18⟩) (by assumption) ?r18
        case y18 => intro w hSw; (try dsimp only at hSw); go_simp; (try with_reducible rfl)
        (try simp only [Act.put, List.setIfInBounds_toArray, List.set_cons_zero, List.set_cons_succ, List.getElem_toArray, List.getElem_cons_zero, List.getElem_cons_succ])
        refine wpAnyH_done (by kernel_rfl) ?_ _
        show wpList _ _ _ _ _ _
        go_wp2
        refine NoPanic.normal ?_
        go_wp2
        refine ⟨⟨k + 1, _, by omega, by go_num, rfl, ?_, Below.drew HT.out⟩, by simp [intOf]; omega⟩
        rw [show (k + 1 + 7) / 8 = j + 1 by have := HJ.out; omega]
        exact HST.out.ext (Ext.drew _)
      · have hrm : ((k : Int) % 8 == 0) = false := beq_false_of_ne (by omega)
        have hjn : (k + 7) / 8 = j + 1 := by omega
        rw [hjn] at HOW
        have hrm2 : (((k : Int).tmod 8) == 0) = false := beq_false_of_ne (by rw [hrk2]; omega)
        have HK2 := Lib.hid hrk2
        clear hj hr hxk hbx hP hrk2 z0
        have hown := HOW.out
        obtain ⟨gv, cv, hgv, hgb⟩ : ∃ gv cv, vv = .slice (some ⟨gv, 0, none⟩) (j + 2) cv ∧ w.heap.size + 1 ≤ gv := by
          rcases hown.forms with ⟨_, h⟩ | ⟨gv, cap, cur, h, hb, _⟩
          · cases h
          · exact ⟨gv, cap, by rw [h]; simp, hb⟩
        subst hgv
        have hrow : (wordC hd :: (List.range (j + 1)).map fun i => wordC (pieceN (s.data.toList.take k) i))[j + 1]? = some [.int .u64 (pieceN (s.data.toList.take k) j)] := by simp [wordC]
        obtain ⟨g', e, _, y0, f0⟩ := hown.cell hrow (f := 0) rfl
        obtain ⟨rfl, _⟩ := Addr.mk.inj (Option.some.inj e)
        have z3 := (HB.out.cellB (a := ⟨w.heap.size, 3, none⟩) (Nat.lt_succ_self _) Z3.out)
        have hps := pieces_step (m := j + 1) HXK.out wordC
        rw [← HJ.out, ← HR.out] at hps
        have hst := hown.store (i := j + 1) (f := 0) hrow (by omega) (u := .int .u64 (pieceN (s.data.toList.take k) j + ((x.toNat * 256 ^ r : Nat) : Int))) rfl
        have HST := Lib.hid (show OwnP (wr.setCell ⟨gv, j + 1, none⟩ (.int .u64 (pieceN (s.data.toList.take k) j + ((x.toNat * 256 ^ r : Nat) : Int)))) (w.heap.size + 1) 29 (.slice (some ⟨gv, 0, none⟩) (j + 2) cv) 1 (wordC hd :: (List.range (j + 1)).map fun i => wordC (pieceN (s.data.toList.take (k + 1)) i)) by rw [hps]; simpa [wordC] using hst)
        rw [← HOR.out] at HST
        have HT := Lib.hid (show Below (w.heap.size + 1) w2 (wr.setCell ⟨gv, j + 1, none⟩ (.int .u64 (bits .or .u64 (pieceN (s.data.toList.take k) j) (IntKind.u64.wrap (IntKind.u64.wrap (x.toNat : Int) * 2 ^ min (8 * (k % 8)) 64))))) from Below.setCell HB.out hgb _)
        rw [Nat.mul_one, Nat.add_zero] at y0 f0
        clear hown hrow hps hst e hgb
        go_upto_region 8 with fail
        refine wp_region_noPanic ?_
        refine wp_region_last 18 (S := (fun w' => w'.cell? ⟨gv, j + 1, none⟩ = some (.int .u64 (pieceN (s.data.toList.take k) j)) ∧ w'.frozen? ⟨gv, j + 1, none⟩ = false ∧ w'.cell? ⟨w.heap.size, 3, none⟩ = some (.string s))) (by kernel_rfl) (by kernel_rfl) _ rfl ?_ (fun hHeld => ?_)
        · (exact ⟨(Ext.drew _).cell y0, ((Ext.drew _).frozen y0).trans f0, (Ext.drew _).cell z3⟩)
        simp only [List.take_succ_cons, List.take_zero]
        refine wpAnyH_take (i := 0) (v := ?v19) rfl (by kernel_rfl) (by kernel_rfl) (by kernel_rfl) (fun _ _ _ h => h) (Or.inl ⟨by rfl, ?y19⟩) (by assumption) ?r19
        case y19 => intro w hSw; (try dsimp only at hSw); go_simp; (try with_reducible rfl)
        (try simp only [Act.put, List.setIfInBounds_toArray, List.set_cons_zero, List.set_cons_succ, List.getElem_toArray, List.getElem_cons_zero, List.getElem_cons_succ])
        refine wpAnyH_take (i := 1) (v := ?v20) rfl (by kernel_rfl) (by kernel_rfl) (by kernel_rfl) (fun _ _ _ h => h) (Or.inl ⟨by rfl, ?y20⟩) (by assumption) ?r20
        case y20 => intro w hSw; (try dsimp only at hSw); go_simp; (try with_reducible rfl)
        (try simp only [Act.put, List.setIfInBounds_toArray, List.set_cons_zero, List.set_cons_succ, List.getElem_toArray, List.getElem_cons_zero, List.getElem_cons_succ])
        refine wpAnyH_take (i := 2) (v := ?v21) rfl (by kernel_rfl) (by kernel_rfl) (by kernel_rfl) (fun _ _ _ h => h) (Or.inl ⟨by rfl, ?y21⟩) (by assumption) ?r21
        case y21 => intro w hSw; (try dsimp only at hSw); go_simp; (try with_reducible rfl)
        (try simp only [Act.put, List.setIfInBounds_toArray, List.set_cons_zero, List.set_cons_succ, List.getElem_toArray, List.getElem_cons_zero, List.getElem_cons_succ])
        refine wpAnyH_take (i := 3) (v := ?v22) rfl (by kernel_rfl) (by kernel_rfl) (by kernel_rfl) (fun _ _ _ h => h) (Or.inl ⟨by rfl, ?y22⟩) (by assumption) ?r22
        case y22 => intro w hSw; (try dsimp only at hSw); go_simp; (try with_reducible rfl)
        (try simp only [Act.put, List.setIfInBounds_toArray, List.set_cons_zero, List.set_cons_succ, List.getElem_toArray, List.getElem_cons_zero, List.getElem_cons_succ])
        refine wpAnyH_take (i := 4) (v := ?v23) rfl (by kernel_rfl) (by kernel_rfl) (by kernel_rfl) (fun _ _ _ h => h) (Or.inl ⟨by rfl, ?y23⟩) (by assumption) ?r23
        case y23 => intro w hSw; (try dsimp only at hSw); go_simp; (try with_reducible rfl)
        (try simp only [Act.put, List.setIfInBounds_toArray, List.set_cons_zero, List.set_cons_succ, List.getElem_toArray, List.getElem_cons_zero, List.getElem_cons_succ])
        refine wpAnyH_take (i := 5) (v := ?v24) rfl (by kernel_rfl) (by kernel_rfl) (by kernel_rfl) (fun _ _ _ h => h) (Or.inl ⟨by rfl, ?y24⟩) (by assumption) ?r24
        case y24 => intro w hSw; (try dsimp only at hSw); go_simp; (try with_reducible rfl)
        (try simp only [Act.put, List.setIfInBounds_toArray, List.set_cons_zero, List.set_cons_succ, List.getElem_toArray, List.getElem_cons_zero, List.getElem_cons_succ])
        refine wpAnyH_take (i := 6) (v := ?v25) rfl (by kernel_rfl) (by kernel_rfl) (by kernel_rfl) (fun _ _ _ h => h) (Or.inl ⟨by rfl, ?y25⟩) (by assumption) ?r25
        case y25 => intro w hSw; (try dsimp only at hSw); go_simp; (try with_reducible rfl)
        (try simp only [Act.put, List.setIfInBounds_toArray, List.set_cons_zero, List.set_cons_succ, List.getElem_toArray, List.getElem_cons_zero, List.getElem_cons_succ])
        refine wpAnyH_take (i := 7) (v := ?v26) rfl (by kernel_rfl) (by kernel_rfl) (by kernel_rfl) (fun _ _ _ h => h) (Or.inl ⟨by rfl, ?y26⟩) (by assumption) ?r26
        case y26 => intro w hSw; (try dsimp only at hSw); go_simp; (try with_reducible rfl)
        (try simp only [Act.put, List.setIfInBounds_toArray, List.set_cons_zero, List.set_cons_succ, List.getElem_toArray, List.getElem_cons_zero, List.getElem_cons_succ])
        refine wpAnyH_take (i := 8) (v := ?v27) rfl (by kernel_rfl) (by kernel_rfl) (by kernel_rfl) (fun _ _ _ h => h) (Or.inl ⟨by rfl, ?y27⟩) (by assumption) ?r27
        case y27 => intro w hSw; (try dsimp only at hSw); go_simp; (try with_reducible rfl)
        (try simp only [Act.put, List.setIfInBounds_toArray, List.set_cons_zero, List.set_cons_succ, List.getElem_toArray, List.getElem_cons_zero, List.getElem_cons_succ])
        refine wpAnyH_take (i := 9) (v := ?v28) rfl (by kernel_rfl) (by kernel_rfl) (by kernel_rfl) (fun _ _ _ h => h) (Or.inl ⟨by rfl, ?y28⟩) (by assumption) ?r28
        case y28 => intro w hSw; (try dsimp only at hSw); go_simp; (try with_reducible rfl)
        (try simp only [Act.put, List.setIfInBounds_toArray, List.set_cons_zero, List.set_cons_succ, List.getElem_toArray, List.getElem_cons_zero, List.getElem_cons_succ])
        refine wpAnyH_take (i := 10) (v := ?v29) rfl (by kernel_rfl) (by kernel_rfl) (by kernel_rfl) (fun _ _ _ h => h) (Or.inl ⟨by rfl, ?y29⟩) (by assumption) ?r29
        case y29 => intro w hSw; (try dsimp only at hSw); go_simp; (try with_reducible rfl)
        (try simp only [Act.put, List.setIfInBounds_toArray, List.set_cons_zero, List.set_cons_succ, List.getElem_toArray, List.getElem_cons_zero, List.getElem_cons_succ])
        refine wpAnyH_take (i := 11) (v := ?v30) rfl (by kernel_rfl) (by kernel_rfl) (by kernel_rfl) (fun _ _ _ h => h) (Or.inl ⟨by rfl, ?y30⟩) (by assumption) ?r30
        case y30 => intro w hSw; (try dsimp only at hSw); go_simp; (try with_reducible rfl)
        (try simp only [Act.put, List.setIfInBounds_toArray, List.set_cons_zero, List.set_cons_succ, List.getElem_toArray, List.getElem_cons_zero, List.getElem_cons_succ])
        refine wpAnyH_take (i := 12) (v := ?v31) rfl (by kernel_rfl) (by kernel_rfl) (by kernel_rfl) (fun _ _ _ h => h) (Or.inl ⟨by rfl, ?y31⟩) (by assumption) ?r31
        case y31 => intro w hSw; (try dsimp only at hSw); go_simp; (try with_reducible rfl)
        (try simp only [Act.put, List.setIfInBounds_toArray, List.set_cons_zero, List.set_cons_succ, List.getElem_toArray, List.getElem_cons_zero, List.getElem_cons_succ])
        refine wpAnyH_take (i := 13) (v := ?v32) rfl (by kernel_rfl) (by kernel_rfl) (by kernel_rfl) (fun _ _ _ h => h) (Or.inl ⟨by rfl, ?y32⟩) (by assumption) ?r32
        case y32 => intro w hSw; (try dsimp only at hSw); go_simp; (try with_reducible rfl)
        (try simp only [Act.put, List.setIfInBounds_toArray, List.set_cons_zero, List.set_cons_succ, List.getElem_toArray, List.getElem_cons_zero, List.getElem_cons_succ])
        refine wpAnyH_take (i := 14) (v := ?v33) rfl (by kernel_rfl) (by kernel_rfl) (by kernel_rfl) (fun _ _ _ h => h) (Or.inl ⟨by rfl, ?y33⟩) (by assumption) ?r33
        case y33 => intro w hSw; (try dsimp only at hSw); go_simp; (try with_reducible rfl)
        (try simp only [Act.put, List.setIfInBounds_toArray, List.set_cons_zero, List.set_cons_succ, List.getElem_toArray, List.getElem_cons_zero, List.getElem_cons_succ])
        refine wpAnyH_take (i := 15) (v := ?v34) rfl (by kernel_rfl) (by kernel_rfl) (by kernel_rfl) (fun _ _ _ h => h) (Or.inl ⟨by rfl, ?y34⟩) (by assumption) ?r34
        case y34 => intro w hSw; (try dsimp only at hSw); go_simp; (try with_reducible rfl)
        (try simp only [Act.put, List.setIfInBounds_toArray, List.set_cons_zero, List.set_cons_succ, List.getElem_toArray, List.getElem_cons_zero, List.getElem_cons_succ])
        refine wpAnyH_take (i := 16) (v := ?v35) rfl (by kernel_rfl) (by kernel_rfl) (by kernel_rfl) (fun _ _ _ h => h) (Or.inl ⟨by rfl, ?y35⟩) (by assumption) ?r35
        case y35 => intro w hSw; (try dsimp only at hSw); go_simp; (try with_reducible rfl)
        (try simp only [Act.put, List.setIfInBounds_toArray, List.set_cons_zero, List.set_cons_succ, List.getElem_toArray, List.getElem_cons_zero, List.getElem_cons_succ])
        refine wpAnyH_take (i := 17) (v := ?v36) rfl (by kernel_rfl) (by kernel_rfl) (by kernel_rfl) (fun _ _ _ h => h) (Or.inl ⟨by rfl, ?y36⟩) (by assumption) ?r36
        case y36 => intro w hSw; (try dsimp only at hSw); go_simp; (try with_reducible rfl)
        (try simp only [Act.put, List.setIfInBounds_toArray, List.set_cons_zero, List.set_cons_succ, List.getElem_toArray, List.getElem_cons_zero, List.getElem_cons_succ])
        refine wpAnyH_done (by kernel_rfl) ?_ _
        show wpList _ _ _ _ _ _
        go_wp2
        refine NoPanic.normal ?_
        go_wp2
        refine ⟨⟨k + 1, _, by omega, by go_num, rfl, ?_, Below.drew HT.out⟩, by simp [intOf]; omega⟩
        rw [show (k + 1 + 7) / 8 = j + 1 by have := HJ.out; omega]
        exact HST.out.ext (Ext.drew _)
    · obtain rfl : k = s.size := by omega
      have hfin : (List.range ((s.size + 7) / 8)).map (fun i => wordC (pieceN (s.data.toList.take s.size) i)) = (pieces s.data.toList).map wordC := by
        rw [← HS.out, List.take_length]
        unfold pieces
        rw [List.map_map]
        rfl
      rw [hfin] at HOW
      have HE := Lib.hid (show Ext w wr from Below.trans HX2.out (Below.mono HB.out (by omega)))
      clear hfin
      go_wp2_with fail
      go_ret
      exact ⟨_, rfl, HOW.out.mono (by omega), HE.out⟩
end Go.Proofs.Ytlffmcadchbheaa
/- A heap that is looked through: its words, where it begins, whether it may be. -/
namespace Go.Proofs.Ytlffmcadchbheaa
open Go.RowKit Go.Maps Arena
set_option maxHeartbeats 4000000
set_option maxRecDepth 100000
structure Hp where
  base : Int
  half : Int
  space : Int
  top : Int
def hpV (h : Hp) : Value := .agg #[.int .i64 h.base, .int .i64 h.half, .int .i64 h.space, .int .i64 h.top]
/-- do a heap's numbers fit (the region aside) -/
def hpOK (h : Hp) : Prop := 8 ≤ h.half ∧ h.half ≤ 2000 ∧ 0 ≤ h.space ∧ h.space ≤ 1 ∧ 0 ≤ h.top ∧ h.top ≤ h.half
instance (h : Hp) : Decidable (hpOK h) := by unfold hpOK; infer_instance
def thereB (R : List (Nat × Nat)) (h : Hp) : Bool := decide (hpOK h) && decide ((lenAt R h.base : Int) = 2 * h.half)
theorem word_is {w : World} {p g bm n : Nat} {ws : List Int} {R : List (Nat × Nat)} (H : ArenaAt w p g bm n ws R) (ba ha sp tp a : Int) (hw : (Lit.int .i64 ba).wf = true) :
    Calls Try.prog 71 #[.agg #[.pointer (some ⟨p, 0, none⟩), .int .i64 ba, .int .i64 ha, .int .i64 sp, .int .i64 tp], .int .i64 a] w fun e w' => e = .returned (.int .u64 (getW ws R ba a)) ∧ Ext w w' := by
  have HG := Lib.hid (fun W (e : Ext w W) => getA_said (x := ba) (a := a) (H.ext e) hw)
  generalize getW ws R ba a = gv at HG ⊢
  clear H hw
  go_enter Try.func71, Try.ntmps71
  go_wp2_with fail
  refine (HG.out _ (Ext.alloc _ _)).mono ?_
  rintro e w1 ⟨rfl, rfl⟩
  go_wp2
  go_ret
  exact ⟨rfl, Ext.alloc _ _⟩
theorem first_is (pv : Value) (ba : Int) (ha sp : Nat) (tp : Int) (h1 : ha ≤ 2000) (h2 : sp ≤ 1) (w : World) (_hp : pv.oneCell' = true) :
    Calls Try.prog 62 #[.agg #[pv, .int .i64 ba, .int .i64 ha, .int .i64 sp, .int .i64 tp]] w fun e w' => e = .returned (.int .i64 ((sp * ha : Nat) : Int)) ∧ Ext w w' := by
  rcases (show sp = 0 ∨ sp = 1 by omega) with rfl | rfl
  · go_enter Try.func62, Try.ntmps62
    go_wp2
    go_ret
    exact ⟨by simp, Ext.alloc _ _⟩
  · go_enter Try.func62, Try.ntmps62
    go_wp2
    go_ret
    exact ⟨by simp, Ext.alloc _ _⟩
end Go.Proofs.Ytlffmcadchbheaa
/- A heap: where it ends, whether it may be. -/
namespace Go.Proofs.Ytlffmcadchbheaa
open Go.RowKit Go.Maps Arena
set_option maxHeartbeats 4000000
set_option maxRecDepth 100000
theorem top_is (pv : Value) (ba : Int) (ha sp tp : Nat) (h1 : ha ≤ 2000) (h2 : sp ≤ 1) (h3 : tp ≤ 2000) (w : World) (hp : pv.oneCell' = true) :
    Calls Try.prog 52 #[.agg #[pv, .int .i64 ba, .int .i64 ha, .int .i64 sp, .int .i64 tp]] w fun e w' => e = .returned (.int .i64 ((sp * ha + tp : Nat) : Int)) ∧ Ext w w' := by
  have HF := Lib.hid (fun W => first_is pv ba ha sp tp h1 h2 W hp)
  have hm : sp * ha ≤ 2000 := by
    rcases (show sp = 0 ∨ sp = 1 by omega) with rfl | rfl <;> omega
  generalize sp * ha = f at HF hm ⊢
  go_enter Try.func52, Try.ntmps52
  go_upto_region 1 with fail
  refine wp_alloc1 fun W hE _ b0 => ?_
  have x0 := cell_at b0 (i := 0) rfl
  have x1 := cell_at b0 (i := 1) rfl
  have x2 := cell_at b0 (i := 2) rfl
  have x3 := cell_at b0 (i := 3) rfl
  have x4 := cell_at b0 (i := 4) rfl
  have r0 := fun d os => cell_regrown x0 d os
  have r1 := fun d os => cell_regrown x1 d os
  have r2 := fun d os => cell_regrown x2 d os
  have r3 := fun d os => cell_regrown x3 d os
  have r4 := fun d os => cell_regrown x4 d os
  have cF := fun d os => quiet_ext (HF.out (Go.Sort.grow (redrawn W d) os))
  have CF := Lib.hid cF
  have HE := Lib.hid hE
  clear cF x0 x1 x2 x3 x4 b0 hE
  refine wp_region_quiet_below (by kernel_rfl) (by kernel_rfl) ?_
  repeat (first | go_big_quiet_step (exact CF.out _ _) | quiet_step (exact CF.out _ _))
  refine wpQuiet_nil ?_
  intro _ hw'
  obtain ⟨⟨dq, osq⟩, hw''⟩ := hw'
  subst hw''
  have HXQ := Lib.hid (HE.out.trans (Ext.regrown W dq osq))
  clear r0 r1 r2 r3 r4
  go_wp2
  go_ret
  exact ⟨by show Ending.returned (.int .i64 ((f : Int) + (tp : Int))) = _; congr 2, HXQ.out⟩
theorem there_is {w : World} {p g bm n : Nat} {ws : List Int} {R : List (Nat × Nat)} (H : ArenaAt w p g bm n ws R) (h : Hp) (hw : (Lit.int .i64 h.base).wf = true) (hl : (wordsAt ws R h.base).length = lenAt R h.base) (hl2 : lenAt R h.base ≤ 20000) :
    Calls Try.prog 61 #[.agg #[.pointer (some ⟨p, 0, none⟩), .int .i64 h.base, .int .i64 h.half, .int .i64 h.space, .int .i64 h.top]] w fun e w' => e = .returned (.bool (thereB R h)) ∧ Ext w w' := by
  obtain ⟨ba, ha, sp, tp⟩ := h
  dsimp only at hw hl hl2 ⊢
  have HW := Lib.hid (fun W (e : Ext w W) => wordsA_said (x := ba) (H.ext e) hw)
  clear H hw
  by_cases h0 : 8 ≤ ha
  · by_cases h1 : ha ≤ 2000
    · by_cases h2 : 0 ≤ sp
      · by_cases h3 : sp ≤ 1
        · by_cases h4 : 0 ≤ tp
          · by_cases h5 : tp ≤ ha
            · have b0 : decide (ha < 8) = false := decide_eq_false (by omega)
              have b1 : decide (2000 < ha) = false := decide_eq_false (by omega)
              have b2 : decide (sp < 0) = false := decide_eq_false (by omega)
              have b3 : decide (1 < sp) = false := decide_eq_false (by omega)
              have b4 : decide (tp < 0) = false := decide_eq_false (by omega)
              have b5 : decide (ha < tp) = false := decide_eq_false (by omega)
              have hb : thereB R ⟨ba, ha, sp, tp⟩ = (freeB R ba && decide ((lenAt R ba : Int) = 2 * ha)) := by
                unfold thereB freeB
                rw [decide_eq_true (show hpOK ⟨ba, ha, sp, tp⟩ from ⟨h0, h1, h2, h3, h4, h5⟩)]
                by_cases hz : lenAt R ba = 0
                · have : ¬ (lenAt R ba : Int) = 2 * ha := by omega
                  simp [hz]; omega
                · simp [hz]
              rw [hb]
              generalize freeB R ba = fb at HW ⊢
              generalize wordsAt ws R ba = wl at HW hl
              generalize lenAt R ba = ln at hl hl2 ⊢
              subst hl
              clear hb
              obtain ⟨dz, hdz⟩ : ∃ dz, dz = decide ((wl.length : Int) = 2 * ha) := ⟨_, rfl⟩
              rw [← hdz]
              have hez : ((wl.length : Int) == 2 * ha) = dz := by rw [hdz, Bool.eq_iff_iff]; simp
              clear hdz
              go_enter Try.func61, Try.ntmps61
              go_wp2_with fail
              refine (HW.out _ (Ext.alloc _ _)).mono ?_
              rintro e w1 ⟨v, rfl, ⟨q, c, rfl, hv1, hv2, _⟩, hx⟩
              have x2 := hx.cell (a := ⟨w.heap.size, 2, none⟩) (cell_at (heap_alloc_new w _) rfl)
              have HX := Lib.hid ((Ext.alloc _ _).trans hx)
              clear hx
              cases fb
              · go_wp2
                go_ret
                exact ⟨rfl, HX.out⟩
              · go_wp2
                go_ret
                exact ⟨rfl, HX.out⟩
            · have hb : thereB R ⟨ba, ha, sp, tp⟩ = false := by unfold thereB; rw [decide_eq_false (show ¬ hpOK ⟨ba, ha, sp, tp⟩ from fun h => h5 h.2.2.2.2.2)]; rfl
              rw [hb]
              clear hb
              have b0 : decide (ha < 8) = false := decide_eq_false (by omega)
              have b1 : decide (2000 < ha) = false := decide_eq_false (by omega)
              have b2 : decide (sp < 0) = false := decide_eq_false (by omega)
              have b3 : decide (1 < sp) = false := decide_eq_false (by omega)
              have b4 : decide (tp < 0) = false := decide_eq_false (by omega)
              have b5 : decide (ha < tp) = true := decide_eq_true (by omega)
              clear HW
              go_enter Try.func61, Try.ntmps61
              go_wp2
              go_ret
              exact ⟨rfl, Ext.alloc _ _⟩
          · have hb : thereB R ⟨ba, ha, sp, tp⟩ = false := by unfold thereB; rw [decide_eq_false (show ¬ hpOK ⟨ba, ha, sp, tp⟩ from fun h => h4 h.2.2.2.2.1)]; rfl
            rw [hb]
            clear hb
            have b0 : decide (ha < 8) = false := decide_eq_false (by omega)
            have b1 : decide (2000 < ha) = false := decide_eq_false (by omega)
            have b2 : decide (sp < 0) = false := decide_eq_false (by omega)
            have b3 : decide (1 < sp) = false := decide_eq_false (by omega)
            have b4 : decide (tp < 0) = true := decide_eq_true (by omega)
            clear HW
            go_enter Try.func61, Try.ntmps61
            go_wp2
            go_ret
            exact ⟨rfl, Ext.alloc _ _⟩
        · have hb : thereB R ⟨ba, ha, sp, tp⟩ = false := by unfold thereB; rw [decide_eq_false (show ¬ hpOK ⟨ba, ha, sp, tp⟩ from fun h => h3 h.2.2.2.1)]; rfl
          rw [hb]
          clear hb
          have b0 : decide (ha < 8) = false := decide_eq_false (by omega)
          have b1 : decide (2000 < ha) = false := decide_eq_false (by omega)
          have b2 : decide (sp < 0) = false := decide_eq_false (by omega)
          have b3 : decide (1 < sp) = true := decide_eq_true (by omega)
          clear HW
          go_enter Try.func61, Try.ntmps61
          go_wp2
          go_ret
          exact ⟨rfl, Ext.alloc _ _⟩
      · have hb : thereB R ⟨ba, ha, sp, tp⟩ = false := by unfold thereB; rw [decide_eq_false (show ¬ hpOK ⟨ba, ha, sp, tp⟩ from fun h => h2 h.2.2.1)]; rfl
        rw [hb]
        clear hb
        have b0 : decide (ha < 8) = false := decide_eq_false (by omega)
        have b1 : decide (2000 < ha) = false := decide_eq_false (by omega)
        have b2 : decide (sp < 0) = true := decide_eq_true (by omega)
        clear HW
        go_enter Try.func61, Try.ntmps61
        go_wp2
        go_ret
        exact ⟨rfl, Ext.alloc _ _⟩
    · have hb : thereB R ⟨ba, ha, sp, tp⟩ = false := by unfold thereB; rw [decide_eq_false (show ¬ hpOK ⟨ba, ha, sp, tp⟩ from fun h => h1 h.2.1)]; rfl
      rw [hb]
      clear hb
      have b0 : decide (ha < 8) = false := decide_eq_false (by omega)
      have b1 : decide (2000 < ha) = true := decide_eq_true (by omega)
      clear HW
      go_enter Try.func61, Try.ntmps61
      go_wp2
      go_ret
      exact ⟨rfl, Ext.alloc _ _⟩
  · have hb : thereB R ⟨ba, ha, sp, tp⟩ = false := by unfold thereB; rw [decide_eq_false (show ¬ hpOK ⟨ba, ha, sp, tp⟩ from fun h => h0 h.1)]; rfl
    rw [hb]
    clear hb
    have b0 : decide (ha < 8) = true := decide_eq_true (by omega)
    clear HW
    go_enter Try.func61, Try.ntmps61
    go_wp2
    go_ret
    exact ⟨rfl, Ext.alloc _ _⟩
end Go.Proofs.Ytlffmcadchbheaa
/- An object is read out of a heap's words (the program's): no kind of that number, too long, no room. -/
namespace Go.Proofs.Ytlffmcadchbheaa
open Go.RowKit Go.Maps Arena
set_option maxHeartbeats 4000000
set_option maxRecDepth 100000
theorem Ext.set {w W : World} (h : Ext w W) {p : Addr} (hp : w.heap.size ≤ p.block) (u : Value) : Ext w (W.setCell p u) := Below.setCell h hp u
theorem Turn.after {w W W' : World} {bs : List Nat} (h : Ext w W) (t : Turn bs W W') (hb : ∀ b ∈ bs, w.heap.size ≤ b) : Ext w W' := Below.trans h (Turn.below t (Ext.size h) hb)
theorem post_fill4 {P : Program} {f : Func} {Q : Ending → World → Prop} {x : Exit} {a : Act} {w : World} {b : Nat} {x0 x1 x2 x3 y0 y1 y2 y3 : Value} {T : TypeId} (h0 : w.heap[b]? = some (.cells #[x0, x1, x2, x3] T (0, 0)))
    (h : ∀ W : World, W.heap[b]? = some (.cells #[y0, y1, y2, y3] T (0, 0)) → Turn [b] w W → W.heap.size = w.heap.size → bodyPost P f Q x a W) : bodyPost P f Q x a ((((w.setCell ⟨b, 0, none⟩ y0).setCell ⟨b, 1, none⟩ y1).setCell ⟨b, 2, none⟩ y2).setCell ⟨b, 3, none⟩ y3) :=
  h _ (fill4 h0 _ _ _ _).1 (fill4 h0 _ _ _ _).2.1 (fill4 h0 _ _ _ _).2.2
def zeroOV : Value := .agg #[.int .i64 0, .int .i64 0, .slice none 0 0, .string ByteArray.empty]
/-- what 'read' tells -/
def ReadSaid (r : Option Ob) (w : World) (e : Ending) (w' : World) : Prop := match r with
  | none => e = .returned (.tuple #[zeroOV, .int .i64 0]) ∧ Ext w w'
  | some o => ∃ q c, e = .returned (.tuple #[.agg #[.int .i64 o.kind, .int .i64 o.tag, .slice q o.fields.length c, .string o.text], .int .i64 (wordsO o : Nat)]) ∧ OwnP w' w.heap.size 29 (.slice q o.fields.length c) 1 (o.fields.map wordC) ∧ Ext w w'
theorem and_255 {x : Int} (h : W64 x) : bits .and .u64 x 255 = x % 256 := by
  obtain ⟨n, rfl⟩ := Int.eq_ofNat_of_zero_le h.1
  rw [show (255 : Int) = ((255 : Nat) : Int) from rfl, u64_and_nat n 255 (by have := h.2; omega) (by decide)]
  have := Nat.and_two_pow_sub_one_eq_mod n 8
  simp at this
  rw [this]
  omega
theorem and_tag {x : Int} (h : W64 x) : bits .and .u64 x 16777215 = x % 16777216 := by
  obtain ⟨n, rfl⟩ := Int.eq_ofNat_of_zero_le h.1
  rw [show (16777215 : Int) = ((16777215 : Nat) : Int) from rfl, u64_and_nat n 16777215 (by have := h.2; omega) (by decide)]
  have := Nat.and_two_pow_sub_one_eq_mod n 24
  simp at this
  rw [this]
  omega
theorem read_no (pv : Value) (ba ha sp tp at_ en : Int) (hd kd tg : Int) (sz : Nat) (hw : W64 hd) (w : World)
    (HR : ∀ W, Ext w W → Calls Try.prog 71 #[.agg #[pv, .int .i64 ba, .int .i64 ha, .int .i64 sp, .int .i64 tp], .int .i64 at_] W fun e w' => e = .returned (.int .u64 hd) ∧ Ext W w') (_hp : pv.oneCell' = true)
    (d1 : hd % 256 = kd) (d2 : hd / 256 % 16777216 = tg) (d3 : hd / 4294967296 = sz) (h1 : kd < 1 ∨ 4 < kd) :
    Calls Try.prog 63 #[.agg #[pv, .int .i64 ba, .int .i64 ha, .int .i64 sp, .int .i64 tp], .int .i64 at_, .int .i64 en] w fun e w' => e = .returned (.tuple #[zeroOV, .int .i64 0]) ∧ Ext w w' := by
  have HR' := Lib.hid HR
  have hn : ofV kd = .nilIface := by unfold ofV; rw [if_neg (by omega), if_neg (by omega), if_neg (by omega), if_neg (by omega)]
  have HN := Lib.hid hn
  clear HR hn h1
  have e1 := and_255 hw
  have e2 : bits .and .u64 (hd / 256) 16777215 = tg := by rw [and_tag ⟨by have := hw.1; omega, by have := hw.2; omega⟩]; exact d2
  have t1 : 0 ≤ kd ∧ kd ≤ 255 := by omega
  have t2 : 0 ≤ tg ∧ tg ≤ 16777215 := by omega
  have t3 : sz ≤ 4294967295 := by have := hw.2; omega
  obtain ⟨t1, t1'⟩ := t1
  obtain ⟨t2, t2'⟩ := t2
  clear d2 hw
  go_enter Try.func63, Try.ntmps63
  go_upto_region 1 with fail
  refine wp_alloc2 fun W hE hS b0 b1 => ?_
  obtain ⟨x0, x1, x2, x3, x4⟩ := cells5 b0
  go_wp2_with fail
  refine (HR'.out W hE).mono ?_
  rintro e w1 ⟨rfl, hx⟩
  have c0 := (Below.block hx w.heap.size (by omega)).trans b0
  have c1 := (Below.block hx (w.heap.size + 1) (by omega)).trans b1
  have HX := Lib.hid (hE.trans hx)
  have hlt : w.heap.size + 1 < w1.heap.size := by have := Ext.size hx; omega
  have HS := Lib.hid hS
  clear hS hx hE b0 b1 x0 x1 x2 x3 x4
  go_wp2_with fail
  refine at_alloc1 fun W2 hE2 hS2 b2 => ?_
  refine (of_is _ _).mono ?_
  rintro e w3 ⟨rfl, rfl⟩
  rw [HN.out]
  have c0 := (Below.block hE2 w.heap.size (by omega)).trans c0
  have c1 := (Below.block hE2 (w.heap.size + 1) (by omega)).trans c1
  have HX2 := Lib.hid (HX.out.trans hE2)
  have hlt : w.heap.size + 1 < W2.heap.size := by omega
  clear hE2 hS2 b2
  obtain ⟨y0, y1, y2, y3⟩ := cells4 c1
  have f0 := free_at c1 (i := 0)
  have f1 := free_at c1 (i := 1)
  have f2 := free_at c1 (i := 2)
  have f3 := free_at c1 (i := 3)
  go_wp2
  refine post_fill4 c1 fun W3 c1 hT hS3 => ?_
  obtain ⟨y0, y1, y2, y3⟩ := cells4 c1
  refine bodyPost_ret (v := .tuple #[zeroOV, .int .i64 0]) (by simp [results, Try.results63, go_sem, y0, y1, y2, y3, zeroOV]; rfl) rfl ⟨rfl, ?_⟩
  exact Turn.after HX2.out hT (by simp)
end Go.Proofs.Ytlffmcadchbheaa
/- An object is read out of a heap's words (the program's): kinds with fields. -/
namespace Go.Proofs.Ytlffmcadchbheaa
open Go.RowKit Go.Maps Arena
set_option maxHeartbeats 4000000
set_option maxRecDepth 100000
theorem read_row (pv : Value) (ba ha sp tp : Int) (at_ : Nat) (kd tg : Int) (sz l mo : Nat) (top hd : Int) (S : List Int) (hw : W64 hd) (w : World)
    (HR : ∀ (i : Nat) (x : Int), (hd :: S)[i]? = some x → ∀ W, Ext w W → Calls Try.prog 71 #[.agg #[pv, .int .i64 ba, .int .i64 ha, .int .i64 sp, .int .i64 tp], .int .i64 ((at_ + i : Nat) : Int)] W fun e w' => e = .returned (.int .u64 x) ∧ Ext W w') (_hp : pv.oneCell' = true)
    (d1 : hd % 256 = kd) (d2 : hd / 256 % 16777216 = tg) (d3 : hd / 4294967296 = sz) (hat : at_ ≤ 100000) (hSl : S.length ≤ 100000) (hk2 : kd ≠ 2) (ho : ofV kd = .iface 118 (.agg #[.int .i64 l, .int .i64 mo, .int .i64 top])) :
    Calls Try.prog 63 #[.agg #[pv, .int .i64 ba, .int .i64 ha, .int .i64 sp, .int .i64 tp], .int .i64 at_, .int .i64 ((at_ + (S.length + 1) : Nat) : Int)] w (ReadSaid (if sz ≤ 400 ∧ sz ≤ S.length ∧ mayK kd tg sz 0 = true then some ⟨kd, tg, S.take sz, ByteArray.empty⟩ else none) w) := by
  have HR' := Lib.hid HR
  have HR0 := Lib.hid (HR 0 hd rfl)
  have HN := Lib.hid ho
  clear HR ho
  have e1 := and_255 hw
  have e2 : bits .and .u64 (hd / 256) 16777215 = tg := by rw [and_tag ⟨by have := hw.1; omega, by have := hw.2; omega⟩]; exact d2
  have t1 : 0 ≤ kd ∧ kd ≤ 255 := by omega
  have t2 : 0 ≤ tg ∧ tg ≤ 16777215 := by omega
  have t3 : sz ≤ 4294967295 := by have := hw.2; omega
  obtain ⟨t1, t1'⟩ := t1
  obtain ⟨t2, t2'⟩ := t2
  clear d2 hw
  have k2 : (kd == 2) = false := beq_false_of_ne hk2
  have k2' : (kd != 2) = true := by rw [bne, k2]; rfl
  by_cases hs4 : sz ≤ 400
  · by_cases hsl : sz ≤ S.length
    · generalize hRR : (if sz ≤ 400 ∧ sz ≤ S.length ∧ mayK kd tg sz 0 = true then some (⟨kd, tg, S.take sz, ByteArray.empty⟩ : Ob) else none) = RR
      have HRR := Lib.hid hRR
      clear hRR
      have HR0 := Lib.hid (by simpa only [Nat.add_zero] using HR0.out)
      clear hk2
      have i1 : ¬ (400 : Int) < (sz : Int) := by omega
      have b1 : decide ((400 : Int) < (sz : Int)) = false := decide_eq_false i1
      have HM := Lib.hid (fun W => row_words (l : Int) mo top (sz : Int) W)
      have hm2 := mr_words
      go_enter Try.func63, Try.ntmps63
      go_upto_region 1 with fail
      refine wp_alloc2 fun W hE hS b0 b1 => ?_
      obtain ⟨x0, x1, x2, x3, x4⟩ := cells5 b0
      go_wp2_with fail
      refine (HR0.out W hE).mono ?_
      rintro e w1 ⟨rfl, hx⟩
      have c0 := (Below.block hx w.heap.size (by omega)).trans b0
      have c1 := (Below.block hx (w.heap.size + 1) (by omega)).trans b1
      have HX := Lib.hid (hE.trans hx)
      have hlt : w.heap.size + 1 < w1.heap.size := by have := Ext.size hx; omega
      have HS := Lib.hid hS
      clear hS hx hE b0 b1 x0 x1 x2 x3 x4
      go_wp2_with fail
      refine at_alloc1 fun W2 hE2 hS2 b2 => ?_
      refine (of_is _ _).mono ?_
      rintro e w3 ⟨rfl, rfl⟩
      rw [HN.out]
      have c0 := (Below.block hE2 w.heap.size (by omega)).trans c0
      have c1 := (Below.block hE2 (w.heap.size + 1) (by omega)).trans c1
      have HX2 := Lib.hid (HX.out.trans hE2)
      have hlt : w.heap.size + 1 < W2.heap.size := by omega
      have hltb : w1.heap.size < W2.heap.size := by omega
      clear hE2 hS2
      obtain ⟨y0, y1, y2, y3⟩ := cells4 c1
      obtain ⟨z0, z1, z2, z3⟩ := cells4 b2
      go_wp2_with fail
      refine (HM.out _).mono ?_
      rintro e w3 ⟨rfl, hx3⟩
      have c0 := (Below.block hx3 w.heap.size (by omega)).trans c0
      have c1 := (Below.block hx3 (w.heap.size + 1) (by omega)).trans c1
      have c2 := (Below.block hx3 w1.heap.size (by omega)).trans b2
      have HX3 := Lib.hid (HX2.out.trans hx3)
      have hlt3 : w1.heap.size < w3.heap.size := by have := Ext.size hx3; omega
      have hgt : ¬ ((at_ + (S.length + 1) : Nat) : Int) - (at_ : Int) < 1 + (sz : Int) := by omega
      clear hx3 y0 y1 y2 y3 z0 z1 z2 z3 b2
      obtain ⟨ob, hob⟩ : ∃ ob, ob = w1.heap.size := ⟨_, rfl⟩
      rw [← hob] at c2 hlt3 hltb ⊢
      have hlo : w.heap.size + 1 < ob := by omega
      clear hob
      go_wp2_with fail
      have hE0 := OwnP.nil w3 (ob + 1) 29 1
      go_loopw [64] (fun i wr => ∃ (k : Nat) (v : Value), k ≤ sz ∧ i = .int .i64 k ∧ wr.heap[ob]? = some (.cells #[.int .i64 kd, .int .i64 tg, v, .string ⟨#[]⟩] 28 (0, 0)) ∧ OwnP wr (ob + 1) 29 v 1 ((S.map wordC).take k) ∧ wr.heap[w.heap.size]? = some (.cells #[pv, .int .i64 ba, .int .i64 ha, .int .i64 sp, .int .i64 tp] 94 (0, 0)) ∧ wr.heap[w.heap.size + 1]? = some (.cells #[.int .i64 0, .int .i64 0, .slice none 0 0, .string ⟨#[]⟩] 28 (0, 0)) ∧ Ext w wr ∧ ob < wr.heap.size) (fun i _ => sz - (intOf i).toNat)
      case atStart => exact ⟨0, _, Nat.zero_le _, rfl, c2, hE0, c0, c1, HX3.out, hlt3⟩
      case round =>
        obtain ⟨k, v, hk, rfl, hb, hown, hb0, hb1, hx, hlr⟩ := hrel
        have HX := Lib.hid hx
        have HOW := Lib.hid hown
        obtain ⟨x0, x1, x2, x3, x4⟩ := cells5 hb0
        obtain ⟨z0, z1, z2, z3⟩ := cells4 hb
        clear hx hown c0 c1 c2 hE0 hlt3
        by_cases hlt : k < sz
        · have hkS : k < S.length := by omega
          have i1 : (k : Int) < 1 + (sz : Int) - 1 := by omega
          obtain ⟨x, hxk⟩ : ∃ x, S[k]? = some x := ⟨_, List.getElem?_eq_getElem hkS⟩
          have HW := HR'.out (k + 1) x (by simpa using hxk) wr HX.out
          rw [show ((at_ + (k + 1) : Nat) : Int) = (at_ : Int) + 1 + (k : Int) by omega] at HW
          have HW := Lib.hid HW
          have HK := Lib.hid hxk
          clear hxk
          go_wp2_with fail
          refine HW.out.mono ?_
          rintro e w4 ⟨rfl, hx4⟩
          have hb0 := (Below.block hx4 w.heap.size (by have := HX.out.size; omega)).trans hb0
          have hb1 := (Below.block hx4 (w.heap.size + 1) (by omega)).trans hb1
          have hb := (Below.block hx4 ob (by omega)).trans hb
          have HOW4 := Lib.hid (HOW.out.ext hx4)
          have HX4 := Lib.hid (HX.out.trans hx4)
          have hlr4 : ob < w4.heap.size := by have := Ext.size hx4; omega
          clear hx4 x0 x1 x2 x3 x4 z0 z1 z2 z3
          obtain ⟨z0, z1, z2, z3⟩ := cells4 hb
          have f2 := free_at hb (i := 2)
          have hlen : ((S.map wordC).take k).length = k := by rw [List.length_take, List.length_map]; omega
          obtain ⟨qv, cv, hv, _, _⟩ := HOW4.out.len
          rw [hlen] at hv
          subst hv
          have HLN := Lib.hid hlen
          clear hlen
          go_wp2_with (refine wpList_append_rows E64 (by rfl) _ _ (by rfl) (ob + 1) (.slice qv k cv) (.slice (some ⟨w4.heap.size, 0, none⟩) 1 1) ((S.map wordC).take k) [[.int .u64 x]] (by rfl) (HOW4.out.ext (Ext.alloc _ _)) (by rfl) (rows_of_block (cs := #[.int .u64 x]) (heap_alloc_new _ _) rfl (by intro u hu; simp at hu; subst hu; rfl)) (by rw [HLN.out]; simp; unfold maxLen; omega) (by rw [HLN.out]; simp; omega) (by simp; omega) ?_)
          intro v2 w5 ho2 hg2 _ _
          have hB5 : Below (ob + 1) w4 w5 := Below.grown (Below.alloc (Below.refl _ _) (by omega) _) hg2 (by simp; omega) (fun b hb => (HOW4.out.own b hb).1)
          have hb0 := (Below.block hB5 w.heap.size (by omega)).trans hb0
          have hb1 := (Below.block hB5 (w.heap.size + 1) (by omega)).trans hb1
          have hb := (Below.block hB5 ob (by omega)).trans hb
          have HX5 := Lib.hid (HX4.out.go hB5 (by omega))
          have hlr5 : ob < w5.heap.size := by have := Below.size hB5; omega
          obtain ⟨q2, cv2, hv2, _, _⟩ := ho2.len
          rw [List.length_append, HLN.out] at hv2
          change v2 = .slice q2 (k + 1) cv2 at hv2
          subst hv2
          have hq := fill1 (i := 2) hb (.slice q2 (k + 1) cv2)
          have hst : (S.map wordC).take k ++ [[.int .u64 x]] = (S.map wordC).take (k + 1) := by rw [List.take_succ_eq_append_getElem (by simpa using hkS), ← (List.getElem?_eq_some_iff.1 HK.out).2, List.getElem_map]; rfl
          have HQ := Lib.hid hq
          have HST := Lib.hid hst
          have HO2 := Lib.hid ho2
          clear ho2 hg2 hB5 hq hst z0 z1 z2 z3 f2
          obtain ⟨z0, z1, z2, z3⟩ := cells4 hb
          have f2 := free_at hb (i := 2)
          go_wp2
          obtain ⟨g1, g2, g3⟩ := HQ.out
          refine ⟨⟨k + 1, _, by omega, by go_num, g1, ?_, (g2.block _ (by omega) (by simp; omega)).trans hb0, (g2.block _ (by omega) (by simp; omega)).trans hb1, Turn.after HX5.out g2 (by simp; omega), by omega⟩, by simp [intOf]; omega⟩
          rw [← HST.out]
          exact HO2.out.turn g2 (fun b hb => by have := (HO2.out.own b hb).1; simp; omega)
        · obtain rfl : k = sz := by omega
          have i1 : ¬ (k : Int) < 1 + (k : Int) - 1 := by omega
          have hlen : ((S.map wordC).take k).length = k := by rw [List.length_take, List.length_map]; omega
          obtain ⟨qv, cv, hv, _, _⟩ := HOW.out.len
          rw [hlen] at hv
          subst hv
          clear hlen
          have HM2 := Lib.hid (fun W => may_is kd tg k cv qv ⟨#[]⟩ W (by omega))
          have hz : (⟨#[]⟩ : ByteArray).size = 0 := rfl
          rw [hz] at HM2
          generalize hmm : mayK kd tg k 0 = mm at HM2
          have HMM := Lib.hid hmm
          clear hmm hz
          go_wp2_with fail
          refine (HM2.out _).mono ?_
          rintro e w4 ⟨rfl, hx4⟩
          have hb1 := (Below.block hx4 (w.heap.size + 1) (by omega)).trans hb1
          have hb := (Below.block hx4 ob (by omega)).trans hb
          have HOW4 := Lib.hid (HOW.out.ext hx4)
          have HX4 := Lib.hid (HX.out.trans hx4)
          clear hx4 x0 x1 x2 x3 x4 z0 z1 z2 z3
          obtain ⟨z0, z1, z2, z3⟩ := cells4 hb
          obtain ⟨y0, y1, y2, y3⟩ := cells4 hb1
          have f0 := free_at hb1 (i := 0)
          have f1 := free_at hb1 (i := 1)
          have f2 := free_at hb1 (i := 2)
          have f3 := free_at hb1 (i := 3)
          cases mm
          · go_wp2
            refine post_fill4 hb1 fun W3 hb1 hT hS3 => ?_
            obtain ⟨y0, y1, y2, y3⟩ := cells4 hb1
            refine bodyPost_ret (v := .tuple #[zeroOV, .int .i64 0]) (by simp [results, Try.results63, go_sem, y0, y1, y2, y3, zeroOV]; rfl) rfl ?_
            rw [← HRR.out, if_neg (fun h => by rw [HMM.out] at h; cases h.2.2)]
            exact ⟨rfl, Turn.after HX4.out hT (by simp)⟩
          · go_wp2
            refine post_fill4 hb1 fun W3 hb1 hT hS3 => ?_
            obtain ⟨y0, y1, y2, y3⟩ := cells4 hb1
            refine bodyPost_ret (v := .tuple #[.agg #[.int .i64 kd, .int .i64 tg, .slice qv k cv, .string ⟨#[]⟩], .int .i64 (1 + (k : Int))]) (by simp [results, Try.results63, go_sem, y0, y1, y2, y3]) rfl ?_
            rw [← HRR.out, if_pos ⟨hs4, hsl, HMM.out⟩]
            have hlen : (S.take k).length = k := by rw [List.length_take]; omega
            refine ⟨qv, cv, ?_, ?_, Turn.after HX4.out hT (by simp)⟩
            · dsimp only
              rw [hlen]
              have hn2 : (kd = 2) = False := eq_false (by intro h; rw [h] at k2; simp at k2)
              have : ((wordsO ⟨kd, tg, S.take k, ByteArray.empty⟩ : Nat) : Int) = 1 + (k : Int) := by
                unfold wordsO bodyK
                dsimp only
                rw [if_neg (by rw [hn2]; exact id), hlen]
                omega
              rw [this]
              rfl
            · dsimp only
              rw [hlen, List.map_take]
              exact (HOW4.out.turn hT (fun b hb => by have := (HOW4.out.own b hb).1; simp; omega)).mono (by omega)
    · rw [if_neg (fun h => hsl h.2.1)]
      have HR0 := Lib.hid (by simpa only [Nat.add_zero] using HR0.out)
      clear HR' hk2 k2'
      have i1 : ¬ (400 : Int) < (sz : Int) := by omega
      have b1 : decide ((400 : Int) < (sz : Int)) = false := decide_eq_false i1
      have HM := Lib.hid (fun W => row_words (l : Int) mo top (sz : Int) W)
      have hm2 := mr_words
      go_enter Try.func63, Try.ntmps63
      go_upto_region 1 with fail
      refine wp_alloc2 fun W hE hS b0 b1 => ?_
      obtain ⟨x0, x1, x2, x3, x4⟩ := cells5 b0
      go_wp2_with fail
      refine (HR0.out W hE).mono ?_
      rintro e w1 ⟨rfl, hx⟩
      have c0 := (Below.block hx w.heap.size (by omega)).trans b0
      have c1 := (Below.block hx (w.heap.size + 1) (by omega)).trans b1
      have HX := Lib.hid (hE.trans hx)
      have hlt : w.heap.size + 1 < w1.heap.size := by have := Ext.size hx; omega
      have HS := Lib.hid hS
      clear hS hx hE b0 b1 x0 x1 x2 x3 x4
      go_wp2_with fail
      refine at_alloc1 fun W2 hE2 hS2 b2 => ?_
      refine (of_is _ _).mono ?_
      rintro e w3 ⟨rfl, rfl⟩
      rw [HN.out]
      have c0 := (Below.block hE2 w.heap.size (by omega)).trans c0
      have c1 := (Below.block hE2 (w.heap.size + 1) (by omega)).trans c1
      have HX2 := Lib.hid (HX.out.trans hE2)
      have hlt : w.heap.size + 1 < W2.heap.size := by omega
      clear hE2 hS2
      obtain ⟨y0, y1, y2, y3⟩ := cells4 c1
      obtain ⟨z0, z1, z2, z3⟩ := cells4 b2
      go_wp2_with fail
      refine (HM.out _).mono ?_
      rintro e w3 ⟨rfl, hx3⟩
      have c1 := (Below.block hx3 (w.heap.size + 1) (by omega)).trans c1
      have HX3 := Lib.hid (HX2.out.trans hx3)
      clear hx3 y0 y1 y2 y3 z0 z1 z2 z3 c0 b2
      obtain ⟨y0, y1, y2, y3⟩ := cells4 c1
      have f0 := free_at c1 (i := 0)
      have f1 := free_at c1 (i := 1)
      have f2 := free_at c1 (i := 2)
      have f3 := free_at c1 (i := 3)
      have hgt : ((at_ + (S.length + 1) : Nat) : Int) - (at_ : Int) < 1 + (sz : Int) := by omega
      go_wp2
      refine post_fill4 c1 fun W3 c1 hT hS3 => ?_
      obtain ⟨y0, y1, y2, y3⟩ := cells4 c1
      refine bodyPost_ret (v := .tuple #[zeroOV, .int .i64 0]) (by simp [results, Try.results63, go_sem, y0, y1, y2, y3, zeroOV]; rfl) rfl ⟨rfl, ?_⟩
      exact Turn.after HX3.out hT (by simp)
  · rw [if_neg (fun h => hs4 h.1)]
    have HR0 := Lib.hid (by simpa only [Nat.add_zero] using HR0.out)
    clear HR' hk2 k2'
    have i1 : (400 : Int) < (sz : Int) := by omega
    have b1 : decide ((400 : Int) < (sz : Int)) = true := decide_eq_true i1
    go_enter Try.func63, Try.ntmps63
    go_upto_region 1 with fail
    refine wp_alloc2 fun W hE hS b0 b1 => ?_
    obtain ⟨x0, x1, x2, x3, x4⟩ := cells5 b0
    go_wp2_with fail
    refine (HR0.out W hE).mono ?_
    rintro e w1 ⟨rfl, hx⟩
    have c0 := (Below.block hx w.heap.size (by omega)).trans b0
    have c1 := (Below.block hx (w.heap.size + 1) (by omega)).trans b1
    have HX := Lib.hid (hE.trans hx)
    have hlt : w.heap.size + 1 < w1.heap.size := by have := Ext.size hx; omega
    have HS := Lib.hid hS
    clear hS hx hE b0 b1 x0 x1 x2 x3 x4
    go_wp2_with fail
    refine at_alloc1 fun W2 hE2 hS2 b2 => ?_
    refine (of_is _ _).mono ?_
    rintro e w3 ⟨rfl, rfl⟩
    rw [HN.out]
    have c1 := (Below.block hE2 (w.heap.size + 1) (by omega)).trans c1
    have HX2 := Lib.hid (HX.out.trans hE2)
    have hlt : w.heap.size + 1 < W2.heap.size := by omega
    clear hE2 hS2 c0 b2
    obtain ⟨y0, y1, y2, y3⟩ := cells4 c1
    have f0 := free_at c1 (i := 0)
    have f1 := free_at c1 (i := 1)
    have f2 := free_at c1 (i := 2)
    have f3 := free_at c1 (i := 3)
    go_wp2
    refine post_fill4 c1 fun W3 c1 hT hS3 => ?_
    obtain ⟨y0, y1, y2, y3⟩ := cells4 c1
    refine bodyPost_ret (v := .tuple #[zeroOV, .int .i64 0]) (by simp [results, Try.results63, go_sem, y0, y1, y2, y3, zeroOV]; rfl) rfl ⟨rfl, ?_⟩
    exact Turn.after HX2.out hT (by simp)
end Go.Proofs.Ytlffmcadchbheaa
/- Slices of bytes of the call's own; a slice's tail. -/
namespace Go.Proofs.Ytlffmcadchbheaa
open Go.RowKit
def byteC (c : UInt8) : List Value := [.int .u8 (c.toNat : Int)]
theorem E8 : ElemT Try.prog 122 5 1 1 := ⟨Try.underlying122, ⟨.int .u8 0, by kernel_rfl, rfl⟩, by decide⟩
theorem byteC_rows (S : List UInt8) : Rows1 1 (S.map byteC) := by
  intro cs hm
  obtain ⟨x, _, rfl⟩ := List.mem_map.1 hm
  exact ⟨rfl, fun u hu => by rw [List.mem_singleton.1 hu]; rfl⟩
theorem byteC_flat (S : List UInt8) : (S.map byteC).flatten = S.map fun x => Value.int .u8 (x.toNat : Int) := by
  induction S with
  | nil => rfl
  | cons x S ih => rw [List.map_cons, List.flatten_cons, ih]; rfl
/-- string(b) -/
theorem RowsP.string {w : World} {v : Value} {S : List UInt8} (h : RowsP w v 1 (S.map byteC)) : (convert 122 9 v).run Try.prog w = .ok (.string ⟨S.toArray⟩) w := by
  obtain ⟨_, h2⟩ := h
  have hnil : ∀ (q : Option Addr) (c : Nat), (convert 122 9 (.slice q 0 c)).run Try.prog w = .ok (.string ⟨#[]⟩) w := by
    intro q c
    cases q with
    | none => exact run_convert_bytes_nil (P := Try.prog) w 122 5 Try.underlying122 Try.underlying5 0 c 9 Try.underlying9
    | some a => exact run_convert_bytes_back w 122 9 5 a c [] Try.underlying122 Try.underlying5 Try.underlying9 (fun j hj => by simp at hj)
  rcases h2 with ⟨hE, hS⟩ | ⟨b, off, c, rfl, h4, h5, h6⟩
  · obtain rfl : S = [] := by simpa using hS
    rcases hE with rfl | ⟨a, c, rfl, _⟩
    · exact hnil _ _
    · exact hnil _ _
  · rw [List.length_map]
    refine run_convert_bytes_back w 122 9 5 ⟨b, off, none⟩ c S Try.underlying122 Try.underlying5 Try.underlying9 (fun j hj => ?_)
    rw [Go.WideShapes.add_plain]
    refine h6 j _ ?_
    rw [byteC_flat]
    simp [hj]
/-- a part of a slice of one-cell elements -/
theorem RowsP.cut {P : Program} {ST T : TypeId} {bytes : Nat} (E : ElemT P ST T 1 bytes) {w : World} {q : Option Addr} {n c lo hi : Nat} {l : List (List Value)} (h : RowsP w (.slice q n c) 1 l) (h1 : lo ≤ hi) (h2 : hi ≤ n) :
    ∃ q', (∀ W, (Instr.slice ST (.slice q n c) (some (.int .i64 lo)) (some (.int .i64 hi)) none).run P W = .ok (.slice q' (hi - lo) (c - lo)) W) ∧ RowsP w (.slice q' (hi - lo) (c - lo)) 1 ((l.drop lo).take (hi - lo)) := by
  obtain ⟨z, hinfo, _⟩ := E.info
  obtain ⟨i0, hi0, hz0, hz1, hz2⟩ := info_parts hinfo
  obtain ⟨q2, c2, he, h4, h5, _⟩ := h.at
  obtain ⟨rfl, rfl, rfl⟩ := Value.slice.inj he
  have hel : P.elem ST = T := by simp [Program.elem, E.under]
  have hsz : ∀ W, (sizeOf (P.elem ST)).run P W = .ok 1 W := fun W => by rw [hel]; simp [sizeOf, typeInfo, hi0, hz1]
  have hrun : ∀ W, (Instr.slice ST (.slice q l.length c) (some (.int .i64 lo)) (some (.int .i64 hi)) none).run P W = .ok (.slice (if c = lo then q else q.map (·.add lo)) (hi - lo) (c - lo)) W := fun W => by
    rw [run_slice_lh W ST q l.length c (by rw [hel]; exact E.under) .i64 .i64 lo hi (by omega) (by omega) (by omega), hsz]
    simp [sliced]
  refine ⟨_, hrun, (h.1.drop lo).take _, ?_⟩
  have hlen : ((l.drop lo).take (hi - lo)).length = hi - lo := by rw [List.length_take, List.length_drop]; omega
  by_cases hz : hi = lo
  · subst hz
    refine .inl ⟨?_, by simp⟩
    rcases h.2 with ⟨hE, hS⟩ | ⟨b, off, c', he, _⟩
    · rcases hE with he | ⟨a, c', he, hc⟩
      · obtain ⟨rfl, _, rfl⟩ := Value.slice.inj he
        left; simp
      · obtain ⟨rfl, _, rfl⟩ := Value.slice.inj he
        right
        refine ⟨if c = hi then a else a.add hi, c - hi, ?_, by omega⟩
        by_cases h0 : c = hi <;> simp [h0]
    · obtain ⟨rfl, _, rfl⟩ := Value.slice.inj he
      right
      refine ⟨if c = hi then ⟨b, off, none⟩ else (⟨b, off, none⟩ : Addr).add hi, c - hi, ?_, by omega⟩
      by_cases h0 : c = hi <;> simp [h0]
  · rcases h.2 with ⟨hE, hS⟩ | ⟨b, off, c', he, _, _, h6⟩
    · rw [hS] at h2; simp at h2; omega
    · obtain ⟨rfl, _, rfl⟩ := Value.slice.inj he
      refine .inr ⟨b, off + lo, c - lo, ?_, by rw [hlen]; omega, by omega, fun j u hj => ?_⟩
      · rw [if_neg (by omega), hlen, Option.map_some, Go.WideShapes.add_plain]
      · rw [← Nat.mul_one (hi - lo), ← Nat.mul_one (hi - lo)] at hj
        have hj2 : ((l.drop lo).take (hi - lo)).flatten = (l.flatten.drop lo).take (hi - lo) := by
          rw [flat_take (h.1.drop lo), flat1_drop h.1, Nat.mul_one]
        rw [Nat.mul_one, Nat.mul_one, hj2] at hj
        have hjl : j < hi - lo := by
          have := (List.getElem?_eq_some_iff.1 hj).1
          rw [List.length_take] at this
          omega
        rw [List.getElem?_take_of_lt hjl, List.getElem?_drop] at hj
        rw [Nat.add_assoc]
        exact h6 _ _ hj
theorem mk_u8s (k : Nat) (hk : k ≤ 1000000) (W : World) : (Instr.makeSlice 122 (.int .i64 k) (.int .i64 k)).run Try.prog W = .ok (.slice (some ⟨W.heap.size, 0, none⟩) k k) (W.alloc (.cells (madeCells #[.int .u8 0] k) 5)) := by
  obtain ⟨i0, hi, hz0, hz1, hz2⟩ := info_parts (show (Try.prog.info? 5).map (fun i => (i.zero, i.size, i.bytes)) = some (some (.int .u8 0), 1, 1) by kernel_rfl)
  have h := run_makeSlice (P := Try.prog) (w := W) 122 5 i0 (.int .u8 0) Try.underlying122 hi hz0 .i64 .i64 (k : Int) (k : Int) (by omega) (by omega) (by rw [hz1]; omega) (by rw [hz2]; omega) (by omega)
  rw [hz1, Nat.mul_one] at h
  exact h
theorem empty_own (w : World) (T : TypeId) (s base : Nat) (hb : base ≤ w.heap.size) : OwnP (w.alloc (.cells #[] T)) base T (.slice (some ⟨w.heap.size, 0, none⟩) 0 0) s [] :=
  OwnP.of_form (l := []) (fun _ h => by cases h) hb (heap_alloc_new w _) (Nat.le_refl _) (Nat.zero_le _) (by simp) (by simp)
/-- the tail of a slice of one-cell elements -/
theorem RowsP.tail {P : Program} {ST T : TypeId} {bytes : Nat} (E : ElemT P ST T 1 bytes) {w : World} {q : Option Addr} {n c k : Nat} {l : List (List Value)} (h : RowsP w (.slice q n c) 1 l) (hk : k ≤ n) :
    ∃ q', (∀ W, (Instr.slice ST (.slice q n c) (some (.int .i64 k)) none none).run P W = .ok (.slice q' (n - k) (c - k)) W) ∧ RowsP w (.slice q' (n - k) (c - k)) 1 (l.drop k) ∧ n = l.length ∧ n ≤ maxLen := by
  obtain ⟨z, hinfo, _⟩ := E.info
  obtain ⟨i0, hi, hz0, hz1, hz2⟩ := info_parts hinfo
  have hel : P.elem ST = T := by simp [Program.elem, E.under]
  have hsz : ∀ W, (sizeOf (P.elem ST)).run P W = .ok 1 W := fun W => by rw [hel]; simp [sizeOf, typeInfo, hi, hz1]
  have hrun : ∀ W, (Instr.slice ST (.slice q n c) (some (.int .i64 k)) none none).run P W = .ok (.slice (if c = k then q else q.map (·.add k)) (n - k) (c - k)) W := fun W => by
    rw [run_slice_l W ST q n c (by rw [hel]; exact E.under) .i64 k (by omega) (by omega), hsz]
    simp [sliced]
  refine ⟨_, hrun, ⟨h.1.drop k, ?_⟩, ?_⟩
  · rcases h.2 with ⟨hE, hS⟩ | ⟨b, off, c', he, h4, h5, h6⟩
    · subst hS
      refine .inl ⟨?_, by simp⟩
      rcases hE with he | ⟨a, c', he, hc⟩
      · obtain ⟨rfl, rfl, rfl⟩ := Value.slice.inj he
        left
        simp
      · obtain ⟨rfl, rfl, rfl⟩ := Value.slice.inj he
        right
        obtain rfl : k = 0 := by omega
        refine ⟨if c = 0 then a else a.add 0, c, ?_, hc⟩
        by_cases h0 : c = 0 <;> simp [h0]
    · obtain ⟨rfl, rfl, rfl⟩ := Value.slice.inj he
      by_cases hlk : l.length = k
      · refine .inl ⟨.inr ⟨if c = k then ⟨b, off, none⟩ else (⟨b, off, none⟩ : Addr).add k, c - k, ?_, by omega⟩, by rw [List.drop_of_length_le (by omega)]⟩
        by_cases h0 : c = k <;> simp [h0, hlk]
      · refine .inr ⟨b, off + k, c - k, ?_, by rw [List.length_drop]; omega, by omega, fun j u hj => ?_⟩
        · rw [if_neg (by omega), List.length_drop, Option.map_some, Go.WideShapes.add_plain]
        · rw [flat1_drop h.1, List.getElem?_drop] at hj
          rw [Nat.add_assoc]
          exact h6 _ _ hj
  · obtain ⟨q2, c2, he, h4, h5, _⟩ := h.at
    obtain ⟨rfl, rfl, rfl⟩ := Value.slice.inj he
    exact ⟨rfl, by omega⟩
end Go.Proofs.Ytlffmcadchbheaa
/- An object is read out of a heap's words (the program's): texts. -/
namespace Go.Proofs.Ytlffmcadchbheaa
open Go.RowKit Go.Maps Arena
set_option maxHeartbeats 4000000
set_option maxRecDepth 100000
def byteAt (x : Int) (j : Nat) : UInt8 := UInt8.ofNat (x.toNat / 256 ^ j % 256)
theorem bytes8_take (x : Int) {j : Nat} (hj : j < 8) : (bytes8 x).take (j + 1) = (bytes8 x).take j ++ [byteAt x j] := by
  rw [List.take_succ_eq_append_getElem (by simpa [bytes8] using hj)]
  simp [bytes8, byteAt]
theorem bytes8_len (x : Int) : (bytes8 x).length = 8 := by simp [bytes8]
theorem bytesOf_len (W : List Int) : (bytesOf W).length = 8 * W.length := by
  induction W with
  | nil => rfl
  | cons x W ih => rw [bytesOf, List.flatMap_cons, List.length_append, bytes8_len, ← bytesOf, ih, List.length_cons]; omega
theorem bytesOf_take {S : List Int} {k : Nat} {x : Int} (h : S[k]? = some x) : bytesOf (S.take (k + 1)) = bytesOf (S.take k) ++ bytes8 x := by
  obtain ⟨hk, he⟩ := List.getElem?_eq_some_iff.1 h
  rw [List.take_succ_eq_append_getElem hk, he]
  simp [bytesOf]
/-- the bytes of the first k words; and j of the next one's -/
def bsR (S : List Int) (k : Nat) : List (List Value) := (bytesOf (S.take k)).map byteC
def bsJ (S : List Int) (k : Nat) (x : Int) (j : Nat) : List (List Value) := (bytesOf (S.take k) ++ (bytes8 x).take j).map byteC
theorem bsR_len {S : List Int} {k : Nat} (h : k ≤ S.length) : (bsR S k).length = 8 * k := by rw [bsR, List.length_map, bytesOf_len, List.length_take]; omega
theorem bsJ_len {S : List Int} {k j : Nat} {x : Int} (h : k ≤ S.length) (hj : j ≤ 8) : (bsJ S k x j).length = 8 * k + j := by rw [bsJ, List.length_map, List.length_append, bytesOf_len, List.length_take, List.length_take, bytes8_len]; omega
theorem bsJ_zero (S : List Int) (k : Nat) (x : Int) : bsJ S k x 0 = bsR S k := by simp [bsJ, bsR]
theorem bsJ_step (S : List Int) (k : Nat) (x : Int) {j : Nat} (hj : j < 8) : bsJ S k x (j + 1) = bsJ S k x j ++ [byteC (byteAt x j)] := by
  rw [bsJ, bytes8_take x hj, ← List.append_assoc, List.map_append]; rfl
theorem bsJ_8 {S : List Int} {k : Nat} {x : Int} (h : S[k]? = some x) : bsJ S k x 8 = bsR S (k + 1) := by
  rw [bsJ, bsR, bytesOf_take h, List.take_of_length_le (l := bytes8 x) (by rw [bytes8_len]; omega)]
theorem bsR_zero (S : List Int) : bsR S 0 = [] := rfl
theorem byteAt_is {x : Int} (hx : W64 x) (j : Nat) : x / 2 ^ (8 * j) % 256 = ((byteAt x j).toNat : Int) := by
  obtain ⟨n, rfl⟩ := Int.eq_ofNat_of_zero_le hx.1
  have e : (2 : Int) ^ (8 * j) = ((256 ^ j : Nat) : Int) := by rw [Int.pow_mul]; simp
  rw [e]
  simp [byteAt]
theorem read_text (pv : Value) (ba ha sp tp : Int) (at_ : Nat) (tg : Int) (sz : Nat) (hd : Int) (S : List Int) (hw : W64 hd) (w : World) (hSW : ∀ x ∈ S, W64 x)
    (HR : ∀ (i : Nat) (x : Int), (hd :: S)[i]? = some x → ∀ W, Ext w W → Calls Try.prog 71 #[.agg #[pv, .int .i64 ba, .int .i64 ha, .int .i64 sp, .int .i64 tp], .int .i64 ((at_ + i : Nat) : Int)] W fun e w' => e = .returned (.int .u64 x) ∧ Ext W w') (_hp : pv.oneCell' = true)
    (d1 : hd % 256 = 2) (d2 : hd / 256 % 16777216 = tg) (d3 : hd / 4294967296 = sz) (hat : at_ ≤ 100000) (hSl : S.length ≤ 100000) :
    Calls Try.prog 63 #[.agg #[pv, .int .i64 ba, .int .i64 ha, .int .i64 sp, .int .i64 tp], .int .i64 at_, .int .i64 ((at_ + (S.length + 1) : Nat) : Int)] w (ReadSaid (if sz ≤ 400 ∧ (sz + 7) / 8 ≤ S.length ∧ ((bytesOf (S.take ((sz + 7) / 8))).drop sz).all (· == 0) = true ∧ mayK 2 tg 0 sz = true then some ⟨2, tg, [], ⟨((bytesOf (S.take ((sz + 7) / 8))).take sz).toArray⟩⟩ else none) w) := by
  obtain ⟨m, hm⟩ : ∃ m : Nat, m = (sz + 7) / 8 := ⟨_, rfl⟩
  rw [← hm]
  have HMD := Lib.hid hm
  have hm8 : sz ≤ 8 * m := by omega
  have hm8' : 8 * m ≤ sz + 7 := by omega
  have HT : Hid (∀ W, sz ≤ 400 → Calls Try.prog 118 #[.agg #[], .int .i64 sz] W fun e w' => e = .returned (.int .i64 (m : Int)) ∧ Ext W w') := Lib.hid (fun W h => by rw [hm]; exact text_words sz W h)
  clear hm
  have HR' := Lib.hid HR
  have HR0 := Lib.hid (HR 0 hd rfl)
  have HN := Lib.hid (show ofV 2 = .iface 120 (.agg #[]) from rfl)
  clear HR
  have e1 := and_255 hw
  have e2 : bits .and .u64 (hd / 256) 16777215 = tg := by rw [and_tag ⟨by have := hw.1; omega, by have := hw.2; omega⟩]; exact d2
  have t2 : 0 ≤ tg ∧ tg ≤ 16777215 := by omega
  have t3 : sz ≤ 4294967295 := by have := hw.2; omega
  obtain ⟨t2, t2'⟩ := t2
  clear d2 hw
  rw [d1] at e1
  by_cases hs4 : sz ≤ 400
  · by_cases hsl : m ≤ S.length
    · generalize hRR : (if sz ≤ 400 ∧ m ≤ S.length ∧ ((bytesOf (S.take m)).drop sz).all (· == 0) = true ∧ mayK 2 tg 0 sz = true then some (⟨2, tg, [], ⟨((bytesOf (S.take m)).take sz).toArray⟩⟩ : Ob) else none) = RR
      have HRR := Lib.hid hRR
      clear hRR
      have HR0 := Lib.hid (by simpa only [Nat.add_zero] using HR0.out)
      have i1 : ¬ (400 : Int) < (sz : Int) := by omega
      have b1 : decide ((400 : Int) < (sz : Int)) = false := decide_eq_false i1
      have HM := Lib.hid (fun W => HT.out W hs4)
      have hm2 := mt_words
      have hm3 := nt_words
      go_enter Try.func63, Try.ntmps63
      go_upto_region 1 with fail
      refine wp_alloc2 fun W hE hS b0 b1 => ?_
      obtain ⟨x0, x1, x2, x3, x4⟩ := cells5 b0
      go_wp2_with fail
      refine (HR0.out W hE).mono ?_
      rintro e w1 ⟨rfl, hx⟩
      have c0 := (Below.block hx w.heap.size (by omega)).trans b0
      have c1 := (Below.block hx (w.heap.size + 1) (by omega)).trans b1
      have HX := Lib.hid (hE.trans hx)
      have hlt : w.heap.size + 1 < w1.heap.size := by have := Ext.size hx; omega
      have HS := Lib.hid hS
      clear hS hx hE b0 b1 x0 x1 x2 x3 x4
      go_wp2_with fail
      refine at_alloc1 fun W2 hE2 hS2 b2 => ?_
      refine (of_is _ _).mono ?_
      rintro e w3 ⟨rfl, rfl⟩
      rw [HN.out]
      have c0 := (Below.block hE2 w.heap.size (by omega)).trans c0
      have c1 := (Below.block hE2 (w.heap.size + 1) (by omega)).trans c1
      have HX2 := Lib.hid (HX.out.trans hE2)
      have hlt : w.heap.size + 1 < W2.heap.size := by omega
      have hltb : w1.heap.size < W2.heap.size := by omega
      clear hE2 hS2
      obtain ⟨y0, y1, y2, y3⟩ := cells4 c1
      obtain ⟨z0, z1, z2, z3⟩ := cells4 b2
      go_wp2_with fail
      refine (HM.out _).mono ?_
      rintro e w3 ⟨rfl, hx3⟩
      have c0 := (Below.block hx3 w.heap.size (by omega)).trans c0
      have c1 := (Below.block hx3 (w.heap.size + 1) (by omega)).trans c1
      have c2 := (Below.block hx3 w1.heap.size (by omega)).trans b2
      have HX3 := Lib.hid (HX2.out.trans hx3)
      have hlt3 : w1.heap.size < w3.heap.size := by have := Ext.size hx3; omega
      have hgt : ¬ ((at_ + (S.length + 1) : Nat) : Int) - (at_ : Int) < 1 + (m : Int) := by omega
      clear hx3 y0 y1 y2 y3 z0 z1 z2 z3 b2
      obtain ⟨ob, hob⟩ : ∃ ob, ob = w1.heap.size := ⟨_, rfl⟩
      rw [← hob] at c2 hlt3 hltb ⊢
      have hlo : w.heap.size + 1 < ob := by omega
      clear hob
      go_wp2_with fail
      have hE0 := OwnP.nil w3 (ob + 1) 5 1
      rw [← bsR_zero S] at hE0
      go_loopw [13, 64] (fun v i wr => ∃ k : Nat, k ≤ m ∧ i = .int .i64 k ∧ OwnP wr (ob + 1) 5 v 1 (bsR S k) ∧ wr.heap[ob]? = some (.cells #[.int .i64 2, .int .i64 tg, .slice none 0 0, .string ⟨#[]⟩] 28 (0, 0)) ∧ wr.heap[w.heap.size]? = some (.cells #[pv, .int .i64 ba, .int .i64 ha, .int .i64 sp, .int .i64 tp] 94 (0, 0)) ∧ wr.heap[w.heap.size + 1]? = some (.cells #[.int .i64 0, .int .i64 0, .slice none 0 0, .string ⟨#[]⟩] 28 (0, 0)) ∧ Ext w wr ∧ ob < wr.heap.size) (fun _ i _ => m - (intOf i).toNat)
      case atStart => exact ⟨0, Nat.zero_le _, rfl, hE0, c2, c0, c1, HX3.out, hlt3⟩
      case round =>
        obtain ⟨k, hk, rfl, hown, hb, hb0, hb1, hx, hlr⟩ := hrel
        have HX := Lib.hid hx
        have HOW := Lib.hid hown
        obtain ⟨x0, x1, x2, x3, x4⟩ := cells5 hb0
        obtain ⟨z0, z1, z2, z3⟩ := cells4 hb
        clear hx hown c0 c1 c2 hE0 hlt3
        by_cases hlt : k < m
        · have hkS : k < S.length := by omega
          have i1 : (k : Int) < 1 + (m : Int) - 1 := by omega
          obtain ⟨x, hxk⟩ : ∃ x, S[k]? = some x := ⟨_, List.getElem?_eq_getElem hkS⟩
          have HW := HR'.out (k + 1) x (by simpa using hxk) wr HX.out
          rw [show ((at_ + (k + 1) : Nat) : Int) = (at_ : Int) + 1 + (k : Int) by omega] at HW
          have HW := Lib.hid HW
          have HK := Lib.hid hxk
          have HW6 := Lib.hid (hSW x (List.mem_of_getElem? hxk))
          clear hxk
          go_wp2_with fail
          refine HW.out.mono ?_
          rintro e w4 ⟨rfl, hx4⟩
          have k0 := (Below.block hx4 w.heap.size (by have := HX.out.size; omega)).trans hb0
          have k1 := (Below.block hx4 (w.heap.size + 1) (by omega)).trans hb1
          have k2 := (Below.block hx4 ob (by omega)).trans hb
          have HOW4 := Lib.hid (HOW.out.ext hx4)
          have HX4 := Lib.hid (HX.out.trans hx4)
          have hlr4 : ob < w4.heap.size := by have := Ext.size hx4; omega
          clear hx4 x0 x1 x2 x3 x4 z0 z1 z2 z3 hb hb0 hb1 HOW HX HW hlr
          obtain ⟨z0, z1, z2, z3⟩ := cells4 k2
          go_wp2_with fail
          have hE1 := HOW4.out
          rw [← bsJ_zero S k x] at hE1
          go_loopw [13, 82] (fun v i wr => ∃ j : Nat, j ≤ 8 ∧ i = .int .i64 j ∧ OwnP wr (ob + 1) 5 v 1 (bsJ S k x j) ∧ wr.heap[ob]? = some (.cells #[.int .i64 2, .int .i64 tg, .slice none 0 0, .string ⟨#[]⟩] 28 (0, 0)) ∧ wr.heap[w.heap.size]? = some (.cells #[pv, .int .i64 ba, .int .i64 ha, .int .i64 sp, .int .i64 tp] 94 (0, 0)) ∧ wr.heap[w.heap.size + 1]? = some (.cells #[.int .i64 0, .int .i64 0, .slice none 0 0, .string ⟨#[]⟩] 28 (0, 0)) ∧ Ext w wr ∧ ob < wr.heap.size) (fun _ i _ => 8 - (intOf i).toNat)
          case atStart => exact ⟨0, Nat.zero_le _, rfl, hE1, k2, k0, k1, HX4.out, hlr4⟩
          case round =>
            obtain ⟨j, hj, rfl, hown, hb, hb0, hb1, hx, hlr⟩ := hrel
            have HXJ := Lib.hid hx
            have HOJ := Lib.hid hown
            clear hx hown hE1 k0 k1 k2 z0 z1 z2 z3 HOW4 HX4 hlr4
            by_cases hlt8 : j < 8
            · have i2 : (j : Int) < 8 := by omega
              obtain ⟨qv, cv, hv, _, _⟩ := HOJ.out.len
              rw [bsJ_len (by omega) (by omega)] at hv
              subst hv
              have hwr : x / 2 ^ (8 * j) % 256 = ((byteAt x j).toNat : Int) := byteAt_is HW6.out j
              obtain ⟨bt, hbt⟩ : ∃ bt, bt = byteAt x j := ⟨_, rfl⟩
              rw [← hbt] at hwr
              have HBT := Lib.hid hbt
              clear hbt
              go_wp2_with (refine wpList_append_rows E8 (by rfl) _ _ (by rfl) (ob + 1) (.slice qv (8 * k + j) cv) (.slice (some ⟨wr.heap.size, 0, none⟩) 1 1) (bsJ S k x j) [byteC bt] (by rfl) (HOJ.out.ext (Ext.alloc _ _)) (by rfl) (rows_of_block (cs := #[.int .u8 (bt.toNat : Int)]) (heap_alloc_new _ _) rfl (by intro u hu; simp at hu; subst hu; rfl)) (by rw [bsJ_len (by omega) (by omega)]; simp; unfold maxLen; omega) (by rw [bsJ_len (by omega) (by omega)]; simp; omega) (by simp; omega) ?_)
              intro v2 w5 ho2 hg2 _ _
              have hB5 : Below (ob + 1) wr w5 := Below.grown (Below.alloc (Below.refl _ _) (by omega) _) hg2 (by simp; omega) (fun b hb => (HOJ.out.own b hb).1)
              have k0 := (Below.block hB5 w.heap.size (by omega)).trans hb0
              have k1 := (Below.block hB5 (w.heap.size + 1) (by omega)).trans hb1
              have k2 := (Below.block hB5 ob (by omega)).trans hb
              have HX5 := Lib.hid (HXJ.out.go hB5 (by omega))
              have hlr5 : ob < w5.heap.size := by have := Below.size hB5; omega
              rw [HBT.out, ← bsJ_step S k x hlt8] at ho2
              have HO2 := Lib.hid ho2
              clear ho2 hg2 hB5 hb hb0 hb1 hwr
              go_wp2
              exact ⟨⟨j + 1, by omega, by go_num, HO2.out, k2, k0, k1, HX5.out, hlr5⟩, by simp [intOf]; omega⟩
            · obtain rfl : j = 8 := by omega
              have i2 : ¬ ((8 : Nat) : Int) < 8 := by omega
              have hown := HOJ.out
              rw [bsJ_8 HK.out] at hown
              have HOE := Lib.hid hown
              clear hown HOJ
              go_wp2
              exact ⟨⟨k + 1, by omega, by go_num, HOE.out, hb, hb0, hb1, HXJ.out, hlr⟩, by simp [intOf]; omega⟩
        · obtain rfl : k = m := by omega
          have i1 : ¬ (k : Int) < 1 + (k : Int) - 1 := by omega
          obtain ⟨qv, cv, hv, hcv, hcm⟩ := HOW.out.len
          rw [bsR_len hsl] at hv hcv
          subst hv
          obtain ⟨q', hrun, htl, hq1, hq2⟩ := HOW.out.p.tail E8 (k := sz) (by omega)
          clear hq1 hq2
          have hzl : (bytesOf (S.take k)).length = 8 * k := by rw [bytesOf_len, List.length_take]; omega
          obtain ⟨Z, hZ⟩ : ∃ Z, Z = (bytesOf (S.take k)).drop sz := ⟨_, rfl⟩
          have hZl : Z.length = 8 * k - sz := by rw [hZ, List.length_drop, hzl]
          have hzr : (bsR S k).drop sz = Z.map byteC := by rw [hZ, bsR, List.map_drop]
          rw [hzr] at htl
          rw [← hZ] at HRR
          have HTL := Lib.hid htl
          have HZ := Lib.hid hZ
          have HZL := Lib.hid hZl
          have HZB := Lib.hid hzl
          clear hzr htl hZ hZl hzl
          obtain ⟨zl, hzl⟩ : ∃ zl, zl = 8 * k - sz := ⟨_, rfl⟩
          rw [← hzl] at hrun HTL HZL
          have hzl8 : zl ≤ 7 := by omega
          have HZ8 := Lib.hid hzl
          clear hzl
          go_wp2_with fail
          go_loop [102] (fun i => ∃ t : Nat, t ≤ zl ∧ i = .int .i64 t ∧ Hid ((Z.take t).all (· == 0) = true)) (fun i => zl - (intOf i).toNat)
          case atStart => exact ⟨0, Nat.zero_le _, rfl, Lib.hid rfl⟩
          case round =>
            obtain ⟨t, ht, rfl, HALL⟩ := hrel
            by_cases hlt2 : t < zl
            · have i2 : (t : Int) < (zl : Int) := by omega
              obtain ⟨c, hc⟩ : ∃ c, Z[t]? = some c := ⟨_, List.getElem?_eq_getElem (by rw [HZL.out]; exact hlt2)⟩
              obtain ⟨qz, cz, hvz, _, _, hcell⟩ := HTL.out.at
              obtain ⟨bz, oz, rfl, hcz⟩ := hcell t (byteC c) (by rw [List.getElem?_map, hc]; rfl)
              obtain ⟨rfl, -, rfl⟩ := Value.slice.inj hvz
              have y0 := hcz 0 _ rfl
              rw [Nat.add_zero, Nat.mul_one] at y0
              have HC := Lib.hid hc
              clear hcell hcz hvz hc hrun
              by_cases h0 : c = 0
              · have e0 : ((c.toNat : Int) != 0) = false := by subst h0; rfl
                have HC0 := Lib.hid h0
                clear h0
                go_wp2
                go_round
                case rel =>
                  refine ⟨t + 1, by omega, by go_num, Lib.hid ?_⟩
                  obtain ⟨hk1, he⟩ := List.getElem?_eq_some_iff.1 HC.out
                  rw [List.take_succ_eq_append_getElem hk1, List.all_append, HALL.out, he, HC0.out]
                  rfl
                case measure => simp [intOf]; omega
              · have e0 : ((c.toNat : Int) != 0) = true := by
                  have : c.toNat ≠ 0 := fun h => h0 (by rw [← UInt8.ofNat_toNat (x := c), h]; rfl)
                  simp; omega
                have hn : Z.all (· == 0) = false := by
                  rw [List.all_eq_false]
                  exact ⟨c, List.mem_of_getElem? HC.out, by simpa using h0⟩
                have HN2 := Lib.hid hn
                clear h0 hn
                obtain ⟨w0, w1', w2', w3'⟩ := cells4 hb1
                have f0 := free_at hb1 (i := 0)
                have f1 := free_at hb1 (i := 1)
                have f2 := free_at hb1 (i := 2)
                have f3 := free_at hb1 (i := 3)
                go_wp2
                refine post_fill4 hb1 fun W3 hb1 hT hS3 => ?_
                obtain ⟨y0, y1, y2, y3⟩ := cells4 hb1
                refine bodyPost_ret (v := .tuple #[zeroOV, .int .i64 0]) (by simp [results, Try.results63, go_sem, y0, y1, y2, y3, zeroOV]; rfl) rfl ?_
                rw [← HRR.out, if_neg (fun h => by rw [HN2.out] at h; cases h.2.2.1)]
                exact ⟨rfl, Turn.after HX.out hT (by simp)⟩
            · obtain rfl : t = zl := by omega
              have i2 : ¬ (t : Int) < (t : Int) := by omega
              have hall := HALL.out
              rw [List.take_of_length_le (by rw [HZL.out]; omega)] at hall
              have HA := Lib.hid hall
              obtain ⟨s, hs⟩ : ∃ s : ByteArray, s = ⟨((bytesOf (S.take k)).take sz).toArray⟩ := ⟨_, rfl⟩
              have hss : s.size = sz := by
                have : s.size = ((bytesOf (S.take k)).take sz).length := by rw [hs]; simp [ByteArray.size]
                rw [this, List.length_take, HZB.out]
                omega
              have hcv2 : (convert 122 9 (.slice qv sz cv)).run Try.prog wr = .ok (.string s) wr := by
                have h1 := (HOW.out.take (k := sz) (by rw [bsR_len hsl]; omega)).p
                rw [show (bsR S k).take sz = ((bytesOf (S.take k)).take sz).map byteC by rw [bsR, List.map_take]] at h1
                rw [hs]
                exact h1.string
              have htk := run_take E8 wr qv (8 * k) cv sz (by omega) hcm
              rw [← hs] at HRR
              have HM2 := Lib.hid (fun W => may_is 2 tg 0 0 none s W (by omega))
              rw [hss] at HM2
              generalize hmm : mayK 2 tg 0 sz = mm at HM2
              have HMM := Lib.hid hmm
              have HSS := Lib.hid hss
              have f3 := free_at hb (i := 3)
              clear hmm hall hs hss hrun
              go_wp2_with fail
              refine calls_fill1 hb fun W3 hb3 hT hS3 => ?_
              have k1 := (hT.block (w.heap.size + 1) (by omega) (by simp; omega)).trans hb1
              have k2 : W3.heap[ob]? = some (.cells #[.int .i64 2, .int .i64 tg, .slice none 0 0, .string s] 28 (0, 0)) := hb3
              have HX3' := Lib.hid (Turn.after HX.out hT (by simp; omega))
              have hl3 : ob < W3.heap.size := by omega
              refine (HM2.out _).mono ?_
              rintro e w4 ⟨rfl, hx4⟩
              have k1 := (Below.block hx4 (w.heap.size + 1) (by omega)).trans k1
              have k2 := (Below.block hx4 ob (by omega)).trans k2
              have HX4 := Lib.hid (HX3'.out.trans hx4)
              clear hx4 hT hS3 hb3 x0 x1 x2 x3 x4 z0 z1 z2 z3 f3 hb hb0 hb1
              obtain ⟨z0, z1, z2, z3⟩ := cells4 k2
              obtain ⟨y0, y1, y2, y3⟩ := cells4 k1
              have f0 := free_at k1 (i := 0)
              have f1 := free_at k1 (i := 1)
              have f2 := free_at k1 (i := 2)
              have f3 := free_at k1 (i := 3)
              cases mm
              · go_wp2
                refine post_fill4 k1 fun W3 hb1 hT hS3 => ?_
                obtain ⟨y0, y1, y2, y3⟩ := cells4 hb1
                refine bodyPost_ret (v := .tuple #[zeroOV, .int .i64 0]) (by simp [results, Try.results63, go_sem, y0, y1, y2, y3, zeroOV]; rfl) rfl ?_
                rw [← HRR.out, if_neg (fun h => by rw [HMM.out] at h; cases h.2.2.2)]
                exact ⟨rfl, Turn.after HX4.out hT (by simp)⟩
              · go_wp2
                refine post_fill4 k1 fun W3 hb1 hT hS3 => ?_
                obtain ⟨y0, y1, y2, y3⟩ := cells4 hb1
                refine bodyPost_ret (v := .tuple #[.agg #[.int .i64 2, .int .i64 tg, .slice none 0 0, .string s], .int .i64 (1 + (k : Int))]) (by simp [results, Try.results63, go_sem, y0, y1, y2, y3]) rfl ?_
                rw [← HRR.out, if_pos ⟨hs4, hsl, HA.out, HMM.out⟩]
                refine ⟨none, 0, ?_, OwnP.nil _ _ _ _, Turn.after HX4.out hT (by simp)⟩
                have : ((wordsO ⟨2, tg, [], s⟩ : Nat) : Int) = 1 + (k : Int) := by
                  unfold wordsO bodyK
                  dsimp only
                  rw [if_pos rfl, HSS.out, ← HMD.out]
                  omega
                rw [this]
                rfl
    · rw [if_neg (fun h => hsl h.2.1)]
      have HR0 := Lib.hid (by simpa only [Nat.add_zero] using HR0.out)
      clear HR'
      have i1 : ¬ (400 : Int) < (sz : Int) := by omega
      have b1 : decide ((400 : Int) < (sz : Int)) = false := decide_eq_false i1
      have HM := Lib.hid (fun W => HT.out W hs4)
      have hm2 := mt_words
      have hm3 := nt_words
      go_enter Try.func63, Try.ntmps63
      go_upto_region 1 with fail
      refine wp_alloc2 fun W hE hS b0 b1 => ?_
      obtain ⟨x0, x1, x2, x3, x4⟩ := cells5 b0
      go_wp2_with fail
      refine (HR0.out W hE).mono ?_
      rintro e w1 ⟨rfl, hx⟩
      have c0 := (Below.block hx w.heap.size (by omega)).trans b0
      have c1 := (Below.block hx (w.heap.size + 1) (by omega)).trans b1
      have HX := Lib.hid (hE.trans hx)
      have hlt : w.heap.size + 1 < w1.heap.size := by have := Ext.size hx; omega
      have HS := Lib.hid hS
      clear hS hx hE b0 b1 x0 x1 x2 x3 x4
      go_wp2_with fail
      refine at_alloc1 fun W2 hE2 hS2 b2 => ?_
      refine (of_is _ _).mono ?_
      rintro e w3 ⟨rfl, rfl⟩
      rw [HN.out]
      have c0 := (Below.block hE2 w.heap.size (by omega)).trans c0
      have c1 := (Below.block hE2 (w.heap.size + 1) (by omega)).trans c1
      have HX2 := Lib.hid (HX.out.trans hE2)
      have hlt : w.heap.size + 1 < W2.heap.size := by omega
      clear hE2 hS2
      obtain ⟨y0, y1, y2, y3⟩ := cells4 c1
      obtain ⟨z0, z1, z2, z3⟩ := cells4 b2
      go_wp2_with fail
      refine (HM.out _).mono ?_
      rintro e w3 ⟨rfl, hx3⟩
      have c1 := (Below.block hx3 (w.heap.size + 1) (by omega)).trans c1
      have HX3 := Lib.hid (HX2.out.trans hx3)
      clear hx3 y0 y1 y2 y3 z0 z1 z2 z3 c0 b2
      obtain ⟨y0, y1, y2, y3⟩ := cells4 c1
      have f0 := free_at c1 (i := 0)
      have f1 := free_at c1 (i := 1)
      have f2 := free_at c1 (i := 2)
      have f3 := free_at c1 (i := 3)
      have hgt : ((at_ + (S.length + 1) : Nat) : Int) - (at_ : Int) < 1 + (m : Int) := by omega
      go_wp2
      refine post_fill4 c1 fun W3 c1 hT hS3 => ?_
      obtain ⟨y0, y1, y2, y3⟩ := cells4 c1
      refine bodyPost_ret (v := .tuple #[zeroOV, .int .i64 0]) (by simp [results, Try.results63, go_sem, y0, y1, y2, y3, zeroOV]; rfl) rfl ⟨rfl, ?_⟩
      exact Turn.after HX3.out hT (by simp)
  · rw [if_neg (fun h => hs4 h.1)]
    have HR0 := Lib.hid (by simpa only [Nat.add_zero] using HR0.out)
    clear HR'
    have i1 : (400 : Int) < (sz : Int) := by omega
    have b1 : decide ((400 : Int) < (sz : Int)) = true := decide_eq_true i1
    go_enter Try.func63, Try.ntmps63
    go_upto_region 1 with fail
    refine wp_alloc2 fun W hE hS b0 b1 => ?_
    obtain ⟨x0, x1, x2, x3, x4⟩ := cells5 b0
    go_wp2_with fail
    refine (HR0.out W hE).mono ?_
    rintro e w1 ⟨rfl, hx⟩
    have c0 := (Below.block hx w.heap.size (by omega)).trans b0
    have c1 := (Below.block hx (w.heap.size + 1) (by omega)).trans b1
    have HX := Lib.hid (hE.trans hx)
    have hlt : w.heap.size + 1 < w1.heap.size := by have := Ext.size hx; omega
    have HS := Lib.hid hS
    clear hS hx hE b0 b1 x0 x1 x2 x3 x4
    go_wp2_with fail
    refine at_alloc1 fun W2 hE2 hS2 b2 => ?_
    refine (of_is _ _).mono ?_
    rintro e w3 ⟨rfl, rfl⟩
    rw [HN.out]
    have c1 := (Below.block hE2 (w.heap.size + 1) (by omega)).trans c1
    have HX2 := Lib.hid (HX.out.trans hE2)
    have hlt : w.heap.size + 1 < W2.heap.size := by omega
    clear hE2 hS2 c0 b2
    obtain ⟨y0, y1, y2, y3⟩ := cells4 c1
    have f0 := free_at c1 (i := 0)
    have f1 := free_at c1 (i := 1)
    have f2 := free_at c1 (i := 2)
    have f3 := free_at c1 (i := 3)
    go_wp2
    refine post_fill4 c1 fun W3 c1 hT hS3 => ?_
    obtain ⟨y0, y1, y2, y3⟩ := cells4 c1
    refine bodyPost_ret (v := .tuple #[zeroOV, .int .i64 0]) (by simp [results, Try.results63, go_sem, y0, y1, y2, y3, zeroOV]; rfl) rfl ⟨rfl, ?_⟩
    exact Turn.after HX2.out hT (by simp)
end Go.Proofs.Ytlffmcadchbheaa
/- An object is read out of a heap's words (the program's): all kinds; and maps from places to objects. -/
namespace Go.Proofs.Ytlffmcadchbheaa
open Go.RowKit Go.Maps Arena
set_option maxHeartbeats 4000000
set_option maxRecDepth 100000
theorem readS_row {hd kd tg : Int} {sz : Nat} {S : List Int} (d1 : hd % 256 = kd) (d2 : hd / 256 % 16777216 = tg) (d3 : hd / 4294967296 = sz) (h1 : 1 ≤ kd) (h4 : kd ≤ 4) (h2 : kd ≠ 2) :
    readS (hd :: S) = if sz ≤ 400 ∧ sz ≤ S.length ∧ mayK kd tg sz 0 = true then some ⟨kd, tg, S.take sz, ByteArray.empty⟩ else none := by
  unfold readS
  simp only [d1, d2, d3, Int.toNat_natCast]
  have hb : bodyK kd sz sz = sz := if_neg h2
  rw [hb]
  by_cases hs : sz ≤ 400 ∧ sz ≤ S.length
  · obtain ⟨hs1, hs2⟩ := hs
    have hl : (S.take sz).length = sz := by rw [List.length_take]; omega
    have hm : mayO ⟨kd, tg, S.take sz, ByteArray.empty⟩ = mayK kd tg sz 0 := by
      unfold mayO; dsimp only; rw [hl]; rfl
    simp only [h1, h4, hs1, hs2, and_self, if_true, h2, if_false, false_implies, true_and, hm]
  · rw [if_neg (fun h => hs ⟨h.2.2.1, h.2.2.2⟩), if_neg (fun h => hs ⟨h.1, h.2.1⟩)]
theorem readS_text {hd tg : Int} {sz : Nat} {S : List Int} (d1 : hd % 256 = 2) (d2 : hd / 256 % 16777216 = tg) (d3 : hd / 4294967296 = sz) :
    readS (hd :: S) = if sz ≤ 400 ∧ (sz + 7) / 8 ≤ S.length ∧ ((bytesOf (S.take ((sz + 7) / 8))).drop sz).all (· == 0) = true ∧ mayK 2 tg 0 sz = true then some ⟨2, tg, [], ⟨((bytesOf (S.take ((sz + 7) / 8))).take sz).toArray⟩⟩ else none := by
  unfold readS
  simp only [d1, d2, d3, Int.toNat_natCast]
  have hb : bodyK 2 sz sz = (sz + 7) / 8 := rfl
  rw [hb]
  by_cases hs : sz ≤ 400 ∧ (sz + 7) / 8 ≤ S.length
  · obtain ⟨hs1, hs2⟩ := hs
    have hl : ((bytesOf (S.take ((sz + 7) / 8))).take sz).length = sz := by rw [List.length_take, bytesOf_len, List.length_take]; omega
    have hm : mayO ⟨2, tg, [], ⟨((bytesOf (S.take ((sz + 7) / 8))).take sz).toArray⟩⟩ = mayK 2 tg 0 sz := by
      unfold mayO
      dsimp only
      rw [show (ByteArray.mk ((bytesOf (S.take ((sz + 7) / 8))).take sz).toArray).size = sz by rw [ByteArray.size, List.size_toArray, hl]]
      rfl
    simp only [hs1, hs2, and_self, if_true, hm, true_implies, true_and]
    simp
  · rw [if_neg (fun h => hs ⟨h.2.2.1, h.2.2.2⟩), if_neg (fun h => hs ⟨h.1, h.2.1⟩)]
theorem readS_no {hd kd : Int} {S : List Int} (d1 : hd % 256 = kd) (h : kd < 1 ∨ 4 < kd) : readS (hd :: S) = none := by
  unfold readS
  simp only [d1]
  rw [if_neg (fun h' => by omega)]
theorem read_is (pv : Value) (ba ha sp tp : Int) (at_ : Nat) (hd : Int) (S : List Int) (hSW : ∀ x ∈ hd :: S, W64 x) (w : World)
    (HR : ∀ (i : Nat) (x : Int), (hd :: S)[i]? = some x → ∀ W, Ext w W → Calls Try.prog 71 #[.agg #[pv, .int .i64 ba, .int .i64 ha, .int .i64 sp, .int .i64 tp], .int .i64 ((at_ + i : Nat) : Int)] W fun e w' => e = .returned (.int .u64 x) ∧ Ext W w') (hp : pv.oneCell' = true)
    (hat : at_ ≤ 100000) (hSl : S.length ≤ 100000) :
    Calls Try.prog 63 #[.agg #[pv, .int .i64 ba, .int .i64 ha, .int .i64 sp, .int .i64 tp], .int .i64 at_, .int .i64 ((at_ + (S.length + 1) : Nat) : Int)] w (ReadSaid (readS (hd :: S)) w) := by
  have hw := hSW hd (.head _)
  have hw1 := hw.1
  obtain ⟨sz, hsz⟩ := Int.eq_ofNat_of_zero_le (show 0 ≤ hd / 4294967296 by omega)
  by_cases h1 : 1 ≤ hd % 256 ∧ hd % 256 ≤ 4
  · by_cases h2 : hd % 256 = 2
    · rw [readS_text h2 rfl hsz]
      exact read_text pv ba ha sp tp at_ _ sz hd S hw w (fun x hx => hSW x (.tail _ hx)) HR hp h2 rfl hsz hat hSl
    · rw [readS_row rfl rfl hsz h1.1 h1.2 h2]
      rcases (show hd % 256 = 1 ∨ hd % 256 = 3 ∨ hd % 256 = 4 by omega) with h | h | h
      · exact read_row pv ba ha sp tp at_ _ _ sz 1 8 255 hd S hw w HR hp rfl rfl hsz hat hSl h2 (by rw [h]; rfl)
      · exact read_row pv ba ha sp tp at_ _ _ sz 0 400 0 hd S hw w HR hp rfl rfl hsz hat hSl h2 (by rw [h]; rfl)
      · exact read_row pv ba ha sp tp at_ _ _ sz 0 30 59 hd S hw w HR hp rfl rfl hsz hat hSl h2 (by rw [h]; rfl)
  · rw [readS_no rfl (by omega)]
    refine (read_no pv ba ha sp tp at_ _ hd _ _ sz hw w (by simpa only [Nat.add_zero] using HR 0 hd rfl) hp rfl rfl hsz (by omega)).mono ?_
    rintro e w' h
    exact h
end Go.Proofs.Ytlffmcadchbheaa
/- Maps of the call's own from ints to whatever values: what is looked up is what was stored, to the value. -/
namespace Go.Proofs.Ytlffmcadchbheaa
open Go.RowKit Go.Maps
def heldR : Value → Option (DataW Value × List MemPlace) := fun v => some (.held v, [])
def IMap (w : World) (b n : Nat) (f : Int → Option Value) : Prop := ∃ D : DataW Value, IsMap D ∧ w.ownsMap Try.prog 3 heldR b n D ∧ ∀ k : Int, D.atKey (.int .i64 k) .nil = match f k with | some v => .held v | none => .nil
theorem imap_law : Keyed Try.prog 3 := int_keyed Try.underlying3
theorem imap_key {k : Int} (hw : (Lit.int .i64 k).wf = true) : keyOf Try.prog 3 (.int .i64 k) = some (.int .i64 k) := keyOf_int_mk Try.underlying3 hw
theorem IMap.made (w : World) : IMap (w.alloc (.map #[] 0)) w.heap.size 0 (fun _ => none) := ⟨.map [], ⟨_, rfl⟩, World.ownsMap_made _ _ _ _, fun _ => rfl⟩
theorem IMap.lt {w : World} {b n : Nat} {f : Int → Option Value} (h : IMap w b n f) : b < w.heap.size := by
  obtain ⟨D, _, h, _⟩ := h; exact h.lt
theorem IMap.stays {w w' : World} {b n : Nat} {f : Int → Option Value} (h : IMap w b n f) (hb : w'.heap[b]? = w.heap[b]?) : IMap w' b n f := by
  obtain ⟨D, hD, ⟨es, clock, h0, h1, h2, h3⟩, hf⟩ := h
  exact ⟨D, hD, ⟨es, clock, hb.trans h0, h1, h2, h3⟩, hf⟩
theorem IMap.ext {w w' : World} {b n : Nat} {f : Int → Option Value} (h : IMap w b n f) (e : Ext w w') : IMap w' b n f := h.stays (Below.block e b h.lt)
theorem IMap.turn {w w' : World} {b n : Nat} {f : Int → Option Value} {bs : List Nat} (h : IMap w b n f) (t : Turn bs w w') (hb : b ∉ bs) : IMap w' b n f := h.stays (t.block b h.lt hb)
theorem IMap.look {w : World} {b n : Nat} {f : Int → Option Value} (h : IMap w b n f) {T E : TypeId} (ht : Try.prog.underlying T = some (.map 3 E)) {z : Value} (hz : (zeroValue E).run Try.prog w = .ok z w) (c : Bool) {k : Int} (hw : (Lit.int .i64 k).wf = true) :
    (Instr.lookup T (.map (some b)) (.int .i64 k) c).run Try.prog w = .ok (if c then .tuple #[(f k).getD z, .bool (f k).isSome] else (f k).getD z) w := by
  obtain ⟨D, _, ⟨es, clock, hb, F, hs, rfl⟩, hf⟩ := h
  have hfk := hf k
  rcases Maps.fit_look c imap_law ht hz hb F (imap_key hw) with ⟨hr, _, hat⟩ | ⟨e0, y, _, _, hr, hR, hat, _⟩
  · rw [hat .nil] at hfk
    cases hk : f k with
    | none => rw [hr]; rfl
    | some v => rw [hk] at hfk; cases hfk
  · obtain rfl : y = (.held e0.val, []) := (Option.some.inj hR).symm
    rw [hat .nil] at hfk
    cases hk : f k with
    | none => rw [hk] at hfk; cases hfk
    | some v =>
      rw [hk] at hfk
      obtain rfl : e0.val = v := DataW.held.inj hfk
      rw [hr]; rfl
def fput (f : Int → Option Value) (k : Int) (v : Value) : Int → Option Value := fun x => if x = k then some v else f x
theorem fput_same (f : Int → Option Value) (k : Int) (v : Value) : fput f k v k = some v := if_pos rfl
theorem fput_other {f : Int → Option Value} {k x : Int} {v : Value} (h : x ≠ k) : fput f k v x = f x := if_neg h
/-- m[k] = v, at a plain region's list -/
theorem wpList_put_imap {w : World} {ops : Array Oper} {rest : List Oper} {o : Oper} {a : Act} {Q : Exit → Act → World → Prop} (hg : o.guard = none) (m x v : Operand) {T E : TypeId} (hop : o.op = Op.mapUpdate T m x v) (ht : Try.prog.underlying T = some (.map 3 E))
    (b n : Nat) (f : Int → Option Value) (hm : a.eval m = .map (some b)) (hown : IMap w b n f) (hn : n < maxLen) (k : Int) (val : Value) (hx : a.eval x = .int .i64 k) (hv : a.eval v = val) (hw : (Lit.int .i64 k).wf = true)
    (hK : ∀ w', IMap w' b (n + 1) (fput f k val) → w.grownBy w' (some b) → wpList Try.prog ops Q rest (a.put o.dst undef) w') : wpList Try.prog ops Q (o :: rest) a w := by
  obtain ⟨D, hD, ho, hf⟩ := hown
  refine wpList_mapUpdate_own w hg m x v T hop 3 E imap_law ht heldR b n D hm ho hn _ val (.int .i64 k) hx hv (imap_key hw) (.held val) [] rfl (fun w' h1 h2 => hK w' ⟨_, ?_, h1, fun k' => ?_⟩ h2)
  · obtain ⟨es, rfl⟩ := hD; exact ⟨_, rfl⟩
  · by_cases h : k' = k
    · subst h
      rw [fput_same, atKey_put_same hD (show WideAt.IsKeyLit (.int .i64 _) from trivial)]
    · rw [fput_other h, atKey_put_other (by intro e; exact h (by injection e))]
      exact hf k'
end Go.Proofs.Ytlffmcadchbheaa
