/- The walk of OrderRises. -/
import Derived.Test.YtgapjglijpdkmaaOrdM
namespace Go.Proofs.Ytgapjglijpdkmaa
open Go.RowKit Go.Maps Heap Go.Sort Go.Shelf
set_option maxHeartbeats 8000000
set_option maxRecDepth 100000
/-- one queue of a call's own, and a block beside it -/
def Q1B (w0 w : World) (qb : Nat) (S : List Ent) (lb : Nat) (a b : Int) : Prop := ∃ F, QF w w0.heap.size qb S F ∧ (∀ b ∈ F, w0.heap.size ≤ b) ∧ Ext w0 w ∧ w.heap[lb]? = some (.cells #[.int .i64 a, .int .i64 b] 35 (0, 0)) ∧ w0.heap.size ≤ lb ∧ lb ∉ F
theorem Q1B.ext {w0 w w' : World} {qb : Nat} {S : List Ent} {lb : Nat} {a b : Int} (h : Q1B w0 w qb S lb a b) (e : Ext w w') : Q1B w0 w' qb S lb a b := by
  obtain ⟨F, hf, hb, hx, hg, h1, h2⟩ := h
  exact ⟨F, hf.ext e, hb, hx.trans e, by rw [Below.block e lb (Array.getElem?_eq_some_iff.1 hg).1]; exact hg, h1, h2⟩
theorem Q1B.one {w0 w : World} {qb : Nat} {S : List Ent} {lb : Nat} {a b : Int} (h : Q1B w0 w qb S lb a b) : Q1 w0 w qb S := by
  obtain ⟨F, hf, hb, hx, hg, h1, h2⟩ := h
  exact ⟨F, hf, hb, hx⟩
theorem Q1B.cells {w0 w : World} {qb : Nat} {S : List Ent} {lb : Nat} {a b : Int} (h : Q1B w0 w qb S lb a b) : w.cell? ⟨lb, 0, none⟩ = some (.int .i64 a) ∧ w.cell? ⟨lb, 1, none⟩ = some (.int .i64 b) ∧ w.frozen? ⟨lb, 0, none⟩ = false ∧ w.frozen? ⟨lb, 1, none⟩ = false := by
  obtain ⟨F, hf, hb, hx, hg, h1, h2⟩ := h
  refine ⟨?_, ?_, ?_, ?_⟩ <;> simp [World.cell?, World.frozen?, hg]
theorem Q1B.start {w0 w : World} {qb : Nat} {S : List Ent} {a b : Int} (h : Q1 w0 w qb S) : Q1B w0 (w.alloc (.cells #[.int .i64 a, .int .i64 b] 35)) qb S w.heap.size a b := by
  obtain ⟨F, hf, hb, hx⟩ := h
  exact ⟨F, hf.ext (Ext.alloc _ _), hb, hx.trans (Ext.alloc _ _), heap_alloc_new _ _, hx.size, fun hm => by have := hf.lt _ hm; omega⟩
theorem Q1B.store {w0 w : World} {qb : Nat} {S : List Ent} {lb : Nat} {a b : Int} (h : Q1B w0 w qb S lb a b) (x y : Int) : Q1B w0 ((w.setCell ⟨lb, 0, none⟩ (.int .i64 x)).setCell ⟨lb, 1, none⟩ (.int .i64 y)) qb S lb x y := by
  obtain ⟨F, hf, hb, hx, hg, h1, h2⟩ := h
  have t : Turn [lb] w ((w.setCell ⟨lb, 0, none⟩ (.int .i64 x)).setCell ⟨lb, 1, none⟩ (.int .i64 y)) := ((Turn.refl _ _).setCell (.inl (by simp)) _).setCell (.inl (by simp)) _
  refine ⟨F, hf.turn t (fun b hm => by rintro hm2; simp at hm2; subst hm2; exact h2 hm), hb, Below.trans hx (t.below hx.size (by simpa using h1)), ?_, h1, h2⟩
  rw [heap_setCell_same _ lb 1 _ _ _ (heap_setCell_same w lb 0 _ _ _ hg)]
  rfl
theorem q1b_pop {w0 w : World} {qb : Nat} {x : Ent} {S : List Ent} {lb : Nat} {a b : Int} (h : Q1B w0 w qb (x :: S) lb a b) (hl : S.length ≤ 800) :
    Calls Try.prog 10 #[.pointer (some ⟨qb, 0, none⟩)] w fun e w' => e = .returned (.tuple #[.int .i64 x.1, .int .i64 x.2, .bool true]) ∧ Q1B w0 w' qb S lb a b := by
  obtain ⟨F, hf, hb, hx, hg, h1, h2⟩ := h
  have hgl := (Array.getElem?_eq_some_iff.1 hg).1
  refine (qpop_f hf hl).mono fun _ _ ⟨he, F', hq, hs⟩ => ⟨he, F', hq, fun b hm => ?_, Below.trans hx (hs.1.below hx.size hb), by rw [hs.1.block lb hgl h2]; exact hg, h1, fun hm => ?_⟩
  · rcases hs.2 b hm with h | h
    · exact hb b h
    · have := hx.size; omega
  · rcases hs.2 lb hm with h | h
    · exact h2 h
    · omega
theorem rises_walk {v : Value} {l : List (Int × Int)} {w : World} (hv : Pair8 w v l) : Calls Try.prog 4 #[v] w (TrueExt w) := by
  obtain ⟨q, c, rfl, hc1, hc2, hc⟩ := hv
  unfold maxLen at hc2
  have HC := Lib.hid hc
  clear hc
  by_cases hlen : 60 < l.length
  · have i0 : (60 : Int) < (l.length : Int) := by omega
    go_enter Try.func4, Try.ntmps4
    go_wp2_with fail
    refine (q1_new w).mono ?_; rintro e w1 ⟨qb, rfl, H1⟩
    have X1 := Lib.hid H1.world
    clear H1
    go_wp2_with fail
    refine (wakes_is _).mono ?_; rintro e w2 ⟨rfl, hx2⟩
    go_wp2
    go_ret
    exact ⟨rfl, X1.out.trans hx2⟩
  · have i0 : ¬ (60 : Int) < (l.length : Int) := by omega
    go_enter Try.func4, Try.ntmps4
    go_wp2_with fail
    refine (q1_new w).mono ?_; rintro e w1 ⟨qb, rfl, H1⟩
    have K1 := Lib.hid H1
    clear H1
    go_wp2_with fail
    go_loopw [4, 5] (fun n i wr => ∃ j : Nat, j ≤ l.length ∧ i = .int .i64 j ∧ n = .int .i64 ((pushed (l.take j)).length : Nat) ∧ Q1 w wr qb (pushed (l.take j))) (fun _ i _ => l.length - (intOf i).toNat)
    case atStart => exact ⟨0, by omega, rfl, rfl, K1.out⟩
    case round =>
      obtain ⟨j, hj, rfl, rfl, hQ⟩ := hrel
      have KR := Lib.hid hQ
      clear hQ
      by_cases hlt : j < l.length
      · obtain ⟨b1, b2, bb, off, rfl, p0, p1⟩ := HC.out j _ (List.getElem?_eq_getElem hlt)
        have e0 := KR.out.world
        have P0 := e0.cell p0
        have P1 := e0.cell p1
        have hS : (pushed (l.take j)).length ≤ 60 := by have := pushed_length (l.take j); rw [List.length_take] at this; omega
        have hT : pushed (l.take (j + 1)) = put1 (pushed (l.take j)) l[j] := by rw [List.take_succ_eq_append_getElem hlt, pushed_snoc]
        have HT := Lib.hid hT
        have i1 : (j : Int) < (l.length : Int) := by omega
        clear p0 p1 e0 hT
        generalize pushed (l.take j) = S at *
        generalize l[j] = x at *
        have s1 : IntKind.i64.wrap x.1 = x.1 := IntWalk.i64_in _ (by omega)
        have s2 : IntKind.i64.wrap x.2 = x.2 := IntWalk.i64_in _ (by omega)
        obtain ⟨xa, xb⟩ := x
        dsimp only at P0 P1 b1 b2 s1 s2 HT
        go_upto_region 8 with fail
        refine wp_region_noPanic ?_
        refine wp_region_last 13 (S := (fun w' => w'.cell? ⟨bb, off + j * 2, none⟩ = some (.int .i8 xa) ∧ w'.cell? ⟨bb, off + j * 2 + 1, none⟩ = some (.int .i8 xb))) (by kernel_rfl) (by kernel_rfl) _ rfl ?_ (fun hHeld => ?_)
        · (exact ⟨(Ext.drew _).cell P0, (Ext.drew _).cell P1⟩)
        simp only [List.take_succ_cons, List.take_zero]
        refine wpAnyH_take (i := 0) (v := ?v1) rfl (by kernel_rfl) (by kernel_rfl) (by kernel_rfl) (fun _ _ _ h => h) (Or.inl ⟨by rfl, ?y1⟩) (by assumption) ?r1
        case y1 => intro w hSw; (try dsimp only at hSw); go_simp; (try with_reducible rfl)
        (try simp only [Act.put, List.setIfInBounds_toArray, List.set_cons_zero, List.set_cons_succ, List.getElem_toArray, List.getElem_cons_zero, List.getElem_cons_succ])
        refine wpAnyH_take (i := 1) (v := ?v2) rfl (by kernel_rfl) (by kernel_rfl) (by kernel_rfl) (fun _ _ _ h => h) (Or.inl ⟨by rfl, ?y2⟩) (by assumption) ?r2
        case y2 => intro w hSw; (try dsimp only at hSw); go_simp; (try with_reducible rfl)
        (try simp only [Act.put, List.setIfInBounds_toArray, List.set_cons_zero, List.set_cons_succ, List.getElem_toArray, List.getElem_cons_zero, List.getElem_cons_succ])
        refine wpAnyH_take (i := 2) (v := ?v3) rfl (by kernel_rfl) (by kernel_rfl) (by kernel_rfl) (fun _ _ _ h => h) (Or.inl ⟨by rfl, ?y3⟩) (by assumption) ?r3
        case y3 => intro w hSw; (try dsimp only at hSw); go_simp; (try with_reducible rfl)
        (try simp only [Act.put, List.setIfInBounds_toArray, List.set_cons_zero, List.set_cons_succ, List.getElem_toArray, List.getElem_cons_zero, List.getElem_cons_succ])
        refine wpAnyH_take (i := 3) (v := ?v4) rfl (by kernel_rfl) (by kernel_rfl) (by kernel_rfl) (fun _ _ _ h => h) (Or.inl ⟨by rfl, ?y4⟩) (by assumption) ?r4
        case y4 => intro w hSw; (try dsimp only at hSw); go_simp; (try with_reducible rfl)
        (try simp only [Act.put, List.setIfInBounds_toArray, List.set_cons_zero, List.set_cons_succ, List.getElem_toArray, List.getElem_cons_zero, List.getElem_cons_succ])
        refine wpAnyH_take (i := 4) (v := ?v5) rfl (by kernel_rfl) (by kernel_rfl) (by kernel_rfl) (fun _ _ _ h => h) (Or.inl ⟨by rfl, ?y5⟩) (by assumption) ?r5
        case y5 => intro w hSw; (try dsimp only at hSw); go_simp; (try with_reducible rfl)
        (try simp only [Act.put, List.setIfInBounds_toArray, List.set_cons_zero, List.set_cons_succ, List.getElem_toArray, List.getElem_cons_zero, List.getElem_cons_succ])
        refine wpAnyH_take (i := 5) (v := ?v6) rfl (by kernel_rfl) (by kernel_rfl) (by kernel_rfl) (fun _ _ _ h => h) (Or.inl ⟨by rfl, ?y6⟩) (by assumption) ?r6
        case y6 => intro w hSw; (try dsimp only at hSw); go_simp; (try with_reducible rfl)
        (try simp only [Act.put, List.setIfInBounds_toArray, List.set_cons_zero, List.set_cons_succ, List.getElem_toArray, List.getElem_cons_zero, List.getElem_cons_succ])
        refine wpAnyH_take (i := 6) (v := ?v7) rfl (by kernel_rfl) (by kernel_rfl) (by kernel_rfl) (fun _ _ _ h => h) (Or.inl ⟨by rfl, ?y7⟩) (by assumption) ?r7
        case y7 => intro w hSw; (try dsimp only at hSw); go_simp; (try with_reducible rfl)
        (try simp only [Act.put, List.setIfInBounds_toArray, List.set_cons_zero, List.set_cons_succ, List.getElem_toArray, List.getElem_cons_zero, List.getElem_cons_succ])
        refine wpAnyH_take (i := 7) (v := ?v8) rfl (by kernel_rfl) (by kernel_rfl) (by kernel_rfl) (fun _ _ _ h => h) (Or.inl ⟨by rfl, ?y8⟩) (by assumption) ?r8
        case y8 => intro w hSw; (try dsimp only at hSw); go_simp; (try with_reducible rfl)
        (try simp only [Act.put, List.setIfInBounds_toArray, List.set_cons_zero, List.set_cons_succ, List.getElem_toArray, List.getElem_cons_zero, List.getElem_cons_succ])
        refine wpAnyH_take (i := 8) (v := ?v9) rfl (by kernel_rfl) (by kernel_rfl) (by kernel_rfl) (fun _ _ _ h => h) (Or.inl ⟨by rfl, ?y9⟩) (by assumption) ?r9
        case y9 => intro w hSw; (try dsimp only at hSw); go_simp; (try with_reducible rfl)
        (try simp only [Act.put, List.setIfInBounds_toArray, List.set_cons_zero, List.set_cons_succ, List.getElem_toArray, List.getElem_cons_zero, List.getElem_cons_succ])
        refine wpAnyH_take (i := 9) (v := ?v10) rfl (by kernel_rfl) (by kernel_rfl) (by kernel_rfl) (fun _ _ _ h => h) (Or.inl ⟨by rfl, ?y10⟩) (by assumption) ?r10
        case y10 => intro w hSw; (try dsimp only at hSw); go_simp; (try with_reducible rfl)
        (try simp only [Act.put, List.setIfInBounds_toArray, List.set_cons_zero, List.set_cons_succ, List.getElem_toArray, List.getElem_cons_zero, List.getElem_cons_succ])
        refine wpAnyH_take (i := 10) (v := ?v11) rfl (by kernel_rfl) (by kernel_rfl) (by kernel_rfl) (fun _ _ _ h => h) (Or.inl ⟨by rfl, ?y11⟩) (by assumption) ?r11
        case y11 => intro w hSw; (try dsimp only at hSw); go_simp; (try with_reducible rfl)
        (try simp only [Act.put, List.setIfInBounds_toArray, List.set_cons_zero, List.set_cons_succ, List.getElem_toArray, List.getElem_cons_zero, List.getElem_cons_succ])
        refine wpAnyH_take (i := 11) (v := ?v12) rfl (by kernel_rfl) (by kernel_rfl) (by kernel_rfl) (fun _ _ _ h => h) (Or.inl ⟨by rfl, ?y12⟩) (by assumption) ?r12
        case y12 => intro w hSw; (try dsimp only at hSw); go_simp; (try with_reducible rfl)
        (try simp only [Act.put, List.setIfInBounds_toArray, List.set_cons_zero, List.set_cons_succ, List.getElem_toArray, List.getElem_cons_zero, List.getElem_cons_succ])
        refine wpAnyH_take (i := 12) (v := ?v13) rfl (by kernel_rfl) (by kernel_rfl) (by kernel_rfl) (fun _ _ _ h => h) (Or.inl ⟨by rfl, ?y13⟩) (by assumption) ?r13
        case y13 => intro w hSw; (try dsimp only at hSw); go_simp; (try with_reducible rfl)
        (try simp only [Act.put, List.setIfInBounds_toArray, List.set_cons_zero, List.set_cons_succ, List.getElem_toArray, List.getElem_cons_zero, List.getElem_cons_succ])
        refine wpAnyH_done (by kernel_rfl) ?_ _
        show wpList _ _ _ _ _ _
        go_wp2_with fail
        refine (q1_push (KR.out.ext (Ext.drew _)) (by omega) xa xb).mono ?_; rintro e w2 ⟨rfl, hq2⟩
        have HQ2 := Lib.hid hq2
        have hL := put1_length S (xa, xb)
        clear hq2
        by_cases hf : fresh S xa = true
        · rw [hf]
          simp only [hf, if_true] at hL
          go_wp2
          refine NoPanic.normal ?_
          go_wp2
          refine ⟨⟨j + 1, by omega, by go_num, ?_, ?_⟩, by simp [intOf]; omega⟩
          · rw [HT.out, hL]; go_num
          · rw [HT.out]; exact HQ2.out
        · have hf' : fresh S xa = false := by simpa using hf
          rw [hf']
          simp only [hf', Bool.false_eq_true, if_false] at hL
          go_wp2
          refine NoPanic.normal ?_
          go_wp2
          refine ⟨⟨j + 1, by omega, by go_num, ?_, ?_⟩, by simp [intOf]; omega⟩
          · rw [HT.out, hL]
          · rw [HT.out]; exact HQ2.out
      · obtain rfl : j = l.length := by omega
        rw [List.take_length] at KR ⊢
        have hS : (pushed l).length ≤ 60 := by have := pushed_length l; omega
        have HM := Lib.hid (show ∀ x ∈ pushed l, x ∈ l from fun x hx => pushed_mem hx)
        generalize pushed l = S at *
        have HSt := Lib.hid (strict KR.out.sorted KR.out.keys)
        have HB := Lib.hid (show ∀ x ∈ S, lt (-1000, -1000) x from fun x hx => by
          obtain ⟨i, hi, rfl⟩ := List.getElem_of_mem (HM.out x hx)
          obtain ⟨_, b2, _⟩ := HC.out i _ (List.getElem?_eq_getElem hi)
          left; omega)
        go_wp2_with fail
        have K2 := Lib.hid (Q1B.start (a := -1000) (b := -1000) KR.out)
        generalize wr.alloc (.cells #[.int .i64 (-1000), .int .i64 (-1000)] 35) = wl at *
        generalize wr.heap.size = lb at *
        go_loopw [7] (fun i wr => ∃ j : Nat, j ≤ S.length ∧ i = .int .i64 j ∧ ∃ a b : Int, Q1B w wr qb (S.drop j) lb a b ∧ ∀ x ∈ S.drop j, lt (a, b) x) (fun i _ => S.length - (intOf i).toNat)
        case atStart => exact ⟨0, by omega, rfl, -1000, -1000, K2.out, HB.out⟩
        case round =>
          obtain ⟨j, hj, rfl, a, b, hQ, hlts⟩ := hrel
          by_cases hlt : j < S.length
          · have hdr : S.drop j = S[j] :: S.drop (j + 1) := List.drop_eq_getElem_cons hlt
            rw [hdr] at hQ hlts
            have KR2 := Lib.hid hQ
            have HLT := Lib.hid (hlts S[j] (.head _))
            have HL2 := Lib.hid (show ∀ y ∈ S.drop (j + 1), lt S[j] y from by
              have h1 := HSt.out.sublist (List.drop_sublist j S)
              rw [hdr, List.pairwise_cons] at h1
              exact h1.1)
            have HIN := Lib.hid (HM.out S[j] (List.getElem_mem hlt))
            have hdl : (S.drop (j + 1)).length = S.length - 1 - j := by rw [List.length_drop]; omega
            have i1 : (j : Int) < (S.length : Int) := by omega
            clear hQ hlts hdr
            generalize S[j] = x at *
            obtain ⟨xa, xb⟩ := x
            go_wp2_with fail
            refine (q1b_pop KR2.out (by omega)).mono ?_; rintro e w2 ⟨rfl, hq2⟩
            obtain ⟨c0, c1, f0, f1⟩ := hq2.cells
            have K3 := Lib.hid hq2
            clear hq2
            have hL := HLT.out
            unfold lt at hL
            dsimp only at hL
            have t5 : (((S.length - 1 - j : Nat) : Int) != (S.length : Int) - 1 - (j : Int)) = false := by
              rw [show ((S.length - 1 - j : Nat) : Int) = (S.length : Int) - 1 - (j : Int) by omega]; simp
            have t6 : ¬ xb < b := by omega
            have t7 : xb = b → a < xa := by omega
            clear hL
            by_cases t8 : xb = b
            · have t9 := t7 t8
              subst t8
              clear t7
              go_wp2_with fail
              refine (q1_len K3.out.one).mono ?_; rintro e w3 ⟨rfl, rfl⟩
              rw [hdl]
              go_wp2_with fail
              clear HLT
              go_loopw [11, 12] (fun f i wr => ∃ k : Nat, k ≤ l.length ∧ i = .int .i64 k ∧ f = .bool ((l.take k).any (· == (xa, xb))) ∧ Ext w2 wr) (fun _ i _ => l.length - (intOf i).toNat)
              case atStart => exact ⟨0, by omega, rfl, rfl, Ext.refl _⟩
              case round =>
                obtain ⟨k, hk, rfl, rfl, hx⟩ := hrel
                have HX := Lib.hid hx
                by_cases hkl : k < l.length
                · obtain ⟨b1, b2, bb, off, rfl, p0, p1⟩ := HC.out k _ (List.getElem?_eq_getElem hkl)
                  have e0 := K3.out.one.world.trans hx
                  have P0 := e0.cell p0
                  have P1 := e0.cell p1
                  have hT : (l.take (k + 1)).any (· == (xa, xb)) = ((l.take k).any (· == (xa, xb)) || l[k] == (xa, xb)) := by rw [List.take_succ_eq_append_getElem hkl, List.any_append]; simp
                  have HT := Lib.hid hT
                  have i2 : (k : Int) < (l.length : Int) := by omega
                  clear p0 p1 e0 hT hx
                  generalize (l.take k).any (· == (xa, xb)) = fl at *
                  generalize l[k] = y at *
                  have s1 : IntKind.i64.wrap y.1 = y.1 := IntWalk.i64_in _ (by omega)
                  have s2 : IntKind.i64.wrap y.2 = y.2 := IntWalk.i64_in _ (by omega)
                  obtain ⟨ya, yb⟩ := y
                  dsimp only at P0 P1 b1 b2 s1 s2 HT
                  cases fl
                  · by_cases h1 : ya = xa
                    · by_cases h2 : yb = xb
                      · go_wp2_with fail
                        exact ⟨⟨k + 1, by omega, by go_num, by rw [HT.out]; simp [h1, h2], HX.out⟩, by simp [intOf]; omega⟩
                      · go_wp2_with fail
                        exact ⟨⟨k + 1, by omega, by go_num, by rw [HT.out, show (((ya, yb) : Int × Int) == (xa, xb)) = ((ya == xa) && (yb == xb)) from rfl]; simp [h1], HX.out⟩, by simp [intOf]; omega⟩
                    · go_wp2_with fail
                      exact ⟨⟨k + 1, by omega, by go_num, by rw [HT.out]; simp [h1], HX.out⟩, by simp [intOf]; omega⟩
                  · go_wp2_with fail
                    exact ⟨⟨k + 1, by omega, by go_num, by rw [HT.out]; simp, HX.out⟩, by simp [intOf]; omega⟩
                · obtain rfl : k = l.length := by omega
                  have hany : (l.take l.length).any (· == (xa, xb)) = true := by rw [List.take_length, List.any_eq_true]; exact ⟨_, HIN.out, by simp⟩
                  rw [hany]
                  have K4 := Lib.hid (K3.out.ext hx)
                  obtain ⟨c0, c1, f0, f1⟩ := K4.out.cells
                  clear hx HX
                  go_wp2_with fail
                  exact ⟨⟨j + 1, by omega, by go_num, xa, xb, K4.out.store xa xb, HL2.out⟩, by simp [intOf]; omega⟩
            · clear t7
              go_wp2_with fail
              refine (q1_len K3.out.one).mono ?_; rintro e w3 ⟨rfl, rfl⟩
              rw [hdl]
              go_wp2_with fail
              clear HLT
              go_loopw [11, 12] (fun f i wr => ∃ k : Nat, k ≤ l.length ∧ i = .int .i64 k ∧ f = .bool ((l.take k).any (· == (xa, xb))) ∧ Ext w2 wr) (fun _ i _ => l.length - (intOf i).toNat)
              case atStart => exact ⟨0, by omega, rfl, rfl, Ext.refl _⟩
              case round =>
                obtain ⟨k, hk, rfl, rfl, hx⟩ := hrel
                have HX := Lib.hid hx
                by_cases hkl : k < l.length
                · obtain ⟨b1, b2, bb, off, rfl, p0, p1⟩ := HC.out k _ (List.getElem?_eq_getElem hkl)
                  have e0 := K3.out.one.world.trans hx
                  have P0 := e0.cell p0
                  have P1 := e0.cell p1
                  have hT : (l.take (k + 1)).any (· == (xa, xb)) = ((l.take k).any (· == (xa, xb)) || l[k] == (xa, xb)) := by rw [List.take_succ_eq_append_getElem hkl, List.any_append]; simp
                  have HT := Lib.hid hT
                  have i2 : (k : Int) < (l.length : Int) := by omega
                  clear p0 p1 e0 hT hx
                  generalize (l.take k).any (· == (xa, xb)) = fl at *
                  generalize l[k] = y at *
                  have s1 : IntKind.i64.wrap y.1 = y.1 := IntWalk.i64_in _ (by omega)
                  have s2 : IntKind.i64.wrap y.2 = y.2 := IntWalk.i64_in _ (by omega)
                  obtain ⟨ya, yb⟩ := y
                  dsimp only at P0 P1 b1 b2 s1 s2 HT
                  cases fl
                  · by_cases h1 : ya = xa
                    · by_cases h2 : yb = xb
                      · go_wp2_with fail
                        exact ⟨⟨k + 1, by omega, by go_num, by rw [HT.out]; simp [h1, h2], HX.out⟩, by simp [intOf]; omega⟩
                      · go_wp2_with fail
                        exact ⟨⟨k + 1, by omega, by go_num, by rw [HT.out, show (((ya, yb) : Int × Int) == (xa, xb)) = ((ya == xa) && (yb == xb)) from rfl]; simp [h1], HX.out⟩, by simp [intOf]; omega⟩
                    · go_wp2_with fail
                      exact ⟨⟨k + 1, by omega, by go_num, by rw [HT.out]; simp [h1], HX.out⟩, by simp [intOf]; omega⟩
                  · go_wp2_with fail
                    exact ⟨⟨k + 1, by omega, by go_num, by rw [HT.out]; simp, HX.out⟩, by simp [intOf]; omega⟩
                · obtain rfl : k = l.length := by omega
                  have hany : (l.take l.length).any (· == (xa, xb)) = true := by rw [List.take_length, List.any_eq_true]; exact ⟨_, HIN.out, by simp⟩
                  rw [hany]
                  have K4 := Lib.hid (K3.out.ext hx)
                  obtain ⟨c0, c1, f0, f1⟩ := K4.out.cells
                  clear hx HX
                  go_wp2_with fail
                  exact ⟨⟨j + 1, by omega, by go_num, xa, xb, K4.out.store xa xb, HL2.out⟩, by simp [intOf]; omega⟩
          · have hjj : j = S.length := by omega
            subst hjj
            have hnil : S.drop S.length = [] := List.drop_length
            rw [hnil] at hQ
            have K5 := Lib.hid hQ.one
            clear hQ hlts
            go_wp2_with fail
            refine (q1_pop0 K5.out).mono ?_; rintro e w2 ⟨rfl, rfl⟩
            have X5 := Lib.hid K5.out.world
            go_wp2_with fail
            refine (wakes_is _).mono ?_; rintro e w3 ⟨rfl, hx3⟩
            go_wp2
            go_ret
            exact ⟨rfl, X5.out.trans hx3⟩
end Go.Proofs.Ytgapjglijpdkmaa
