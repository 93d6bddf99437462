/- The walk of OrderDrops. -/
import Derived.Test.YtgapjglijpdkmaaOrdO
namespace Go.Proofs.Ytgapjglijpdkmaa
open Go.RowKit Go.Maps Heap Go.Sort Go.Shelf
set_option maxHeartbeats 8000000
set_option maxRecDepth 100000
theorem drops_walk {v : Value} {l : List (Int × Int)} {k r : Int} {w : World} (hv : Pair8 w v l) (hk : -128 ≤ k ∧ k ≤ 127) (hr : -128 ≤ r ∧ r ≤ 127) : Calls Try.prog 5 #[v, .int .i8 k, .int .i8 r] w (TrueExt w) := by
  obtain ⟨q, c, rfl, hc1, hc2, hc⟩ := hv
  unfold maxLen at hc2
  have HC := Lib.hid hc
  clear hc
  by_cases hlen : 40 < l.length
  · have i0 : (40 : Int) < (l.length : Int) := by omega
    go_enter Try.func5, Try.ntmps5
    go_wp2_with fail
    refine (q1_new w).mono ?_; rintro e w1 ⟨qb, rfl, H1⟩
    have K1 := Lib.hid H1
    clear H1
    go_wp2_with fail
    refine (q2_new K1.out).mono ?_; rintro e w2 ⟨qc, rfl, H2⟩
    have X2 := Lib.hid H2.world
    clear H2
    go_wp2_with fail
    refine (wakes_is _).mono ?_; rintro e w3 ⟨rfl, hx3⟩
    go_wp2
    go_ret
    exact ⟨rfl, X2.out.trans hx3⟩
  · have i0 : ¬ (40 : Int) < (l.length : Int) := by omega
    go_enter Try.func5, Try.ntmps5
    go_wp2_with fail
    refine (q1_new w).mono ?_; rintro e w1 ⟨qb, rfl, H1⟩
    have K1 := Lib.hid H1
    clear H1
    go_wp2_with fail
    refine (q2_new K1.out).mono ?_; rintro e w2 ⟨qc, rfl, H2⟩
    have K2 := Lib.hid H2
    clear H2
    go_wp2_with fail
    have w1k : IntKind.i64.wrap k = k := IntWalk.i64_in _ (by omega)
    have w1r : IntKind.i64.wrap r = r := IntWalk.i64_in _ (by omega)
    go_loopw [9, 10] (fun f i wr => ∃ j : Nat, j ≤ l.length ∧ i = .int .i64 j ∧ f = .bool ((l.take j).any fun e => e.1 == k) ∧ Q2 w wr qb (pushed (l.take j)) qc (pushed (dropK (l.take j) k))) (fun _ i _ => l.length - (intOf i).toNat)
    case atStart => exact ⟨0, by omega, rfl, rfl, K2.out⟩
    case round =>
      obtain ⟨j, hj, rfl, rfl, hQ⟩ := hrel
      have KR := Lib.hid hQ
      clear hQ
      by_cases hlt : j < l.length
      · obtain ⟨b1, b2, bb, off, rfl, p0, p1⟩ := HC.out j _ (List.getElem?_eq_getElem hlt)
        have HP0 := Lib.hid p0
        have HP1 := Lib.hid p1
        have e0 := KR.out.world
        have P0 := e0.cell p0
        have P1 := e0.cell p1
        have hS : (pushed (l.take j)).length ≤ 40 := by have := pushed_length (l.take j); rw [List.length_take] at this; omega
        have hTl : (pushed (dropK (l.take j) k)).length ≤ 40 := by
          have h1 := pushed_length (dropK (l.take j) k)
          have h2 : (dropK (l.take j) k).length ≤ (l.take j).length := List.length_filter_le _ _
          rw [List.length_take] at h2
          omega
        have hT : pushed (l.take (j + 1)) = put1 (pushed (l.take j)) l[j] := by rw [List.take_succ_eq_append_getElem hlt, pushed_snoc]
        have hA : ((l.take (j + 1)).any fun e => e.1 == k) = (((l.take j).any fun e => e.1 == k) || l[j].1 == k) := by rw [List.take_succ_eq_append_getElem hlt, List.any_append]; simp
        have hD : dropK (l.take (j + 1)) k = dropK (l.take j) k ++ dropK [l[j]] k := by rw [List.take_succ_eq_append_getElem hlt, dropK_append]
        have HT := Lib.hid hT
        have HAny := Lib.hid hA
        have hD1 : l[j].1 = k → pushed (dropK (l.take (j + 1)) k) = pushed (dropK (l.take j) k) := fun h => by rw [hD, show dropK [l[j]] k = [] by simp [dropK, h], List.append_nil]
        have hD2 : l[j].1 ≠ k → pushed (dropK (l.take (j + 1)) k) = put1 (pushed (dropK (l.take j) k)) l[j] := fun h => by rw [hD, show dropK [l[j]] k = [l[j]] by simp [dropK, h], pushed_snoc]
        have HD1 := Lib.hid hD1
        have HD2 := Lib.hid hD2
        have i1 : (j : Int) < (l.length : Int) := by omega
        clear p0 p1 e0 hT hA hD hD1 hD2
        generalize pushed (l.take j) = S at *
        generalize pushed (dropK (l.take j) k) = T at *
        generalize ((l.take j).any fun e => e.1 == k) = fl at *
        generalize l[j] = x at *
        have s1 : IntKind.i64.wrap x.1 = x.1 := IntWalk.i64_in _ (by omega)
        have s2 : IntKind.i64.wrap x.2 = x.2 := IntWalk.i64_in _ (by omega)
        obtain ⟨xa, xb⟩ := x
        dsimp only at P0 P1 b1 b2 s1 s2 HT HAny HD1 HD2 HP0 HP1
        go_upto_region 8 with fail
        refine wp_region_noPanic ?_
        refine wp_region_last 13 (S := (fun w' => w'.cell? ⟨bb, off + j * 2, none⟩ = some (.int .i8 xa) ∧ w'.cell? ⟨bb, off + j * 2 + 1, none⟩ = some (.int .i8 xb))) (by kernel_rfl) (by kernel_rfl) _ rfl ?_ (fun hHeld => ?_)
        · (exact ⟨(Ext.drew _).cell P0, (Ext.drew _).cell P1⟩)
        simp only [List.take_succ_cons, List.take_zero]
        refine wpAnyH_take (i := 0) (v := ?v1) rfl (by kernel_rfl) (by kernel_rfl) (by kernel_rfl) (fun _ _ _ h => h) (Or.inl ⟨by rfl, ?y1⟩) (by assumption) ?r1
        case y1 => intro w hSw; (try dsimp only at hSw); go_simp; (try with_reducible rfl)
        (try simp only [Act.put, List.setIfInBounds_toArray, List.set_cons_zero, List.set_cons_succ, List.getElem_toArray, List.getElem_cons_zero, List.getElem_cons_succ])
        refine wpAnyH_take (i := 1) (v := ?v2) rfl (by kernel_rfl) (by kernel_rfl) (by kernel_rfl) (fun _ _ _ h => h) (Or.inl ⟨by rfl, ?y2⟩) (by assumption) ?r2
        case y2 => intro w hSw; (try dsimp only at hSw); go_simp; (try with_reducible rfl)
        (try simp only [Act.put, List.setIfInBounds_toArray, List.set_cons_zero, List.set_cons_succ, List.getElem_toArray, List.getElem_cons_zero, List.getElem_cons_succ])
        refine wpAnyH_take (i := 2) (v := ?v3) rfl (by kernel_rfl) (by kernel_rfl) (by kernel_rfl) (fun _ _ _ h => h) (Or.inl ⟨by rfl, ?y3⟩) (by assumption) ?r3
        case y3 => intro w hSw; (try dsimp only at hSw); go_simp; (try with_reducible rfl)
        (try simp only [Act.put, List.setIfInBounds_toArray, List.set_cons_zero, List.set_cons_succ, List.getElem_toArray, List.getElem_cons_zero, List.getElem_cons_succ])
        refine wpAnyH_take (i := 3) (v := ?v4) rfl (by kernel_rfl) (by kernel_rfl) (by kernel_rfl) (fun _ _ _ h => h) (Or.inl ⟨by rfl, ?y4⟩) (by assumption) ?r4
        case y4 => intro w hSw; (try dsimp only at hSw); go_simp; (try with_reducible rfl)
        (try simp only [Act.put, List.setIfInBounds_toArray, List.set_cons_zero, List.set_cons_succ, List.getElem_toArray, List.getElem_cons_zero, List.getElem_cons_succ])
        refine wpAnyH_take (i := 4) (v := ?v5) rfl (by kernel_rfl) (by kernel_rfl) (by kernel_rfl) (fun _ _ _ h => h) (Or.inl ⟨by rfl, ?y5⟩) (by assumption) ?r5
        case y5 => intro w hSw; (try dsimp only at hSw); go_simp; (try with_reducible rfl)
        (try simp only [Act.put, List.setIfInBounds_toArray, List.set_cons_zero, List.set_cons_succ, List.getElem_toArray, List.getElem_cons_zero, List.getElem_cons_succ])
        refine wpAnyH_take (i := 5) (v := ?v6) rfl (by kernel_rfl) (by kernel_rfl) (by kernel_rfl) (fun _ _ _ h => h) (Or.inl ⟨by rfl, ?y6⟩) (by assumption) ?r6
        case y6 => intro w hSw; (try dsimp only at hSw); go_simp; (try with_reducible rfl)
        (try simp only [Act.put, List.setIfInBounds_toArray, List.set_cons_zero, List.set_cons_succ, List.getElem_toArray, List.getElem_cons_zero, List.getElem_cons_succ])
        refine wpAnyH_take (i := 6) (v := ?v7) rfl (by kernel_rfl) (by kernel_rfl) (by kernel_rfl) (fun _ _ _ h => h) (Or.inl ⟨by rfl, ?y7⟩) (by assumption) ?r7
        case y7 => intro w hSw; (try dsimp only at hSw); go_simp; (try with_reducible rfl)
        (try simp only [Act.put, List.setIfInBounds_toArray, List.set_cons_zero, List.set_cons_succ, List.getElem_toArray, List.getElem_cons_zero, List.getElem_cons_succ])
        refine wpAnyH_take (i := 7) (v := ?v8) rfl (by kernel_rfl) (by kernel_rfl) (by kernel_rfl) (fun _ _ _ h => h) (Or.inl ⟨by rfl, ?y8⟩) (by assumption) ?r8
        case y8 => intro w hSw; (try dsimp only at hSw); go_simp; (try with_reducible rfl)
        (try simp only [Act.put, List.setIfInBounds_toArray, List.set_cons_zero, List.set_cons_succ, List.getElem_toArray, List.getElem_cons_zero, List.getElem_cons_succ])
        refine wpAnyH_take (i := 8) (v := ?v9) rfl (by kernel_rfl) (by kernel_rfl) (by kernel_rfl) (fun _ _ _ h => h) (Or.inl ⟨by rfl, ?y9⟩) (by assumption) ?r9
        case y9 => intro w hSw; (try dsimp only at hSw); go_simp; (try with_reducible rfl)
        (try simp only [Act.put, List.setIfInBounds_toArray, List.set_cons_zero, List.set_cons_succ, List.getElem_toArray, List.getElem_cons_zero, List.getElem_cons_succ])
        refine wpAnyH_take (i := 9) (v := ?v10) rfl (by kernel_rfl) (by kernel_rfl) (by kernel_rfl) (fun _ _ _ h => h) (Or.inl ⟨by rfl, ?y10⟩) (by assumption) ?r10
        case y10 => intro w hSw; (try dsimp only at hSw); go_simp; (try with_reducible rfl)
        (try simp only [Act.put, List.setIfInBounds_toArray, List.set_cons_zero, List.set_cons_succ, List.getElem_toArray, List.getElem_cons_zero, List.getElem_cons_succ])
        refine wpAnyH_take (i := 10) (v := ?v11) rfl (by kernel_rfl) (by kernel_rfl) (by kernel_rfl) (fun _ _ _ h => h) (Or.inl ⟨by rfl, ?y11⟩) (by assumption) ?r11
        case y11 => intro w hSw; (try dsimp only at hSw); go_simp; (try with_reducible rfl)
        (try simp only [Act.put, List.setIfInBounds_toArray, List.set_cons_zero, List.set_cons_succ, List.getElem_toArray, List.getElem_cons_zero, List.getElem_cons_succ])
        refine wpAnyH_take (i := 11) (v := ?v12) rfl (by kernel_rfl) (by kernel_rfl) (by kernel_rfl) (fun _ _ _ h => h) (Or.inl ⟨by rfl, ?y12⟩) (by assumption) ?r12
        case y12 => intro w hSw; (try dsimp only at hSw); go_simp; (try with_reducible rfl)
        (try simp only [Act.put, List.setIfInBounds_toArray, List.set_cons_zero, List.set_cons_succ, List.getElem_toArray, List.getElem_cons_zero, List.getElem_cons_succ])
        refine wpAnyH_take (i := 12) (v := ?v13) rfl (by kernel_rfl) (by kernel_rfl) (by kernel_rfl) (fun _ _ _ h => h) (Or.inl ⟨by rfl, ?y13⟩) (by assumption) ?r13
        case y13 => intro w hSw; (try dsimp only at hSw); go_simp; (try with_reducible rfl)
        (try simp only [Act.put, List.setIfInBounds_toArray, List.set_cons_zero, List.set_cons_succ, List.getElem_toArray, List.getElem_cons_zero, List.getElem_cons_succ])
        refine wpAnyH_done (by kernel_rfl) ?_ _
        show wpList _ _ _ _ _ _
        go_wp2_with fail
        refine (q2_push (KR.out.ext (Ext.drew _)) (by omega) xa xb).mono ?_; rintro e w3 ⟨rfl, hq3⟩
        have P0' := hq3.world.cell HP0.out
        have P1' := hq3.world.cell HP1.out
        have K3 := Lib.hid hq3
        clear hq3 P0 P1
        go_wp2
        refine NoPanic.normal ?_
        cases fl
        · by_cases h1 : xa = k
          · have _t := h1
            go_wp2_with fail
            exact ⟨⟨j + 1, by omega, by go_num, by rw [HAny.out]; simp [h1], by rw [HT.out, HD1.out h1]; exact K3.out⟩, by simp [intOf]; omega⟩
          · have _t := h1
            go_upto_region 11 with fail
            refine wp_region_noPanic ?_
            refine wp_region_last 13 (S := (fun w' => w'.cell? ⟨bb, off + j * 2, none⟩ = some (.int .i8 xa) ∧ w'.cell? ⟨bb, off + j * 2 + 1, none⟩ = some (.int .i8 xb))) (by kernel_rfl) (by kernel_rfl) _ rfl ?_ (fun hHeld => ?_)
            · (exact ⟨(Ext.drew _).cell P0', (Ext.drew _).cell P1'⟩)
            simp only [List.take_succ_cons, List.take_zero]
            refine wpAnyH_take (i := 0) (v := ?v14) rfl (by kernel_rfl) (by kernel_rfl) (by kernel_rfl) (fun _ _ _ h => h) (Or.inl ⟨by rfl, ?y14⟩) (by assumption) ?r14
            case y14 => intro w hSw; (try dsimp only at hSw); go_simp; (try with_reducible rfl)
            (try simp only [Act.put, List.setIfInBounds_toArray, List.set_cons_zero, List.set_cons_succ, List.getElem_toArray, List.getElem_cons_zero, List.getElem_cons_succ])
            refine wpAnyH_take (i := 1) (v := ?v15) rfl (by kernel_rfl) (by kernel_rfl) (by kernel_rfl) (fun _ _ _ h => h) (Or.inl ⟨by rfl, ?y15⟩) (by assumption) ?r15
            case y15 => intro w hSw; (try dsimp only at hSw); go_simp; (try with_reducible rfl)
            (try simp only [Act.put, List.setIfInBounds_toArray, List.set_cons_zero, List.set_cons_succ, List.getElem_toArray, List.getElem_cons_zero, List.getElem_cons_succ])
            refine wpAnyH_take (i := 2) (v := ?v16) rfl (by kernel_rfl) (by kernel_rfl) (by kernel_rfl) (fun _ _ _ h => h) (Or.inl ⟨by rfl, ?y16⟩) (by assumption) ?r16
            case y16 => intro w hSw; (try dsimp only at hSw); go_simp; (try with_reducible rfl)
            (try simp only [Act.put, List.setIfInBounds_toArray, List.set_cons_zero, List.set_cons_succ, List.getElem_toArray, List.getElem_cons_zero, List.getElem_cons_succ])
            refine wpAnyH_take (i := 3) (v := ?v17) rfl (by kernel_rfl) (by kernel_rfl) (by kernel_rfl) (fun _ _ _ h => h) (Or.inl ⟨by rfl, ?y17⟩) (by assumption) ?r17
            case y17 => intro w hSw; (try dsimp only at hSw); go_simp; (try with_reducible rfl)
            (try simp only [Act.put, List.setIfInBounds_toArray, List.set_cons_zero, List.set_cons_succ, List.getElem_toArray, List.getElem_cons_zero, List.getElem_cons_succ])
            refine wpAnyH_take (i := 4) (v := ?v18) rfl (by kernel_rfl) (by kernel_rfl) (by kernel_rfl) (fun _ _ _ h => h) (Or.inl ⟨by rfl, ?y18⟩) (by assumption) ?r18
            case y18 => intro w hSw; (try dsimp only at hSw); go_simp; (try with_reducible rfl)
            (try simp only [Act.put, List.setIfInBounds_toArray, List.set_cons_zero, List.set_cons_succ, List.getElem_toArray, List.getElem_cons_zero, List.getElem_cons_succ])
            refine wpAnyH_take (i := 5) (v := ?v19) rfl (by kernel_rfl) (by kernel_rfl) (by kernel_rfl) (fun _ _ _ h => h) (Or.inl ⟨by rfl, ?y19⟩) (by assumption) ?r19
            case y19 => intro w hSw; (try dsimp only at hSw); go_simp; (try with_reducible rfl)
            (try simp only [Act.put, List.setIfInBounds_toArray, List.set_cons_zero, List.set_cons_succ, List.getElem_toArray, List.getElem_cons_zero, List.getElem_cons_succ])
            refine wpAnyH_take (i := 6) (v := ?v20) rfl (by kernel_rfl) (by kernel_rfl) (by kernel_rfl) (fun _ _ _ h => h) (Or.inl ⟨by rfl, ?y20⟩) (by assumption) ?r20
            case y20 => intro w hSw; (try dsimp only at hSw); go_simp; (try with_reducible rfl)
            (try simp only [Act.put, List.setIfInBounds_toArray, List.set_cons_zero, List.set_cons_succ, List.getElem_toArray, List.getElem_cons_zero, List.getElem_cons_succ])
            refine wpAnyH_take (i := 7) (v := ?v21) rfl (by kernel_rfl) (by kernel_rfl) (by kernel_rfl) (fun _ _ _ h => h) (Or.inl ⟨by rfl, ?y21⟩) (by assumption) ?r21
            case y21 => intro w hSw; (try dsimp only at hSw); go_simp; (try with_reducible rfl)
            (try simp only [Act.put, List.setIfInBounds_toArray, List.set_cons_zero, List.set_cons_succ, List.getElem_toArray, List.getElem_cons_zero, List.getElem_cons_succ])
            refine wpAnyH_take (i := 8) (v := ?v22) rfl (by kernel_rfl) (by kernel_rfl) (by kernel_rfl) (fun _ _ _ h => h) (Or.inl ⟨by rfl, ?y22⟩) (by assumption) ?r22
            case y22 => intro w hSw; (try dsimp only at hSw); go_simp; (try with_reducible rfl)
            (try simp only [Act.put, List.setIfInBounds_toArray, List.set_cons_zero, List.set_cons_succ, List.getElem_toArray, List.getElem_cons_zero, List.getElem_cons_succ])
            refine wpAnyH_take (i := 9) (v := ?v23) rfl (by kernel_rfl) (by kernel_rfl) (by kernel_rfl) (fun _ _ _ h => h) (Or.inl ⟨by rfl, ?y23⟩) (by assumption) ?r23
            case y23 => intro w hSw; (try dsimp only at hSw); go_simp; (try with_reducible rfl)
            (try simp only [Act.put, List.setIfInBounds_toArray, List.set_cons_zero, List.set_cons_succ, List.getElem_toArray, List.getElem_cons_zero, List.getElem_cons_succ])
            refine wpAnyH_take (i := 10) (v := ?v24) rfl (by kernel_rfl) (by kernel_rfl) (by kernel_rfl) (fun _ _ _ h => h) (Or.inl ⟨by rfl, ?y24⟩) (by assumption) ?r24
            case y24 => intro w hSw; (try dsimp only at hSw); go_simp; (try with_reducible rfl)
            (try simp only [Act.put, List.setIfInBounds_toArray, List.set_cons_zero, List.set_cons_succ, List.getElem_toArray, List.getElem_cons_zero, List.getElem_cons_succ])
            refine wpAnyH_take (i := 11) (v := ?v25) rfl (by kernel_rfl) (by kernel_rfl) (by kernel_rfl) (fun _ _ _ h => h) (Or.inl ⟨by rfl, ?y25⟩) (by assumption) ?r25
            case y25 => intro w hSw; (try dsimp only at hSw); go_simp; (try with_reducible rfl)
            (try simp only [Act.put, List.setIfInBounds_toArray, List.set_cons_zero, List.set_cons_succ, List.getElem_toArray, List.getElem_cons_zero, List.getElem_cons_succ])
            refine wpAnyH_take (i := 12) (v := ?v26) rfl (by kernel_rfl) (by kernel_rfl) (by kernel_rfl) (fun _ _ _ h => h) (Or.inl ⟨by rfl, ?y26⟩) (by assumption) ?r26
            case y26 => intro w hSw; (try dsimp only at hSw); go_simp; (try with_reducible rfl)
            (try simp only [Act.put, List.setIfInBounds_toArray, List.set_cons_zero, List.set_cons_succ, List.getElem_toArray, List.getElem_cons_zero, List.getElem_cons_succ])
            refine wpAnyH_done (by kernel_rfl) ?_ _
            show wpList _ _ _ _ _ _
            go_wp2_with fail
            refine (q2_push (K3.out.ext (Ext.drew _)).comm (by omega) xa xb).mono ?_; rintro e w4 ⟨rfl, hq4⟩
            have K4 := Lib.hid hq4.comm
            clear hq4
            go_wp2
            refine NoPanic.normal ?_
            go_wp2_with fail
            exact ⟨⟨j + 1, by omega, by go_num, by rw [HAny.out]; simp [h1], by rw [HT.out, HD2.out h1]; exact K4.out⟩, by simp [intOf]; omega⟩
        · by_cases h1 : xa = k
          · have _t := h1
            go_wp2_with fail
            exact ⟨⟨j + 1, by omega, by go_num, by rw [HAny.out]; simp [h1], by rw [HT.out, HD1.out h1]; exact K3.out⟩, by simp [intOf]; omega⟩
          · have _t := h1
            go_upto_region 11 with fail
            refine wp_region_noPanic ?_
            refine wp_region_last 13 (S := (fun w' => w'.cell? ⟨bb, off + j * 2, none⟩ = some (.int .i8 xa) ∧ w'.cell? ⟨bb, off + j * 2 + 1, none⟩ = some (.int .i8 xb))) (by kernel_rfl) (by kernel_rfl) _ rfl ?_ (fun hHeld => ?_)
            · (exact ⟨(Ext.drew _).cell P0', (Ext.drew _).cell P1'⟩)
            simp only [List.take_succ_cons, List.take_zero]
            refine wpAnyH_take (i := 0) (v := ?v27) rfl (by kernel_rfl) (by kernel_rfl) (by kernel_rfl) (fun _ _ _ h => h) (Or.inl ⟨by rfl, ?y27⟩) (by assumption) ?r27
            case y27 => intro w hSw; (try dsimp only at hSw); go_simp; (try with_reducible rfl)
            (try simp only [Act.put, List.setIfInBounds_toArray, List.set_cons_zero, List.set_cons_succ, List.getElem_toArray, List.getElem_cons_zero, List.getElem_cons_succ])
            refine wpAnyH_take (i := 1) (v := ?v28) rfl (by kernel_rfl) (by kernel_rfl) (by kernel_rfl) (fun _ _ _ h => h) (Or.inl ⟨by rfl, ?y28⟩) (by assumption) ?r28
            case y28 => intro w hSw; (try dsimp only at hSw); go_simp; (try with_reducible rfl)
            (try simp only [Act.put, List.setIfInBounds_toArray, List.set_cons_zero, List.set_cons_succ, List.getElem_toArray, List.getElem_cons_zero, List.getElem_cons_succ])
            refine wpAnyH_take (i := 2) (v := ?v29) rfl (by kernel_rfl) (by kernel_rfl) (by kernel_rfl) (fun _ _ _ h => h) (Or.inl ⟨by rfl, ?y29⟩) (by assumption) ?r29
            case y29 => intro w hSw; (try dsimp only at hSw); go_simp; (try with_reducible rfl)
            (try simp only [Act.put, List.setIfInBounds_toArray, List.set_cons_zero, List.set_cons_succ, List.getElem_toArray, List.getElem_cons_zero, List.getElem_cons_succ])
            refine wpAnyH_take (i := 3) (v := ?v30) rfl (by kernel_rfl) (by kernel_rfl) (by kernel_rfl) (fun _ _ _ h => h) (Or.inl ⟨by rfl, ?y30⟩) (by assumption) ?r30
            case y30 => intro w hSw; (try dsimp only at hSw); go_simp; (try with_reducible rfl)
            (try simp only [Act.put, List.setIfInBounds_toArray, List.set_cons_zero, List.set_cons_succ, List.getElem_toArray, List.getElem_cons_zero, List.getElem_cons_succ])
            refine wpAnyH_take (i := 4) (v := ?v31) rfl (by kernel_rfl) (by kernel_rfl) (by kernel_rfl) (fun _ _ _ h => h) (Or.inl ⟨by rfl, ?y31⟩) (by assumption) ?r31
            case y31 => intro w hSw; (try dsimp only at hSw); go_simp; (try with_reducible rfl)
            (try simp only [Act.put, List.setIfInBounds_toArray, List.set_cons_zero, List.set_cons_succ, List.getElem_toArray, List.getElem_cons_zero, List.getElem_cons_succ])
            refine wpAnyH_take (i := 5) (v := ?v32) rfl (by kernel_rfl) (by kernel_rfl) (by kernel_rfl) (fun _ _ _ h => h) (Or.inl ⟨by rfl, ?y32⟩) (by assumption) ?r32
            case y32 => intro w hSw; (try dsimp only at hSw); go_simp; (try with_reducible rfl)
            (try simp only [Act.put, List.setIfInBounds_toArray, List.set_cons_zero, List.set_cons_succ, List.getElem_toArray, List.getElem_cons_zero, List.getElem_cons_succ])
            refine wpAnyH_take (i := 6) (v := ?v33) rfl (by kernel_rfl) (by kernel_rfl) (by kernel_rfl) (fun _ _ _ h => h) (Or.inl ⟨by rfl, ?y33⟩) (by assumption) ?r33
            case y33 => intro w hSw; (try dsimp only at hSw); go_simp; (try with_reducible rfl)
            (try simp only [Act.put, List.setIfInBounds_toArray, List.set_cons_zero, List.set_cons_succ, List.getElem_toArray, List.getElem_cons_zero, List.getElem_cons_succ])
            refine wpAnyH_take (i := 7) (v := ?v34) rfl (by kernel_rfl) (by kernel_rfl) (by kernel_rfl) (fun _ _ _ h => h) (Or.inl ⟨by rfl, ?y34⟩) (by assumption) ?r34
            case y34 => intro w hSw; (try dsimp only at hSw); go_simp; (try with_reducible rfl)
            (try simp only [Act.put, List.setIfInBounds_toArray, List.set_cons_zero, List.set_cons_succ, List.getElem_toArray, List.getElem_cons_zero, List.getElem_cons_succ])
            refine wpAnyH_take (i := 8) (v := ?v35) rfl (by kernel_rfl) (by kernel_rfl) (by kernel_rfl) (fun _ _ _ h => h) (Or.inl ⟨by rfl, ?y35⟩) (by assumption) ?r35
            case y35 => intro w hSw; (try dsimp only at hSw); go_simp; (try with_reducible rfl)
            (try simp only [Act.put, List.setIfInBounds_toArray, List.set_cons_zero, List.set_cons_succ, List.getElem_toArray, List.getElem_cons_zero, List.getElem_cons_succ])
            refine wpAnyH_take (i := 9) (v := ?v36) rfl (by kernel_rfl) (by kernel_rfl) (by kernel_rfl) (fun _ _ _ h => h) (Or.inl ⟨by rfl, ?y36⟩) (by assumption) ?r36
            case y36 => intro w hSw; (try dsimp only at hSw); go_simp; (try with_reducible rfl)
            (try simp only [Act.put, List.setIfInBounds_toArray, List.set_cons_zero, List.set_cons_succ, List.getElem_toArray, List.getElem_cons_zero, List.getElem_cons_succ])
            refine wpAnyH_take (i := 10) (v := ?v37) rfl (by kernel_rfl) (by kernel_rfl) (by kernel_rfl) (fun _ _ _ h => h) (Or.inl ⟨by rfl, ?y37⟩) (by assumption) ?r37
            case y37 => intro w hSw; (try dsimp only at hSw); go_simp; (try with_reducible rfl)
            (try simp only [Act.put, List.setIfInBounds_toArray, List.set_cons_zero, List.set_cons_succ, List.getElem_toArray, List.getElem_cons_zero, List.getElem_cons_succ])
            refine wpAnyH_take (i := 11) (v := ?v38) rfl (by kernel_rfl) (by kernel_rfl) (by kernel_rfl) (fun _ _ _ h => h) (Or.inl ⟨by rfl, ?y38⟩) (by assumption) ?r38
            case y38 => intro w hSw; (try dsimp only at hSw); go_simp; (try with_reducible rfl)
            (try simp only [Act.put, List.setIfInBounds_toArray, List.set_cons_zero, List.set_cons_succ, List.getElem_toArray, List.getElem_cons_zero, List.getElem_cons_succ])
            refine wpAnyH_take (i := 12) (v := ?v39) rfl (by kernel_rfl) (by kernel_rfl) (by kernel_rfl) (fun _ _ _ h => h) (Or.inl ⟨by rfl, ?y39⟩) (by assumption) ?r39
            case y39 => intro w hSw; (try dsimp only at hSw); go_simp; (try with_reducible rfl)
            (try simp only [Act.put, List.setIfInBounds_toArray, List.set_cons_zero, List.set_cons_succ, List.getElem_toArray, List.getElem_cons_zero, List.getElem_cons_succ])
            refine wpAnyH_done (by kernel_rfl) ?_ _
            show wpList _ _ _ _ _ _
            go_wp2_with fail
            refine (q2_push (K3.out.ext (Ext.drew _)).comm (by omega) xa xb).mono ?_; rintro e w4 ⟨rfl, hq4⟩
            have K4 := Lib.hid hq4.comm
            clear hq4
            go_wp2
            refine NoPanic.normal ?_
            go_wp2_with fail
            exact ⟨⟨j + 1, by omega, by go_num, by rw [HAny.out]; simp [h1], by rw [HT.out, HD2.out h1]; exact K4.out⟩, by simp [intOf]; omega⟩
      · obtain rfl : j = l.length := by omega
        rw [List.take_length] at KR ⊢
        have hS : (pushed l).length ≤ 40 := by have := pushed_length l; omega
        have hD := pushed_drop l k
        rw [← hD] at KR
        have hdl : (dropK (pushed l) k).length ≤ 40 := by have h2 : (dropK (pushed l) k).length ≤ (pushed l).length := List.length_filter_le _ _; omega
        have hF : (l.any fun e => e.1 == k) = !fresh (pushed l) k := by rw [fresh_pushed]; simp
        rw [hF]
        clear hD hF
        generalize pushed l = S at *
        have HQD := Lib.hid (q2_drop KR.out (by omega) k)
        generalize fresh S k = fr at *
        have hS2 : fresh (dropK S k) k = true := fresh_dropK S k
        generalize dropK S k = T at *
        go_wp2_with fail
        refine HQD.out.mono ?_; rintro e w3 ⟨rfl, hq3⟩
        have K3 := Lib.hid hq3
        clear hq3
        go_wp2_with fail
        refine (q2_list K3.out (by omega)).mono ?_; rintro e w4 ⟨va, rfl, hva, x4⟩
        have HA4 := Lib.hid hva
        have K4 := Lib.hid (K3.out.ext x4)
        clear hva x4
        go_wp2_with fail
        refine (q2_list K4.out.comm (by omega)).mono ?_; rintro e w5 ⟨vb, rfl, hvb, x5⟩
        have HA5 := Lib.hid (HA4.out.ext x5)
        have HB5 := Lib.hid hvb
        have K5 := Lib.hid (K4.out.ext x5)
        clear hvb x5
        go_wp2_with fail
        refine (keep_pairs HA5.out HB5.out (by omega)).mono ?_; rintro e w6 ⟨rfl, x6⟩
        have K6 := Lib.hid (K5.out.ext x6)
        clear x6
        rw [decide_eq_true rfl]
        go_wp2_with fail
        refine (q2_push K6.out (by omega) k r).mono ?_; rintro e w7 ⟨rfl, hq7⟩
        rw [hS2]
        have hL := put1_length T (k, r)
        rw [if_pos hS2] at hL
        have HIN := Lib.hid (show (k, r) ∈ put1 T (k, r) by unfold put1; rw [if_pos hS2]; exact (sortE_perm _).mem_iff.2 (by simp))
        have K7 := Lib.hid hq7
        have HL := Lib.hid hL
        clear hq7 hS2 hL
        generalize put1 T (k, r) = M at *
        have hMl : M.length ≤ 41 := by have := HL.out; omega
        go_wp2_with fail
        refine (q2_list K7.out (by omega)).mono ?_; rintro e w8 ⟨vm, rfl, hvm, x8⟩
        have K8 := Lib.hid (K7.out.ext x8)
        have HST := Lib.hid K7.out.sorted
        obtain ⟨qm, cm, rfl, hm1, hm2, hmc⟩ := hvm
        have HMC := Lib.hid hmc
        have hep := run_equal_pair
        unfold maxLen at hm2
        clear hmc x8
        go_wp2_with fail
        go_loopw [12, 13] (fun f i wr => ∃ j : Nat, j ≤ M.length ∧ i = .int .i64 j ∧ f = .bool ((M.take j).any (· == (k, r))) ∧ Ext w8 wr) (fun _ i _ => M.length - (intOf i).toNat)
        case atStart => exact ⟨0, by omega, rfl, rfl, Ext.refl _⟩
        case round =>
          obtain ⟨j, hj, rfl, rfl, hx⟩ := hrel
          have HXR := Lib.hid hx
          by_cases hjl : j < M.length
          · obtain ⟨bm, om, rfl, p0, p1⟩ := HMC.out j _ (List.getElem?_eq_getElem hjl)
            have P0 := hx.cell p0
            have P1 := hx.cell p1
            have hT : (M.take (j + 1)).any (· == (k, r)) = ((M.take j).any (· == (k, r)) || M[j] == (k, r)) := by rw [List.take_succ_eq_append_getElem hjl, List.any_append]; simp
            have HT := Lib.hid hT
            have HZ := Lib.hid (show j ≠ 0 → w8.cell? ⟨bm, om + (j - 1) * 2, none⟩ = some (.int .i64 (nth M (j - 1)).1) ∧ w8.cell? ⟨bm, om + (j - 1) * 2 + 1, none⟩ = some (.int .i64 (nth M (j - 1)).2) ∧ lt (nth M (j - 1)) M[j] from fun h0 => by
              obtain ⟨b5, o5, hq5, p2, p3⟩ := HMC.out (j - 1) _ (List.getElem?_eq_getElem (by omega))
              simp only [Option.some.injEq, Addr.mk.injEq, and_true] at hq5
              obtain ⟨rfl, rfl⟩ := hq5
              rw [nth_ge (by omega)]
              exact ⟨p2, p3, List.pairwise_iff_getElem.1 HST.out (j - 1) j (by omega) hjl (by omega)⟩)
            have i1 : (j : Int) < (M.length : Int) := by omega
            clear p0 p1 hT hx
            generalize (M.take j).any (· == (k, r)) = fl at *
            generalize M[j] = y at *
            cases fl
            · skip
              by_cases h0 : j = 0
              · have t4 : decide (0 < j) = false := decide_eq_false (by omega)
                clear HZ h0
                obtain ⟨ya, yb⟩ := y
                dsimp only at P0 P1
                go_wp2_with fail
                go_big_quiet (fail)
                go_wp2
                exact ⟨⟨j + 1, by omega, by go_num, by rw [HT.out]; simp; rfl, HXR.out.trans (Ext.drewN _ _)⟩, by simp [intOf]; omega⟩
              · obtain ⟨p2, p3, hlt2⟩ := HZ.out h0
                have P2 := HXR.out.cell p2; have P3 := HXR.out.cell p3
                have t4 : decide (0 < j) = true := decide_eq_true (by omega)
                have t4' : 0 < j := by omega
                have s3 : IntKind.i64.wrap ((j : Int) - 1) = (j : Int) - 1 := IntWalk.i64_in _ (by omega)
                have s4 : ((j : Int) - 1).toNat = j - 1 := by omega
                have s5 : (0 : Int) ≤ (j : Int) - 1 := by omega
                have s6 : (j : Int) - 1 < (M.length : Int) := by omega
                unfold lt at hlt2
                clear HZ h0 p2 p3
                generalize nth M (j - 1) = z at *
                obtain ⟨ya, yb⟩ := y
                obtain ⟨za, zb⟩ := z
                dsimp only at P0 P1 P2 P3 hlt2
                have t5 : decide (yb < zb) = false := decide_eq_false (by omega)
                by_cases h2 : yb = zb
                · subst h2
                  have t6 : decide (ya ≤ za) = false := decide_eq_false (by omega)
                  clear hlt2
                  go_wp2_with fail
                  go_big_quiet (fail)
                  go_wp2
                  exact ⟨⟨j + 1, by omega, by go_num, by rw [HT.out]; simp; rfl, HXR.out.trans (Ext.drewN _ _)⟩, by simp [intOf]; omega⟩
                · have t7 : (yb == zb) = false := beq_false_of_ne h2
                  clear hlt2
                  go_wp2_with fail
                  go_big_quiet (fail)
                  go_wp2
                  exact ⟨⟨j + 1, by omega, by go_num, by rw [HT.out]; simp; rfl, HXR.out.trans (Ext.drewN _ _)⟩, by simp [intOf]; omega⟩
            · skip
              by_cases h0 : j = 0
              · have t4 : decide (0 < j) = false := decide_eq_false (by omega)
                clear HZ h0
                obtain ⟨ya, yb⟩ := y
                dsimp only at P0 P1
                go_wp2_with fail
                go_big_quiet (fail)
                go_wp2
                exact ⟨⟨j + 1, by omega, by go_num, by rw [HT.out]; rfl, HXR.out.trans (Ext.drewN _ _)⟩, by simp [intOf]; omega⟩
              · obtain ⟨p2, p3, hlt2⟩ := HZ.out h0
                have P2 := HXR.out.cell p2; have P3 := HXR.out.cell p3
                have t4 : decide (0 < j) = true := decide_eq_true (by omega)
                have t4' : 0 < j := by omega
                have s3 : IntKind.i64.wrap ((j : Int) - 1) = (j : Int) - 1 := IntWalk.i64_in _ (by omega)
                have s4 : ((j : Int) - 1).toNat = j - 1 := by omega
                have s5 : (0 : Int) ≤ (j : Int) - 1 := by omega
                have s6 : (j : Int) - 1 < (M.length : Int) := by omega
                unfold lt at hlt2
                clear HZ h0 p2 p3
                generalize nth M (j - 1) = z at *
                obtain ⟨ya, yb⟩ := y
                obtain ⟨za, zb⟩ := z
                dsimp only at P0 P1 P2 P3 hlt2
                have t5 : decide (yb < zb) = false := decide_eq_false (by omega)
                by_cases h2 : yb = zb
                · subst h2
                  have t6 : decide (ya ≤ za) = false := decide_eq_false (by omega)
                  clear hlt2
                  go_wp2_with fail
                  go_big_quiet (fail)
                  go_wp2
                  exact ⟨⟨j + 1, by omega, by go_num, by rw [HT.out]; rfl, HXR.out.trans (Ext.drewN _ _)⟩, by simp [intOf]; omega⟩
                · have t7 : (yb == zb) = false := beq_false_of_ne h2
                  clear hlt2
                  go_wp2_with fail
                  go_big_quiet (fail)
                  go_wp2
                  exact ⟨⟨j + 1, by omega, by go_num, by rw [HT.out]; rfl, HXR.out.trans (Ext.drewN _ _)⟩, by simp [intOf]; omega⟩
          · obtain rfl : j = M.length := by omega
            have hany : (M.take M.length).any (· == (k, r)) = true := by rw [List.take_length, List.any_eq_true]; exact ⟨_, HIN.out, by simp⟩
            rw [hany]
            have K9 := Lib.hid (K8.out.ext hx)
            have HL9 := Lib.hid (show ((M.length : Nat) : Int) = (T.length : Int) + 1 by rw [HL.out]; simp)
            clear hx HXR
            go_wp2_with fail
            refine (q2_len K9.out).mono ?_; rintro e w9 ⟨rfl, rfl⟩
            rw [HL9.out]
            go_wp2_with fail
            refine (q2_len K9.out.comm).mono ?_; rintro e w10 ⟨rfl, rfl⟩
            have s9 : IntKind.i64.wrap ((T.length : Int) + 1) = (T.length : Int) + 1 := IntWalk.i64_in _ (by omega)
            have X9 := Lib.hid K9.out.world
            go_wp2_with fail
            refine (wakes_is _).mono ?_; rintro e w11 ⟨rfl, hx11⟩
            go_wp2
            go_ret
            exact ⟨rfl, X9.out.trans hx11⟩
theorem drops_walk' {v : Value} {l : List (Int × Int)} {k r : Int} {w : World} (hv : Pair8 w v l) (hk : (Lit.int .i8 k).wf = true) (hr : (Lit.int .i8 r).wf = true) : Calls Try.prog 5 #[v, .int .i8 k, .int .i8 r] w (TrueExt w) :=
  drops_walk hv (bounds_i8 hk) (bounds_i8 hr)
end Go.Proofs.Ytgapjglijpdkmaa
