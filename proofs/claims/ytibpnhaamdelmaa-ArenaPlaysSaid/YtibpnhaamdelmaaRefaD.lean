/- The reference's arena: Cut. -/
import Derived.Test.YtibpnhaamdelmaaRefaC
import Derived.Test.YtibpnhaamdelmaaArenaT
namespace Go.Proofs.Ytibpnhaamdelmaa
open Go.RowKit Go.Maps Arena
set_option maxHeartbeats 4000000
set_option maxRecDepth 100000
attribute [local go_sem ↓] Go.wp_at_zero Go.wp_at_succ
theorem ins_split {x : Nat × Nat} : ∀ (A L : List (Nat × Nat)), (∀ r ∈ A, r.1 < x.1) → (∀ r, L.head? = some r → x.1 < r.1) → ins x (A ++ L) = A ++ x :: L := by
  intro A
  induction A with
  | nil =>
    intro L _ hL
    cases L with
    | nil => rfl
    | cons y L =>
      have := hL y rfl
      simp [ins, this]
  | cons y A ih =>
    intro L hA hL
    have := hA y (.head _)
    rw [List.cons_append, List.cons_append]
    unfold ins
    rw [if_neg (by omega), ih L (fun r hr => hA r (.tail _ hr)) hL]
theorem setMany_snoc (v : Int) : ∀ (vs ws : List Int) (o : Nat), setMany ws o (vs ++ [v]) = (setMany ws o vs).set (o + vs.length) v := by
  intro vs
  induction vs with
  | nil => intro ws o; rfl
  | cons u vs ih =>
    intro ws o
    show setMany (ws.set o u) (o + 1) (vs ++ [v]) = _
    rw [ih]
    show _ = (setMany (ws.set o u) (o + 1) vs).set _ v
    rw [List.length_cons, show o + 1 + vs.length = o + (vs.length + 1) by omega]
/-- where the loop stands: every region ahead ends at or ahead of a; the scan goes on from there -/
def CutAt (k : Nat) (R : List (Nat × Nat)) (j a : Nat) : Prop := (∀ r ∈ R.take j, r.1 + r.2 ≤ a) ∧ scan k 0 R = scan k a (R.drop j)
theorem cutAt_next {n k : Nat} {R : List (Nat × Nat)} {j a : Nat} (hg : Arena.Good n R) (h : CutAt k R j a) (hj : j < R.length) (hno : ¬ a + k ≤ R[j].1) : CutAt k R (j + 1) (R[j].1 + R[j].2) := by
  refine ⟨fun r hr => ?_, ?_⟩
  · rw [List.take_succ_eq_append_getElem hj, List.mem_append, List.mem_singleton] at hr
    rcases hr with hr | rfl
    · obtain ⟨i, hi, rfl⟩ := List.getElem_of_mem hr
      rw [List.length_take] at hi
      rw [List.getElem_take]
      have := good_ne hg (i := i) (j := j) (by omega) hj
      omega
    · exact Nat.le_refl _
  · rw [h.2, List.drop_eq_getElem_cons hj]
    exact (scan_round (r := R[j]) (R := R.drop (j + 1))).2 hno
theorem cutAt_here {n k : Nat} {R : List (Nat × Nat)} {j a : Nat} (hk : 1 ≤ k) (hg : Arena.Good n R) (h : CutAt k R j a) (hj : j < R.length) (hyes : a + k ≤ R[j].1) : scan k 0 R = a ∧ ins (a, k) R = R.take j ++ (a, k) :: R.drop j := by
  refine ⟨by rw [h.2, List.drop_eq_getElem_cons hj]; exact (scan_round (r := R[j]) (R := R.drop (j + 1))).1 hyes, ?_⟩
  have := ins_split (x := (a, k)) (R.take j) (R.drop j) (fun r hr => ?_) (fun r hr => ?_)
  · rw [List.take_append_drop] at this; exact this
  · have h1 := h.1 r hr
    have h2 := (hg.2 r (List.mem_of_mem_take hr)).1
    simp; omega
  · rw [List.drop_eq_getElem_cons hj] at hr
    obtain rfl := Option.some.inj (show some R[j] = some r from hr)
    simp; omega
theorem cutAt_end {n k : Nat} {R : List (Nat × Nat)} {a : Nat} (hg : Arena.Good n R) (h : CutAt k R R.length a) : scan k 0 R = a ∧ ins (a, k) R = R.take R.length ++ (a, k) :: R.drop R.length := by
  refine ⟨by rw [h.2, List.drop_length]; rfl, ?_⟩
  have := ins_split (x := (a, k)) (R.take R.length) (R.drop R.length) (fun r hr => ?_) (fun r hr => ?_)
  · rw [List.take_append_drop] at this; exact this
  · have h1 := h.1 r hr
    have h2 := (hg.2 r (List.mem_of_mem_take hr)).1
    simp; omega
  · rw [List.drop_length] at hr; cases hr
theorem empty_at {w : World} {b B : Nat} (hb : w.heap[b]? = some (.cells #[] 55 (0, 0))) (hB : B ≤ b) : PairRow w B (.slice (some ⟨b, 0, none⟩) 0 0) [] :=
  ⟨rfl, .inr ⟨b, 0, #[], rfl, hB, hb, Nat.le_refl _, Nat.zero_le _, rfl, rfl⟩⟩
theorem pair_at {w : World} {b x y : Nat} (hb : w.heap[b]? = some (.cells #[.int .i64 x, .int .i64 y] 55 (0, 0))) : PairSrc w (.slice (some ⟨b, 0, none⟩) 1 1) [(x, y)] := by
  refine ⟨⟨_, 1, rfl, by simp, by unfold maxLen; omega, fun i z hz => ?_⟩, .inl ⟨_, _, _, rfl⟩⟩
  have hi : i = 0 := by
    have := (List.getElem?_eq_some_iff.1 hz).1
    simp at this; exact this
  subst hi
  simp at hz
  subst hz
  exact ⟨b, 0, rfl, by simp [World.cell?, hb], by simp [World.cell?, hb]⟩
theorem refcut_small {w : World} {q gq B n : Nat} {ws : List Int} {vR : Value} {R : List (Nat × Nat)} (h : RefAt w q gq B n ws vR R) {k : Int} (hk : k < 1) :
    Calls Try.prog 11 #[.pointer (some ⟨q, 0, none⟩), .int .i64 k] w fun e w' => e = .returned (.int .i64 (-1)) ∧ Ext w w' := by
  obtain ⟨qa, ca, rfl, la1, la2, hca⟩ := h.regs.sl
  obtain ⟨c0, c1, _⟩ := h.cells
  have HA := Lib.hid hca
  have HG := Lib.hid h.good
  have hrl := good_len h.good
  have hn := h.least
  have b0 : decide (k < 1) = true := decide_eq_true hk
  unfold maxLen at la2
  clear hca h
  go_enter Try.func11, Try.ntmps11
  go_wp2
  go_loopw [5, 6] (fun a j wx => ∃ (jj aa : Nat), jj ≤ R.length ∧ j = .int .i64 jj ∧ a = .int .i64 aa ∧ aa ≤ n ∧ Ext w wx) (fun _ j _ => R.length - (intOf j).toNat)
  case atStart => exact ⟨0, 0, by omega, rfl, rfl, by omega, Ext.refl _⟩
  case round =>
    obtain ⟨jj, aa, hjj, rfl, rfl, haa, hx⟩ := hrel
    have C0 := hx.cell c0; have C1 := hx.cell c1
    by_cases hlt : jj < R.length
    · have i1 : (jj : Int) < (R.length : Int) := by omega
      obtain ⟨b, off, rfl, p0, p1⟩ := HA.out jj _ (List.getElem?_eq_getElem hlt)
      have P0 := hx.cell p0; have P1 := hx.cell p1
      have hb := HG.out.2 R[jj] (List.getElem_mem hlt)
      clear p0 p1
      generalize R[jj] = y at *
      go_wp2_with fail
      go_big_quiet (fail)
      go_wp2
      exact ⟨⟨jj + 1, y.1 + y.2, by omega, by go_num, by go_num, by omega, hx.trans (Ext.drewN _ _)⟩, by simp [intOf]; omega⟩
    · obtain rfl : jj = R.length := by omega
      go_wp2
      go_ret
      exact ⟨rfl, hx⟩
theorem refcut_is {w : World} {q gq B n : Nat} {ws : List Int} {vR : Value} {R : List (Nat × Nat)} (h : RefAt w q gq B n ws vR R) (hB : B ≤ w.heap.size) {k : Nat} (hk : 1 ≤ k) (hk2 : k ≤ 9223372036854775807) :
    Calls Try.prog 11 #[.pointer (some ⟨q, 0, none⟩), .int .i64 k] w fun e w' =>
      (scan k 0 R + k ≤ n ∧ e = .returned (.int .i64 (scan k 0 R)) ∧ (∃ v, RefAt w' q gq B n (setMany ws (scan k 0 R) (List.replicate k 0)) v (ins (scan k 0 R, k) R)) ∧ Turn [q, gq] w w') ∨
      (¬ scan k 0 R + k ≤ n ∧ e = .returned (.int .i64 (-1)) ∧ Ext w w') := by
  have H := Lib.hid h
  obtain ⟨qa, ca, hvR, la1, la2, hca⟩ := h.regs.sl
  obtain ⟨c0, c1, f1⟩ := h.cells
  have HA := Lib.hid hca
  have HG := Lib.hid h.good
  have hrl := good_len h.good
  have hn := h.least
  have hlt := h.lt
  have hqg := h.ne
  have b0 : decide ((k : Int) < 1) = false := decide_eq_false (by omega)
  unfold maxLen at la2
  clear hca h
  subst hvR
  go_enter Try.func11, Try.ntmps11
  go_upto_block 0 with fail
  go_cut [5, 6] from 8 to 51 (fun a j wx => ∃ (jj aa : Nat), jj ≤ R.length ∧ j = .int .i64 jj ∧ a = .int .i64 aa ∧ aa ≤ n ∧ scan k 0 R = aa ∧ ins (aa, k) R = R.take jj ++ (aa, k) :: R.drop jj ∧ Ext w wx)
  case first =>
    go_wp2_with fail
    go_loopw [5, 6] (fun a j wx => ∃ (jj aa : Nat), jj ≤ R.length ∧ j = .int .i64 jj ∧ a = .int .i64 aa ∧ aa ≤ n ∧ CutAt k R jj aa ∧ Ext w wx) (fun _ j _ => R.length - (intOf j).toNat)
    case atStart => exact ⟨0, 0, by omega, rfl, rfl, by omega, ⟨fun r hr => by simp at hr, rfl⟩, Ext.refl _⟩
    case round =>
      obtain ⟨jj, aa, hjj, rfl, rfl, haa, hcut, hx⟩ := hrel
      have C0 := hx.cell c0; have C1 := hx.cell c1
      have HC := Lib.hid hcut
      clear hcut
      by_cases hlt : jj < R.length
      · have i1 : (jj : Int) < (R.length : Int) := by omega
        obtain ⟨b, off, rfl, p0, p1⟩ := HA.out jj _ (List.getElem?_eq_getElem hlt)
        have P0 := hx.cell p0; have P1 := hx.cell p1
        have hb := HG.out.2 R[jj] (List.getElem_mem hlt)
        clear p0 p1
        by_cases hroom : aa + k ≤ R[jj].1
        · have HN := Lib.hid (cutAt_here hk HG.out HC.out hlt hroom)
          generalize R[jj] = y at *
          have t1 : decide ((y.1 : Int) - (aa : Int) < (k : Int)) = false := decide_eq_false (by omega)
          clear hroom
          go_wp2_with fail
          go_meet
          exact ⟨jj, aa, hjj, rfl, rfl, haa, HN.out.1, HN.out.2, hx⟩
        · have HN := Lib.hid (cutAt_next HG.out HC.out hlt hroom)
          generalize R[jj] = y at *
          have t1 : decide ((y.1 : Int) - (aa : Int) < (k : Int)) = true := decide_eq_true (by omega)
          clear hroom
          go_wp2_with fail
          go_big_quiet (fail)
          go_wp2
          exact ⟨⟨jj + 1, y.1 + y.2, by omega, by go_num, by go_num, by omega, HN.out, hx.trans (Ext.drewN _ _)⟩, by simp [intOf]; omega⟩
      · obtain rfl : jj = R.length := by omega
        have HN := Lib.hid (cutAt_end HG.out HC.out)
        go_wp2_with fail
        go_meet
        exact ⟨R.length, aa, hjj, rfl, rfl, haa, HN.out.1, HN.out.2, hx⟩
  case rest =>
    obtain ⟨jj, aa, hjj, rfl, rfl, haa, hsc, hins, hx⟩ := hcut
    have HSC := Lib.hid hsc; have HIN := Lib.hid hins
    have C0 := hx.cell c0; have C1 := hx.cell c1
    have HX := Lib.hid hx
    clear hsc hins hx
    by_cases hfit : aa + k ≤ n
    · have t1 : decide ((n : Int) - (aa : Int) < (k : Int)) = false := decide_eq_false (by omega)
      have HRC := Lib.hid (H.out.ext HX.out)
      have hBc : B ≤ wc.heap.size := by have := HX.out.size; omega
      have F1 := (HX.out.frozen c1).trans f1
      obtain ⟨u1, hs1, hp1⟩ := head_src (k := jj) HRC.out.regs hjj
      obtain ⟨u2, hs2, hp2⟩ := tail_src (k := jj) HRC.out.regs hjj
      have HP1 := Lib.hid hp1; have HP2 := Lib.hid hp2
      clear hp1 hp2
      go_upto_region 7 with fail
      go_cut [] from 65 to 87 (fun wx => ∃ v, RefAt wx q gq B n ws v (ins (aa, k) R) ∧ Turn [q] wc wx)
      case first =>
        refine wp_region_noPanic ?_
        refine wp_region_last 23 (S := (fun w' => w'.cell? ⟨q, 1, none⟩ = some (.slice qa R.length ca) ∧ w'.frozen? ⟨q, 1, none⟩ = false ∧ Ext wc w')) (by kernel_rfl) (by kernel_rfl) _ rfl ?_ (fun hHeld => ?_)
        · (refine keep3 C1 F1 ?_; first | exact Ext.drew _ | exact e1 | exact e1b | exact e2 | exact e3 | exact e4 | exact e5)
        simp only [List.take_succ_cons, List.take_zero]
        refine wpAnyH_take (i := 0) (v := ?v1) rfl (by kernel_rfl) (by kernel_rfl) (by kernel_rfl) (fun _ _ _ h => h) (Or.inl ⟨by rfl, ?y1⟩) (by assumption) ?r1
        case y1 => intro w hSw; (try dsimp only at hSw); go_simp; (try with_reducible rfl)
        (try simp only [Act.put, List.setIfInBounds_toArray, List.set_cons_zero, List.set_cons_succ, List.getElem_toArray, List.getElem_cons_zero, List.getElem_cons_succ])
        refine wpAnyH_take (i := 2) (v := ?v2) rfl (by kernel_rfl) (by kernel_rfl) (by kernel_rfl) (fun _ _ _ h => h) (Or.inl ⟨by rfl, ?y2⟩) (by assumption) ?r2
        case y2 => intro w hSw; (try dsimp only at hSw); go_simp; (try with_reducible rfl)
        (try simp only [Act.put, List.setIfInBounds_toArray, List.set_cons_zero, List.set_cons_succ, List.getElem_toArray, List.getElem_cons_zero, List.getElem_cons_succ])
        refine wpAnyH_take (i := 3) (v := ?v3) rfl (by kernel_rfl) (by kernel_rfl) (by kernel_rfl) (fun _ _ _ h => h) (Or.inl ⟨by rfl, ?y3⟩) (by assumption) ?r3
        case y3 => intro w hSw; (try dsimp only at hSw); go_simp; (try with_reducible rfl)
        (try simp only [Act.put, List.setIfInBounds_toArray, List.set_cons_zero, List.set_cons_succ, List.getElem_toArray, List.getElem_cons_zero, List.getElem_cons_succ])
        refine wpAnyH_take (i := 4) (v := ?v4) rfl (by kernel_rfl) (by kernel_rfl) (by kernel_rfl) (fun _ _ _ h => h) (Or.inl ⟨by rfl, ?y4⟩) (by assumption) ?r4
        case y4 => intro w hSw; (try dsimp only at hSw); go_simp; (try with_reducible rfl)
        (try simp only [Act.put, List.setIfInBounds_toArray, List.set_cons_zero, List.set_cons_succ, List.getElem_toArray, List.getElem_cons_zero, List.getElem_cons_succ])
        refine wpAnyH_take (i := 5) (v := ?v5) rfl (by kernel_rfl) (by kernel_rfl) (by kernel_rfl) (fun _ _ _ h => h) (Or.inl ⟨by rfl, ?y5⟩) (by assumption) ?r5
        case y5 => intro w hSw; (try dsimp only at hSw); go_simp; (try with_reducible rfl)
        (try simp only [Act.put, List.setIfInBounds_toArray, List.set_cons_zero, List.set_cons_succ, List.getElem_toArray, List.getElem_cons_zero, List.getElem_cons_succ])
        refine wpAnyH_take (i := 6) (v := ?v6) rfl (by kernel_rfl) (by kernel_rfl) (by kernel_rfl) (fun _ _ _ h => h) (Or.inl ⟨by rfl, ?y6⟩) (by assumption) ?r6
        case y6 => intro w hSw; (try dsimp only at hSw); go_simp; (try with_reducible rfl)
        (try simp only [Act.put, List.setIfInBounds_toArray, List.set_cons_zero, List.set_cons_succ, List.getElem_toArray, List.getElem_cons_zero, List.getElem_cons_succ])
        refine wpAnyH_take (i := 7) (v := ?v7) rfl (by kernel_rfl) (by kernel_rfl) (by kernel_rfl) (fun _ _ _ h => h) (Or.inl ⟨by rfl, ?y7⟩) (by assumption) ?r7
        case y7 => intro w hSw; (try dsimp only at hSw); go_simp; (try with_reducible rfl)
        (try simp only [Act.put, List.setIfInBounds_toArray, List.set_cons_zero, List.set_cons_succ, List.getElem_toArray, List.getElem_cons_zero, List.getElem_cons_succ])
        refine wpAnyH_take (i := 9) (v := ?v8) rfl (by kernel_rfl) (by kernel_rfl) (by kernel_rfl) (fun _ _ _ h => h) (Or.inl ⟨by rfl, ?y8⟩) (by assumption) ?r8
        case y8 => intro w hSw; (try dsimp only at hSw); go_simp; (try with_reducible rfl)
        (try simp only [Act.put, List.setIfInBounds_toArray, List.set_cons_zero, List.set_cons_succ, List.getElem_toArray, List.getElem_cons_zero, List.getElem_cons_succ])
        refine wpAnyH_take (i := 10) (v := ?v9) rfl (by kernel_rfl) (by kernel_rfl) (by kernel_rfl) (fun _ _ _ h => h) (Or.inl ⟨by rfl, ?y9⟩) (by assumption) ?r9
        case y9 => intro w hSw; (try dsimp only at hSw); go_simp; (try with_reducible rfl)
        (try simp only [Act.put, List.setIfInBounds_toArray, List.set_cons_zero, List.set_cons_succ, List.getElem_toArray, List.getElem_cons_zero, List.getElem_cons_succ])
        refine wpAnyH_take (i := 11) (v := ?v10) rfl (by kernel_rfl) (by kernel_rfl) (by kernel_rfl) (fun _ _ _ h => h) (Or.inl ⟨by rfl, ?y10⟩) (by assumption) ?r10
        case y10 => intro w hSw; (try dsimp only at hSw); go_simp; (try with_reducible rfl)
        (try simp only [Act.put, List.setIfInBounds_toArray, List.set_cons_zero, List.set_cons_succ, List.getElem_toArray, List.getElem_cons_zero, List.getElem_cons_succ])
        refine wpAnyH_take (i := 14) (v := ?v11) rfl (by kernel_rfl) (by kernel_rfl) (by kernel_rfl) (fun _ _ _ h => h) (Or.inl ⟨by rfl, ?y11⟩) (by assumption) ?r11
        case y11 => intro w hSw; (try dsimp only at hSw); go_simp; (try with_reducible rfl)
        (try simp only [Act.put, List.setIfInBounds_toArray, List.set_cons_zero, List.set_cons_succ, List.getElem_toArray, List.getElem_cons_zero, List.getElem_cons_succ])
        refine wpAnyH_take (i := 15) (v := ?v12) rfl (by kernel_rfl) (by kernel_rfl) (by kernel_rfl) (fun _ _ _ h => h) (Or.inl ⟨by rfl, ?y12⟩) (by assumption) ?r12
        case y12 => intro w hSw; (try dsimp only at hSw); go_simp; (try with_reducible rfl)
        (try simp only [Act.put, List.setIfInBounds_toArray, List.set_cons_zero, List.set_cons_succ, List.getElem_toArray, List.getElem_cons_zero, List.getElem_cons_succ])
        refine wpAnyH_take (i := 16) (v := ?v13) rfl (by kernel_rfl) (by kernel_rfl) (by kernel_rfl) (fun _ _ _ h => h) (Or.inl ⟨by rfl, ?y13⟩) (by assumption) ?r13
        case y13 => intro w hSw; (try dsimp only at hSw); go_simp; (try with_reducible rfl)
        (try simp only [Act.put, List.setIfInBounds_toArray, List.set_cons_zero, List.set_cons_succ, List.getElem_toArray, List.getElem_cons_zero, List.getElem_cons_succ])
        refine wpAnyH_take (i := 17) (v := ?v14) rfl (by kernel_rfl) (by kernel_rfl) (by kernel_rfl) (fun _ _ _ h => h) (Or.inl ⟨by rfl, ?y14⟩) (by assumption) ?r14
        case y14 => intro w hSw; (try dsimp only at hSw); go_simp; (try with_reducible rfl)
        (try simp only [Act.put, List.setIfInBounds_toArray, List.set_cons_zero, List.set_cons_succ, List.getElem_toArray, List.getElem_cons_zero, List.getElem_cons_succ])
        refine wpAnyH_take (i := 18) (v := ?v15) rfl (by kernel_rfl) (by kernel_rfl) (by kernel_rfl) (fun _ _ _ h => h) (Or.inl ⟨by rfl, ?y15⟩) (by assumption) ?r15
        case y15 => intro w hSw; (try dsimp only at hSw); go_simp; (try with_reducible rfl)
        (try simp only [Act.put, List.setIfInBounds_toArray, List.set_cons_zero, List.set_cons_succ, List.getElem_toArray, List.getElem_cons_zero, List.getElem_cons_succ])
        refine wpAnyH_take (i := 19) (v := ?v16) rfl (by kernel_rfl) (by kernel_rfl) (by kernel_rfl) (fun _ _ _ h => h) (Or.inl ⟨by rfl, ?y16⟩) (by assumption) ?r16
        case y16 => intro w hSw; (try dsimp only at hSw); go_simp; (try with_reducible rfl)
        (try simp only [Act.put, List.setIfInBounds_toArray, List.set_cons_zero, List.set_cons_succ, List.getElem_toArray, List.getElem_cons_zero, List.getElem_cons_succ])
        refine wpAnyH_ready (rs := [1, 12]) (by kernel_rfl) (by simp) ?_
        refine AllReadyH.cons rfl (fun K hK => ?_) (AllReadyH.cons rfl (fun K hK => ?_) (AllReadyH.nil))
        · skip
          have e1 : Ext wc (wc.alloc (.cells #[] 55)).drew := Ext.trans (Ext.alloc _ _) (Ext.drew _)
          go_simp
          refine hK.out _ _ ?s17 (fun hHeld => ?k17)
          case s17 => ((try dsimp only); (refine keep3 C1 F1 ?_; first | exact Ext.drew _ | exact e1 | exact e1b | exact e2 | exact e3 | exact e4 | exact e5))
          clear hK K
          (try simp only [Act.put, List.setIfInBounds_toArray, List.set_cons_zero, List.set_cons_succ, List.getElem_toArray, List.getElem_cons_zero, List.getElem_cons_succ])
          refine wpAnyH_ready (rs := [8, 12]) (by kernel_rfl) (by simp) ?_
          refine AllReadyH.cons rfl (fun K hK => ?_) (AllReadyH.cons rfl (fun K hK => ?_) (AllReadyH.nil))
          · skip
            refine step_append_pairs (by rfl) _ _ (by rfl) wc.heap.size _ u1 [] (R.take jj) (by rfl) (empty_at (heap_alloc_new wc _) (Nat.le_refl _)) (by rfl) (HP1.out _ (HRC.out.ext e1).regs) (by rw [List.length_take, List.length_nil]; omega) e1.size ?_
            intro v1 w1 hown1 hgrow1
            have e2 : Ext wc w1 := ext_grown e1 hgrow1 (by intro b hb; simp [Value.ownBlock] at hb; omega)
            refine hK.out _ _ ?s18 (fun hHeld => ?k18)
            case s18 => ((try dsimp only); (refine keep3 C1 F1 ?_; first | exact Ext.drew _ | exact e1 | exact e1b | exact e2 | exact e3 | exact e4 | exact e5))
            clear hK K
            (try simp only [Act.put, List.setIfInBounds_toArray, List.set_cons_zero, List.set_cons_succ, List.getElem_toArray, List.getElem_cons_zero, List.getElem_cons_succ])
            refine wpAnyH_ready (rs := [12]) (by kernel_rfl) (by simp) ?_
            refine AllReadyH.cons rfl (fun K hK => ?_) AllReadyH.nil
            have e3 : Ext wc (w1.alloc (.cells #[.int .i64 aa, .int .i64 k] 55)) := Ext.trans e2 (Ext.alloc _ _)
            go_simp
            refine hK.out _ _ ?s19 (fun hHeld => ?k19)
            case s19 => ((try dsimp only); (refine keep3 C1 F1 ?_; first | exact Ext.drew _ | exact e1 | exact e1b | exact e2 | exact e3 | exact e4 | exact e5))
            clear hK K
            (try simp only [Act.put, List.setIfInBounds_toArray, List.set_cons_zero, List.set_cons_succ, List.getElem_toArray, List.getElem_cons_zero, List.getElem_cons_succ])
            refine wpAnyH_ready (rs := [13]) (by kernel_rfl) (by simp) ?_
            refine AllReadyH.cons rfl (fun K hK => ?_) AllReadyH.nil
            refine step_append_pairs (by rfl) _ _ (by rfl) wc.heap.size _ _ _ [(aa, k)] (by rfl) (PairRow.alloc hown1 _) (by rfl) (pair_at (heap_alloc_new w1 _)) (by simp; omega) e3.size ?_
            intro v2 w2 hown2 hgrow2
            have e4 : Ext wc w2 := ext_grown e3 hgrow2 hown1.own
            refine hK.out _ _ ?s20 (fun hHeld => ?k20)
            case s20 => ((try dsimp only); (refine keep3 C1 F1 ?_; first | exact Ext.drew _ | exact e1 | exact e1b | exact e2 | exact e3 | exact e4 | exact e5))
            clear hK K
            (try simp only [Act.put, List.setIfInBounds_toArray, List.set_cons_zero, List.set_cons_succ, List.getElem_toArray, List.getElem_cons_zero, List.getElem_cons_succ])
            refine wpAnyH_ready (rs := [20]) (by kernel_rfl) (by simp) ?_
            refine AllReadyH.cons rfl (fun K hK => ?_) AllReadyH.nil
            refine step_append_pairs (by rfl) _ _ (by rfl) wc.heap.size _ u2 _ (R.drop jj) (by rfl) hown2 (by rfl) (HP2.out _ (HRC.out.ext e4).regs) (by simp; omega) e4.size ?_
            intro v3 w3 hown3 hgrow3
            have e5 : Ext wc w3 := ext_grown e4 hgrow3 hown2.own
            refine hK.out _ _ ?s21 (fun hHeld => ?k21)
            case s21 => ((try dsimp only); (refine keep3 C1 F1 ?_; first | exact Ext.drew _ | exact e1 | exact e1b | exact e2 | exact e3 | exact e4 | exact e5))
            clear hK K
            (try simp only [Act.put, List.setIfInBounds_toArray, List.set_cons_zero, List.set_cons_succ, List.getElem_toArray, List.getElem_cons_zero, List.getElem_cons_succ])
            refine wpAnyH_take (i := 21) (v := ?v22) rfl (by kernel_rfl) (by kernel_rfl) (by kernel_rfl) (fun _ _ _ h => h) (Or.inl ⟨by rfl, ?y22⟩) (by assumption) ?r22
            case y22 => intro w hSw; (try dsimp only at hSw); go_simp; (try with_reducible rfl)
            (try simp only [Act.put, List.setIfInBounds_toArray, List.set_cons_zero, List.set_cons_succ, List.getElem_toArray, List.getElem_cons_zero, List.getElem_cons_succ])
            refine wpAnyH_take (i := 22) (v := ?v23) rfl (by kernel_rfl) (by kernel_rfl) (by kernel_rfl) (fun _ _ _ h => h) (Or.inl ⟨by rfl, ?y23⟩) (by assumption) ?r23
            case y23 => intro w hSw; (try dsimp only at hSw); go_simp; (try with_reducible rfl)
            (try simp only [Act.put, List.setIfInBounds_toArray, List.set_cons_zero, List.set_cons_succ, List.getElem_toArray, List.getElem_cons_zero, List.getElem_cons_succ])
            refine wpAnyH_done (by kernel_rfl) ?_ _
            show wpList _ _ _ _ _ _
            have hc3 := e5.cell C1
            have hf3 := (e5.frozen C1).trans F1
            have HR3 := Lib.hid (show PairRow w3 wc.heap.size v3 (ins (aa, k) R) by rw [HIN.out]; simpa using hown3)
            have HE5 := Lib.hid e5
            obtain ⟨q3, n3, c3, hv3⟩ : ∃ q n c, v3 = .slice q n c := by obtain ⟨q3, c3, h, _⟩ := hown3.nilOr; exact ⟨q3, _, c3, h⟩
            subst hv3
            clear hown3
            go_wp2
            refine NoPanic.normal ?_
            go_wp2
            go_meet
            exact ⟨_, HRC.out.newRegs HE5.out hBc HR3.out (good_ins (by simpa using hk) (by simpa using hfit) HG.out (by rw [← HSC.out]; exact scan_free HG.out)), (Turn.of_ext HE5.out).setCell (.inl (by simp)) _⟩
          · skip
            have e1b : Ext wc ((wc.alloc (.cells #[] 55)).alloc (.cells #[.int .i64 aa, .int .i64 k] 55)).drew := Ext.trans (Ext.trans (Ext.alloc _ _) (Ext.alloc _ _)) (Ext.drew _)
            go_simp
            refine hK.out _ _ ?s24 (fun hHeld => ?k24)
            case s24 => ((try dsimp only); (refine keep3 C1 F1 ?_; first | exact Ext.drew _ | exact e1 | exact e1b | exact e2 | exact e3 | exact e4 | exact e5))
            clear hK K
            (try simp only [Act.put, List.setIfInBounds_toArray, List.set_cons_zero, List.set_cons_succ, List.getElem_toArray, List.getElem_cons_zero, List.getElem_cons_succ])
            refine wpAnyH_ready (rs := [8]) (by kernel_rfl) (by simp) ?_
            refine AllReadyH.cons rfl (fun K hK => ?_) AllReadyH.nil
            refine step_append_pairs (by rfl) _ _ (by rfl) wc.heap.size _ u1 [] (R.take jj) (by rfl) (PairRow.alloc (w := wc.alloc (.cells #[] 55)) (empty_at (heap_alloc_new wc _) (Nat.le_refl _)) _) (by rfl) (HP1.out _ (HRC.out.ext e1b).regs) (by rw [List.length_take, List.length_nil]; omega) e1b.size ?_
            intro v1 w1 hown1 hgrow1
            have e2 : Ext wc w1 := ext_grown e1b hgrow1 (by intro b hb; simp [Value.ownBlock] at hb; omega)
            have hpb : w1.heap[wc.heap.size + 1]? = some (.cells #[.int .i64 aa, .int .i64 k] 55) := by
              rw [hgrow1.block (wc.heap.size + 1) (by simp) (by simp [Value.ownBlock])]
              have h3 := heap_alloc_new (wc.alloc (.cells #[] 55)) (.cells #[.int .i64 aa, .int .i64 k] 55)
              rw [show (wc.alloc (.cells #[] 55)).heap.size = wc.heap.size + 1 by simp] at h3
              exact h3
            refine hK.out _ _ ?s25 (fun hHeld => ?k25)
            case s25 => ((try dsimp only); (refine keep3 C1 F1 ?_; first | exact Ext.drew _ | exact e1 | exact e1b | exact e2 | exact e3 | exact e4 | exact e5))
            clear hK K
            (try simp only [Act.put, List.setIfInBounds_toArray, List.set_cons_zero, List.set_cons_succ, List.getElem_toArray, List.getElem_cons_zero, List.getElem_cons_succ])
            refine wpAnyH_ready (rs := [13]) (by kernel_rfl) (by simp) ?_
            refine AllReadyH.cons rfl (fun K hK => ?_) AllReadyH.nil
            refine step_append_pairs (by rfl) _ _ (by rfl) wc.heap.size _ _ _ [(aa, k)] (by rfl) hown1 (by rfl) (pair_at hpb) (by simp; omega) e2.size ?_
            intro v2 w2 hown2 hgrow2
            have e4 : Ext wc w2 := ext_grown e2 hgrow2 hown1.own
            refine hK.out _ _ ?s26 (fun hHeld => ?k26)
            case s26 => ((try dsimp only); (refine keep3 C1 F1 ?_; first | exact Ext.drew _ | exact e1 | exact e1b | exact e2 | exact e3 | exact e4 | exact e5))
            clear hK K
            (try simp only [Act.put, List.setIfInBounds_toArray, List.set_cons_zero, List.set_cons_succ, List.getElem_toArray, List.getElem_cons_zero, List.getElem_cons_succ])
            refine wpAnyH_ready (rs := [20]) (by kernel_rfl) (by simp) ?_
            refine AllReadyH.cons rfl (fun K hK => ?_) AllReadyH.nil
            refine step_append_pairs (by rfl) _ _ (by rfl) wc.heap.size _ u2 _ (R.drop jj) (by rfl) hown2 (by rfl) (HP2.out _ (HRC.out.ext e4).regs) (by simp; omega) e4.size ?_
            intro v3 w3 hown3 hgrow3
            have e5 : Ext wc w3 := ext_grown e4 hgrow3 hown2.own
            refine hK.out _ _ ?s27 (fun hHeld => ?k27)
            case s27 => ((try dsimp only); (refine keep3 C1 F1 ?_; first | exact Ext.drew _ | exact e1 | exact e1b | exact e2 | exact e3 | exact e4 | exact e5))
            clear hK K
            (try simp only [Act.put, List.setIfInBounds_toArray, List.set_cons_zero, List.set_cons_succ, List.getElem_toArray, List.getElem_cons_zero, List.getElem_cons_succ])
            refine wpAnyH_take (i := 21) (v := ?v28) rfl (by kernel_rfl) (by kernel_rfl) (by kernel_rfl) (fun _ _ _ h => h) (Or.inl ⟨by rfl, ?y28⟩) (by assumption) ?r28
            case y28 => intro w hSw; (try dsimp only at hSw); go_simp; (try with_reducible rfl)
            (try simp only [Act.put, List.setIfInBounds_toArray, List.set_cons_zero, List.set_cons_succ, List.getElem_toArray, List.getElem_cons_zero, List.getElem_cons_succ])
            refine wpAnyH_take (i := 22) (v := ?v29) rfl (by kernel_rfl) (by kernel_rfl) (by kernel_rfl) (fun _ _ _ h => h) (Or.inl ⟨by rfl, ?y29⟩) (by assumption) ?r29
            case y29 => intro w hSw; (try dsimp only at hSw); go_simp; (try with_reducible rfl)
            (try simp only [Act.put, List.setIfInBounds_toArray, List.set_cons_zero, List.set_cons_succ, List.getElem_toArray, List.getElem_cons_zero, List.getElem_cons_succ])
            refine wpAnyH_done (by kernel_rfl) ?_ _
            show wpList _ _ _ _ _ _
            have hc3 := e5.cell C1
            have hf3 := (e5.frozen C1).trans F1
            have HR3 := Lib.hid (show PairRow w3 wc.heap.size v3 (ins (aa, k) R) by rw [HIN.out]; simpa using hown3)
            have HE5 := Lib.hid e5
            obtain ⟨q3, n3, c3, hv3⟩ : ∃ q n c, v3 = .slice q n c := by obtain ⟨q3, c3, h, _⟩ := hown3.nilOr; exact ⟨q3, _, c3, h⟩
            subst hv3
            clear hown3
            go_wp2
            refine NoPanic.normal ?_
            go_wp2
            go_meet
            exact ⟨_, HRC.out.newRegs HE5.out hBc HR3.out (good_ins (by simpa using hk) (by simpa using hfit) HG.out (by rw [← HSC.out]; exact scan_free HG.out)), (Turn.of_ext HE5.out).setCell (.inl (by simp)) _⟩
        · skip
          have e1 : Ext wc (wc.alloc (.cells #[.int .i64 aa, .int .i64 k] 55)).drew := Ext.trans (Ext.alloc _ _) (Ext.drew _)
          go_simp
          refine hK.out _ _ ?s30 (fun hHeld => ?k30)
          case s30 => ((try dsimp only); (refine keep3 C1 F1 ?_; first | exact Ext.drew _ | exact e1 | exact e1b | exact e2 | exact e3 | exact e4 | exact e5))
          clear hK K
          (try simp only [Act.put, List.setIfInBounds_toArray, List.set_cons_zero, List.set_cons_succ, List.getElem_toArray, List.getElem_cons_zero, List.getElem_cons_succ])
          refine wpAnyH_ready (rs := [1]) (by kernel_rfl) (by simp) ?_
          refine AllReadyH.cons rfl (fun K hK => ?_) AllReadyH.nil
          have e1b : Ext wc ((wc.alloc (.cells #[.int .i64 aa, .int .i64 k] 55)).alloc (.cells #[] 55)).drew := Ext.trans (Ext.trans (Ext.alloc _ _) (Ext.alloc _ _)) (Ext.drew _)
          go_simp
          refine hK.out _ _ ?s31 (fun hHeld => ?k31)
          case s31 => ((try dsimp only); (refine keep3 C1 F1 ?_; first | exact Ext.drew _ | exact e1 | exact e1b | exact e2 | exact e3 | exact e4 | exact e5))
          clear hK K
          (try simp only [Act.put, List.setIfInBounds_toArray, List.set_cons_zero, List.set_cons_succ, List.getElem_toArray, List.getElem_cons_zero, List.getElem_cons_succ])
          refine wpAnyH_ready (rs := [8]) (by kernel_rfl) (by simp) ?_
          refine AllReadyH.cons rfl (fun K hK => ?_) AllReadyH.nil
          have hnew : (wc.alloc (.cells #[.int .i64 aa, .int .i64 k] 55)).heap.size = wc.heap.size + 1 := by simp
          refine step_append_pairs (by rfl) _ _ (by rfl) wc.heap.size _ u1 [] (R.take jj) (by rfl) (empty_at (b := wc.heap.size + 1) (by have := heap_alloc_new (wc.alloc (.cells #[.int .i64 aa, .int .i64 k] 55)) (.cells #[] 55); rw [hnew] at this; exact this) (by omega)) (by rfl) (HP1.out _ (HRC.out.ext e1b).regs) (by rw [List.length_take, List.length_nil]; omega) e1b.size ?_
          intro v1 w1 hown1 hgrow1
          have e2 : Ext wc w1 := ext_grown e1b hgrow1 (by intro b hb; simp [Value.ownBlock] at hb; omega)
          have hpb : w1.heap[wc.heap.size]? = some (.cells #[.int .i64 aa, .int .i64 k] 55) := by
            rw [hgrow1.block wc.heap.size (by simp; omega) (by simp [Value.ownBlock])]
            have h2 := Below.block (Below.alloc (B := wc.heap.size + 1) (Below.refl _ (wc.alloc (.cells #[.int .i64 aa, .int .i64 k] 55))) (by simp) (.cells #[] 55)) wc.heap.size (by omega)
            exact h2.trans (heap_alloc_new wc _)
          refine hK.out _ _ ?s32 (fun hHeld => ?k32)
          case s32 => ((try dsimp only); (refine keep3 C1 F1 ?_; first | exact Ext.drew _ | exact e1 | exact e1b | exact e2 | exact e3 | exact e4 | exact e5))
          clear hK K
          (try simp only [Act.put, List.setIfInBounds_toArray, List.set_cons_zero, List.set_cons_succ, List.getElem_toArray, List.getElem_cons_zero, List.getElem_cons_succ])
          refine wpAnyH_ready (rs := [13]) (by kernel_rfl) (by simp) ?_
          refine AllReadyH.cons rfl (fun K hK => ?_) AllReadyH.nil
          refine step_append_pairs (by rfl) _ _ (by rfl) wc.heap.size _ _ _ [(aa, k)] (by rfl) hown1 (by rfl) (pair_at hpb) (by simp; omega) e2.size ?_
          intro v2 w2 hown2 hgrow2
          have e4 : Ext wc w2 := ext_grown e2 hgrow2 hown1.own
          refine hK.out _ _ ?s33 (fun hHeld => ?k33)
          case s33 => ((try dsimp only); (refine keep3 C1 F1 ?_; first | exact Ext.drew _ | exact e1 | exact e1b | exact e2 | exact e3 | exact e4 | exact e5))
          clear hK K
          (try simp only [Act.put, List.setIfInBounds_toArray, List.set_cons_zero, List.set_cons_succ, List.getElem_toArray, List.getElem_cons_zero, List.getElem_cons_succ])
          refine wpAnyH_ready (rs := [20]) (by kernel_rfl) (by simp) ?_
          refine AllReadyH.cons rfl (fun K hK => ?_) AllReadyH.nil
          refine step_append_pairs (by rfl) _ _ (by rfl) wc.heap.size _ u2 _ (R.drop jj) (by rfl) hown2 (by rfl) (HP2.out _ (HRC.out.ext e4).regs) (by simp; omega) e4.size ?_
          intro v3 w3 hown3 hgrow3
          have e5 : Ext wc w3 := ext_grown e4 hgrow3 hown2.own
          refine hK.out _ _ ?s34 (fun hHeld => ?k34)
          case s34 => ((try dsimp only); (refine keep3 C1 F1 ?_; first | exact Ext.drew _ | exact e1 | exact e1b | exact e2 | exact e3 | exact e4 | exact e5))
          clear hK K
          (try simp only [Act.put, List.setIfInBounds_toArray, List.set_cons_zero, List.set_cons_succ, List.getElem_toArray, List.getElem_cons_zero, List.getElem_cons_succ])
          refine wpAnyH_take (i := 21) (v := ?v35) rfl (by kernel_rfl) (by kernel_rfl) (by kernel_rfl) (fun _ _ _ h => h) (Or.inl ⟨by rfl, ?y35⟩) (by assumption) ?r35
          case y35 => intro w hSw; (try dsimp only at hSw); go_simp; (try with_reducible rfl)
          (try simp only [Act.put, List.setIfInBounds_toArray, List.set_cons_zero, List.set_cons_succ, List.getElem_toArray, List.getElem_cons_zero, List.getElem_cons_succ])
          refine wpAnyH_take (i := 22) (v := ?v36) rfl (by kernel_rfl) (by kernel_rfl) (by kernel_rfl) (fun _ _ _ h => h) (Or.inl ⟨by rfl, ?y36⟩) (by assumption) ?r36
          case y36 => intro w hSw; (try dsimp only at hSw); go_simp; (try with_reducible rfl)
          (try simp only [Act.put, List.setIfInBounds_toArray, List.set_cons_zero, List.set_cons_succ, List.getElem_toArray, List.getElem_cons_zero, List.getElem_cons_succ])
          refine wpAnyH_done (by kernel_rfl) ?_ _
          show wpList _ _ _ _ _ _
          have hc3 := e5.cell C1
          have hf3 := (e5.frozen C1).trans F1
          have HR3 := Lib.hid (show PairRow w3 wc.heap.size v3 (ins (aa, k) R) by rw [HIN.out]; simpa using hown3)
          have HE5 := Lib.hid e5
          obtain ⟨q3, n3, c3, hv3⟩ : ∃ q n c, v3 = .slice q n c := by obtain ⟨q3, c3, h, _⟩ := hown3.nilOr; exact ⟨q3, _, c3, h⟩
          subst hv3
          clear hown3
          go_wp2
          refine NoPanic.normal ?_
          go_wp2
          go_meet
          exact ⟨_, HRC.out.newRegs HE5.out hBc HR3.out (good_ins (by simpa using hk) (by simpa using hfit) HG.out (by rw [← HSC.out]; exact scan_free HG.out)), (Turn.of_ext HE5.out).setCell (.inl (by simp)) _⟩
      case rest =>
        obtain ⟨v, hR, hT⟩ := hcut
        have HR := Lib.hid hR; have HT := Lib.hid hT
        have hl0 := hR.len
        clear hR hT
        have HT2 := Lib.hid ((Turn.of_ext (bs := [q]) HX.out).trans HT.out)
        go_wp2_with fail
        go_loopw [7] (fun i wx => ∃ ii : Nat, ii ≤ k ∧ i = .int .i64 ii ∧ RefAt wx q gq B n (setMany ws aa (List.replicate ii 0)) v (ins (aa, k) R) ∧ Turn [gq] wc wx) (fun i _ => k - (intOf i).toNat)
        case atStart => exact ⟨0, by omega, rfl, HR.out, Turn.refl _ _⟩
        case round =>
          obtain ⟨ii, hii, rfl, hR2, hT2⟩ := hrel
          have HR2 := Lib.hid hR2; have HT3 := Lib.hid hT2
          clear hR2 hT2
          by_cases hil : ii < k
          · obtain ⟨d0, d1, _⟩ := HR2.out.cells
            obtain ⟨k0, k1⟩ := HR2.out.word (i := aa + ii) (by omega)
            have i1 : (ii : Int) < (k : Int) := by omega
            have HST := Lib.hid (HR2.out.store (aa + ii) 0)
            have hmk : (setMany ws aa (List.replicate ii 0)).set (aa + ii) 0 = setMany ws aa (List.replicate (ii + 1) 0) := by
              rw [List.replicate_succ', setMany_snoc, List.length_replicate]
            rw [hmk] at HST
            generalize (setMany ws aa (List.replicate ii 0)).getD (aa + ii) 0 = u at *
            clear hmk
            go_wp2_with fail
            exact ⟨⟨ii + 1, by omega, by go_num, HST.out, HT3.out.trans ((Turn.refl _ _).setCell (.inl (by simp)) _)⟩, by simp [intOf]; omega⟩
          · obtain rfl : ii = k := by omega
            go_wp2_with fail
            go_ret
            refine .inl ⟨by rw [HSC.out]; exact hfit, by rw [HSC.out]; rfl, ⟨v, by rw [HSC.out]; exact HR2.out⟩, (HT2.out.mono (by simp)).trans (HT3.out.mono (by simp))⟩
    · have t1 : decide ((n : Int) - (aa : Int) < (k : Int)) = true := decide_eq_true (by omega)
      go_wp2_with fail
      go_ret
      exact .inr ⟨by rw [HSC.out]; exact hfit, rfl, HX.out⟩
end Go.Proofs.Ytibpnhaamdelmaa
