/- Proved here: the contracts and laws of RefaD, RefaE, Both, ObjP, Blk, Sli, Fill, ObjA, ObjB of this claim, each beneath its own remark; conditions: those that each theorem names. -/
import Derived.Test.YtlffmcadchbheaaM2
import Derived.Test.YtlffmcadchbheaaM1
import Derived.Test.YtlffmcadchbheaaProg
import Derived.Deep.RegionHeld3
import Derived.WalkKit
import Derived.Maps.AppendAt
import Derived.Laws.OwnMore
import Derived.Laws.CopyOwn
import Derived.Deep.OwnRows
import Derived.Lib.SliceRun
import Derived.Deep.DrawnRows
import Derived.Deep.QuietTactic
import Derived.BigQuiet
/- The reference's arena: Cut. -/
namespace Go.Proofs.Ytlffmcadchbheaa
open Go.RowKit Go.Maps Arena
set_option maxHeartbeats 4000000
set_option maxRecDepth 100000
attribute [local go_sem ↓] Go.wp_at_zero Go.wp_at_succ
theorem ins_split {x : Nat × Nat} : ∀ (A L : List (Nat × Nat)), (∀ r ∈ A, r.1 < x.1) → (∀ r, L.head? = some r → x.1 < r.1) → ins x (A ++ L) = A ++ x :: L := by
  intro A
  induction A with
  | nil =>
    intro L _ hL
    cases L with
    | nil => rfl
    | cons y L =>
      have := hL y rfl
      simp [ins, this]
  | cons y A ih =>
    intro L hA hL
    have := hA y (.head _)
    rw [List.cons_append, List.cons_append]
    unfold ins
    rw [if_neg (by omega), ih L (fun r hr => hA r (.tail _ hr)) hL]
theorem setMany_snoc (v : Int) : ∀ (vs ws : List Int) (o : Nat), setMany ws o (vs ++ [v]) = (setMany ws o vs).set (o + vs.length) v := by
  intro vs
  induction vs with
  | nil => intro ws o; rfl
  | cons u vs ih =>
    intro ws o
    show setMany (ws.set o u) (o + 1) (vs ++ [v]) = _
    rw [ih]
    show _ = (setMany (ws.set o u) (o + 1) vs).set _ v
    rw [List.length_cons, show o + 1 + vs.length = o + (vs.length + 1) by omega]
/-- where the loop stands: every region ahead ends at or ahead of a; the scan goes on from there -/
def CutAt (k : Nat) (R : List (Nat × Nat)) (j a : Nat) : Prop := (∀ r ∈ R.take j, r.1 + r.2 ≤ a) ∧ scan k 0 R = scan k a (R.drop j)
theorem cutAt_next {n k : Nat} {R : List (Nat × Nat)} {j a : Nat} (hg : Arena.Good n R) (h : CutAt k R j a) (hj : j < R.length) (hno : ¬ a + k ≤ R[j].1) : CutAt k R (j + 1) (R[j].1 + R[j].2) := by
  refine ⟨fun r hr => ?_, ?_⟩
  · rw [List.take_succ_eq_append_getElem hj, List.mem_append, List.mem_singleton] at hr
    rcases hr with hr | rfl
    · obtain ⟨i, hi, rfl⟩ := List.getElem_of_mem hr
      rw [List.length_take] at hi
      rw [List.getElem_take]
      have := good_ne hg (i := i) (j := j) (by omega) hj
      omega
    · exact Nat.le_refl _
  · rw [h.2, List.drop_eq_getElem_cons hj]
    exact (scan_round (r := R[j]) (R := R.drop (j + 1))).2 hno
theorem cutAt_here {n k : Nat} {R : List (Nat × Nat)} {j a : Nat} (hk : 1 ≤ k) (hg : Arena.Good n R) (h : CutAt k R j a) (hj : j < R.length) (hyes : a + k ≤ R[j].1) : scan k 0 R = a ∧ ins (a, k) R = R.take j ++ (a, k) :: R.drop j := by
  refine ⟨by rw [h.2, List.drop_eq_getElem_cons hj]; exact (scan_round (r := R[j]) (R := R.drop (j + 1))).1 hyes, ?_⟩
  have := ins_split (x := (a, k)) (R.take j) (R.drop j) (fun r hr => ?_) (fun r hr => ?_)
  · rw [List.take_append_drop] at this; exact this
  · have h1 := h.1 r hr
    have h2 := (hg.2 r (List.mem_of_mem_take hr)).1
    simp; omega
  · rw [List.drop_eq_getElem_cons hj] at hr
    obtain rfl := Option.some.inj (show some R[j] = some r from hr)
    simp; omega
theorem cutAt_end {n k : Nat} {R : List (Nat × Nat)} {a : Nat} (hg : Arena.Good n R) (h : CutAt k R R.length a) : scan k 0 R = a ∧ ins (a, k) R = R.take R.length ++ (a, k) :: R.drop R.length := by
  refine ⟨by rw [h.2, List.drop_length]; rfl, ?_⟩
  have := ins_split (x := (a, k)) (R.take R.length) (R.drop R.length) (fun r hr => ?_) (fun r hr => ?_)
  · rw [List.take_append_drop] at this; exact this
  · have h1 := h.1 r hr
    have h2 := (hg.2 r (List.mem_of_mem_take hr)).1
    simp; omega
  · rw [List.drop_length] at hr; cases hr
theorem refcut_small {w : World} {q gq B n : Nat} {ws : List Int} {vR : Value} {R : List (Nat × Nat)} (h : RefAt w q gq B n ws vR R) {k : Int} (hk : k < 1) :
    Calls Try.prog 36 #[.pointer (some ⟨q, 0, none⟩), .int .i64 k] w fun e w' => e = .returned (.int .i64 (-1)) ∧ Ext w w' := by
  obtain ⟨qa, ca, rfl, la1, la2, hca⟩ := h.regs.sl
  obtain ⟨c0, c1, _⟩ := h.cells
  have HA := Lib.hid hca
  have HG := Lib.hid h.good
  have hrl := good_len h.good
  have hn := h.least
  have b0 : decide (k < 1) = true := decide_eq_true hk
  unfold maxLen at la2
  clear hca h
  go_enter Try.func36, Try.ntmps36
  go_wp2
  go_loopw [5, 6] (fun a j wx => ∃ (jj aa : Nat), jj ≤ R.length ∧ j = .int .i64 jj ∧ a = .int .i64 aa ∧ aa ≤ n ∧ Ext w wx) (fun _ j _ => R.length - (intOf j).toNat)
  case atStart => exact ⟨0, 0, by omega, rfl, rfl, by omega, Ext.refl _⟩
  case round =>
    obtain ⟨jj, aa, hjj, rfl, rfl, haa, hx⟩ := hrel
    have C0 := hx.cell c0; have C1 := hx.cell c1
    by_cases hlt : jj < R.length
    · have i1 : (jj : Int) < (R.length : Int) := by omega
      obtain ⟨b, off, rfl, p0, p1⟩ := HA.out jj _ (List.getElem?_eq_getElem hlt)
      have P0 := hx.cell p0; have P1 := hx.cell p1
      have hb := HG.out.2 R[jj] (List.getElem_mem hlt)
      clear p0 p1
      generalize R[jj] = y at *
      go_wp2_with fail
      go_big_quiet (fail)
      go_wp2
      exact ⟨⟨jj + 1, y.1 + y.2, by omega, by go_num, by go_num, by omega, hx.trans (Ext.drewN _ _)⟩, by simp [intOf]; omega⟩
    · obtain rfl : jj = R.length := by omega
      go_wp2
      go_ret
      exact ⟨rfl, hx⟩
theorem refcut_is {w : World} {q gq B n : Nat} {ws : List Int} {vR : Value} {R : List (Nat × Nat)} (h : RefAt w q gq B n ws vR R) (hB : B ≤ w.heap.size) {k : Nat} (hk : 1 ≤ k) (hk2 : k ≤ 9223372036854775807) :
    Calls Try.prog 36 #[.pointer (some ⟨q, 0, none⟩), .int .i64 k] w fun e w' =>
      (scan k 0 R + k ≤ n ∧ e = .returned (.int .i64 (scan k 0 R)) ∧ (∃ v, RefAt w' q gq B n (setMany ws (scan k 0 R) (List.replicate k 0)) v (ins (scan k 0 R, k) R)) ∧ Turn [q, gq] w w') ∨
      (¬ scan k 0 R + k ≤ n ∧ e = .returned (.int .i64 (-1)) ∧ Ext w w') := by
  have H := Lib.hid h
  obtain ⟨qa, ca, hvR, la1, la2, hca⟩ := h.regs.sl
  obtain ⟨c0, c1, f1⟩ := h.cells
  have HA := Lib.hid hca
  have HG := Lib.hid h.good
  have hrl := good_len h.good
  have hn := h.least
  have hlt := h.lt
  have hqg := h.ne
  have b0 : decide ((k : Int) < 1) = false := decide_eq_false (by omega)
  unfold maxLen at la2
  clear hca h
  subst hvR
  go_enter Try.func36, Try.ntmps36
  go_upto_block 0 with fail
  go_cut [5, 6] from 8 to 51 (fun a j wx => ∃ (jj aa : Nat), jj ≤ R.length ∧ j = .int .i64 jj ∧ a = .int .i64 aa ∧ aa ≤ n ∧ scan k 0 R = aa ∧ ins (aa, k) R = R.take jj ++ (aa, k) :: R.drop jj ∧ Ext w wx)
  case first =>
    go_wp2_with fail
    go_loopw [5, 6] (fun a j wx => ∃ (jj aa : Nat), jj ≤ R.length ∧ j = .int .i64 jj ∧ a = .int .i64 aa ∧ aa ≤ n ∧ CutAt k R jj aa ∧ Ext w wx) (fun _ j _ => R.length - (intOf j).toNat)
    case atStart => exact ⟨0, 0, by omega, rfl, rfl, by omega, ⟨fun r hr => by simp at hr, rfl⟩, Ext.refl _⟩
    case round =>
      obtain ⟨jj, aa, hjj, rfl, rfl, haa, hcut, hx⟩ := hrel
      have C0 := hx.cell c0; have C1 := hx.cell c1
      have HC := Lib.hid hcut
      clear hcut
      by_cases hlt : jj < R.length
      · have i1 : (jj : Int) < (R.length : Int) := by omega
        obtain ⟨b, off, rfl, p0, p1⟩ := HA.out jj _ (List.getElem?_eq_getElem hlt)
        have P0 := hx.cell p0; have P1 := hx.cell p1
        have hb := HG.out.2 R[jj] (List.getElem_mem hlt)
        clear p0 p1
        by_cases hroom : aa + k ≤ R[jj].1
        · have HN := Lib.hid (cutAt_here hk HG.out HC.out hlt hroom)
          generalize R[jj] = y at *
          have t1 : decide ((y.1 : Int) - (aa : Int) < (k : Int)) = false := decide_eq_false (by omega)
          clear hroom
          go_wp2_with fail
          go_meet
          exact ⟨jj, aa, hjj, rfl, rfl, haa, HN.out.1, HN.out.2, hx⟩
        · have HN := Lib.hid (cutAt_next HG.out HC.out hlt hroom)
          generalize R[jj] = y at *
          have t1 : decide ((y.1 : Int) - (aa : Int) < (k : Int)) = true := decide_eq_true (by omega)
          clear hroom
          go_wp2_with fail
          go_big_quiet (fail)
          go_wp2
          exact ⟨⟨jj + 1, y.1 + y.2, by omega, by go_num, by go_num, by omega, HN.out, hx.trans (Ext.drewN _ _)⟩, by simp [intOf]; omega⟩
      · obtain rfl : jj = R.length := by omega
        have HN := Lib.hid (cutAt_end HG.out HC.out)
        go_wp2_with fail
        go_meet
        exact ⟨R.length, aa, hjj, rfl, rfl, haa, HN.out.1, HN.out.2, hx⟩
  case rest =>
    obtain ⟨jj, aa, hjj, rfl, rfl, haa, hsc, hins, hx⟩ := hcut
    have HSC := Lib.hid hsc; have HIN := Lib.hid hins
    have C0 := hx.cell c0; have C1 := hx.cell c1
    have HX := Lib.hid hx
    clear hsc hins hx
    by_cases hfit : aa + k ≤ n
    · have t1 : decide ((n : Int) - (aa : Int) < (k : Int)) = false := decide_eq_false (by omega)
      have HRC := Lib.hid (H.out.ext HX.out)
      have hBc : B ≤ wc.heap.size := by have := HX.out.size; omega
      have F1 := (HX.out.frozen c1).trans f1
      obtain ⟨u1, hs1, hp1⟩ := head_src (k := jj) HRC.out.regs hjj
      obtain ⟨u2, hs2, hp2⟩ := tail_src (k := jj) HRC.out.regs hjj
      have HP1 := Lib.hid hp1; have HP2 := Lib.hid hp2
      clear hp1 hp2
      go_upto_region 7 with fail
      go_cut [] from 65 to 87 (fun wx => ∃ v, RefAt wx q gq B n ws v (ins (aa, k) R) ∧ Turn [q] wc wx)
      case first =>
        refine wp_region_noPanic ?_
        refine wp_region_last 23 (S := (fun w' => w'.cell? ⟨q, 1, none⟩ = some (.slice qa R.length ca) ∧ w'.frozen? ⟨q, 1, none⟩ = false ∧ Ext wc w')) (by kernel_rfl) (by kernel_rfl) _ rfl ?_ (fun hHeld => ?_)
        · (refine keep3 C1 F1 ?_; first | exact Ext.drew _ | exact e1 | exact e1b | exact e2 | exact e3 | exact e4 | exact e5)
        simp only [List.take_succ_cons, List.take_zero]
        refine wpAnyH_take (i := 0) (v := ?v1) rfl (by kernel_rfl) (by kernel_rfl) (by kernel_rfl) (fun _ _ _ h => h) (Or.inl ⟨by rfl, ?y1⟩) (by assumption) ?r1
        case y1 => intro w hSw; (try dsimp only at hSw); go_simp; (try with_reducible rfl)
        (try simp only [Act.put, List.setIfInBounds_toArray, List.set_cons_zero, List.set_cons_succ, List.getElem_toArray, List.getElem_cons_zero, List.getElem_cons_succ])
        refine wpAnyH_take (i := 2) (v := ?v2) rfl (by kernel_rfl) (by kernel_rfl) (by kernel_rfl) (fun _ _ _ h => h) (Or.inl ⟨by rfl, ?y2⟩) (by assumption) ?r2
        case y2 => intro w hSw; (try dsimp only at hSw); go_simp; (try with_reducible rfl)
        (try simp only [Act.put, List.setIfInBounds_toArray, List.set_cons_zero, List.set_cons_succ, List.getElem_toArray, List.getElem_cons_zero, List.getElem_cons_succ])
        refine wpAnyH_take (i := 3) (v := ?v3) rfl (by kernel_rfl) (by kernel_rfl) (by kernel_rfl) (fun _ _ _ h => h) (Or.inl ⟨by rfl, ?y3⟩) (by assumption) ?r3
        case y3 => intro w hSw; (try dsimp only at hSw); go_simp; (try with_reducible rfl)
        (try simp only [Act.put, List.setIfInBounds_toArray, List.set_cons_zero, List.set_cons_succ, List.getElem_toArray, List.getElem_cons_zero, List.getElem_cons_succ])
        refine wpAnyH_take (i := 4) (v := ?v4) rfl (by kernel_rfl) (by kernel_rfl) (by kernel_rfl) (fun _ _ _ h => h) (Or.inl ⟨by rfl, ?y4⟩) (by assumption) ?r4
        case y4 => intro w hSw; (try dsimp only at hSw); go_simp; (try with_reducible rfl)
        (try simp only [Act.put, List.setIfInBounds_toArray, List.set_cons_zero, List.set_cons_succ, List.getElem_toArray, List.getElem_cons_zero, List.getElem_cons_succ])
        refine wpAnyH_take (i := 5) (v := ?v5) rfl (by kernel_rfl) (by kernel_rfl) (by kernel_rfl) (fun _ _ _ h => h) (Or.inl ⟨by rfl, ?y5⟩) (by assumption) ?r5
        case y5 => intro w hSw; (try dsimp only at hSw); go_simp; (try with_reducible rfl)
        (try simp only [Act.put, List.setIfInBounds_toArray, List.set_cons_zero, List.set_cons_succ, List.getElem_toArray, List.getElem_cons_zero, List.getElem_cons_succ])
        refine wpAnyH_take (i := 6) (v := ?v6) rfl (by kernel_rfl) (by kernel_rfl) (by kernel_rfl) (fun _ _ _ h => h) (Or.inl ⟨by rfl, ?y6⟩) (by assumption) ?r6
        case y6 => intro w hSw; (try dsimp only at hSw); go_simp; (try with_reducible rfl)
        (try simp only [Act.put, List.setIfInBounds_toArray, List.set_cons_zero, List.set_cons_succ, List.getElem_toArray, List.getElem_cons_zero, List.getElem_cons_succ])
        refine wpAnyH_take (i := 7) (v := ?v7) rfl (by kernel_rfl) (by kernel_rfl) (by kernel_rfl) (fun _ _ _ h => h) (Or.inl ⟨by rfl, ?y7⟩) (by assumption) ?r7
        case y7 => intro w hSw; (try dsimp only at hSw); go_simp; (try with_reducible rfl)
        (try simp only [Act.put, List.setIfInBounds_toArray, List.set_cons_zero, List.set_cons_succ, List.getElem_toArray, List.getElem_cons_zero, List.getElem_cons_succ])
        refine wpAnyH_take (i := 9) (v := ?v8) rfl (by kernel_rfl) (by kernel_rfl) (by kernel_rfl) (fun _ _ _ h => h) (Or.inl ⟨by rfl, ?y8⟩) (by assumption) ?r8
        case y8 => intro w hSw; (try dsimp only at hSw); go_simp; (try with_reducible rfl)
        (try simp only [Act.put, List.setIfInBounds_toArray, List.set_cons_zero, List.set_cons_succ, List.getElem_toArray, List.getElem_cons_zero, List.getElem_cons_succ])
        refine wpAnyH_take (i := 10) (v := ?v9) rfl (by kernel_rfl) (by kernel_rfl) (by kernel_rfl) (fun _ _ _ h => h) (Or.inl ⟨by rfl, ?y9⟩) (by assumption) ?r9
        case y9 => intro w hSw; (try dsimp only at hSw); go_simp; (try with_reducible rfl)
        (try simp only [Act.put, List.setIfInBounds_toArray, List.set_cons_zero, List.set_cons_succ, List.getElem_toArray, List.getElem_cons_zero, List.getElem_cons_succ])
        refine wpAnyH_take (i := 11) (v := ?v10) rfl (by kernel_rfl) (by kernel_rfl) (by kernel_rfl) (fun _ _ _ h => h) (Or.inl ⟨by rfl, ?y10⟩) (by assumption) ?r10
        case y10 => intro w hSw; (try dsimp only at hSw); go_simp; (try with_reducible rfl)
        (try simp only [Act.put, List.setIfInBounds_toArray, List.set_cons_zero, List.set_cons_succ, List.getElem_toArray, List.getElem_cons_zero, List.getElem_cons_succ])
        refine wpAnyH_take (i := 14) (v := ?v11) rfl (by kernel_rfl) (by kernel_rfl) (by kernel_rfl) (fun _ _ _ h => h) (Or.inl ⟨by rfl, ?y11⟩) (by assumption) ?r11
        case y11 => intro w hSw; (try dsimp only at hSw); go_simp; (try with_reducible rfl)
        (try simp only [Act.put, List.setIfInBounds_toArray, List.set_cons_zero, List.set_cons_succ, List.getElem_toArray, List.getElem_cons_zero, List.getElem_cons_succ])
        refine wpAnyH_take (i := 15) (v := ?v12) rfl (by kernel_rfl) (by kernel_rfl) (by kernel_rfl) (fun _ _ _ h => h) (Or.inl ⟨by rfl, ?y12⟩) (by assumption) ?r12
        case y12 => intro w hSw; (try dsimp only at hSw); go_simp; (try with_reducible rfl)
        (try simp only [Act.put, List.setIfInBounds_toArray, List.set_cons_zero, List.set_cons_succ, List.getElem_toArray, List.getElem_cons_zero, List.getElem_cons_succ])
        refine wpAnyH_take (i := 16) (v := ?v13) rfl (by kernel_rfl) (by kernel_rfl) (by kernel_rfl) (fun _ _ _ h => h) (Or.inl ⟨by rfl, ?y13⟩) (by assumption) ?r13
        case y13 => intro w hSw; (try dsimp only at hSw); go_simp; (try with_reducible rfl)
        (try simp only [Act.put, List.setIfInBounds_toArray, List.set_cons_zero, List.set_cons_succ, List.getElem_toArray, List.getElem_cons_zero, List.getElem_cons_succ])
        refine wpAnyH_take (i := 17) (v := ?v14) rfl (by kernel_rfl) (by kernel_rfl) (by kernel_rfl) (fun _ _ _ h => h) (Or.inl ⟨by rfl, ?y14⟩) (by assumption) ?r14
        case y14 => intro w hSw; (try dsimp only at hSw); go_simp; (try with_reducible rfl)
        (try simp only [Act.put, List.setIfInBounds_toArray, List.set_cons_zero, List.set_cons_succ, List.getElem_toArray, List.getElem_cons_zero, List.getElem_cons_succ])
        refine wpAnyH_take (i := 18) (v := ?v15) rfl (by kernel_rfl) (by kernel_rfl) (by kernel_rfl) (fun _ _ _ h => h) (Or.inl ⟨by rfl, ?y15⟩) (by assumption) ?r15
        case y15 => intro w hSw; (try dsimp only at hSw); go_simp; (try with_reducible rfl)
        (try simp only [Act.put, List.setIfInBounds_toArray, List.set_cons_zero, List.set_cons_succ, List.getElem_toArray, List.getElem_cons_zero, List.getElem_cons_succ])
        refine wpAnyH_take (i := 19) (v := ?v16) rfl (by kernel_rfl) (by kernel_rfl) (by kernel_rfl) (fun _ _ _ h => h) (Or.inl ⟨by rfl, ?y16⟩) (by assumption) ?r16
        case y16 => intro w hSw; (try dsimp only at hSw); go_simp; (try with_reducible rfl)
        (try simp only [Act.put, List.setIfInBounds_toArray, List.set_cons_zero, List.set_cons_succ, List.getElem_toArray, List.getElem_cons_zero, List.getElem_cons_succ])
        refine wpAnyH_ready (rs := [1, 12]) (by kernel_rfl) (by simp) ?_
        refine AllReadyH.cons rfl (fun K hK => ?_) (AllReadyH.cons rfl (fun K hK => ?_) (AllReadyH.nil))
        · skip
          have e1 : Ext wc (wc.alloc (.cells #[] 116)).drew := Ext.trans (Ext.alloc _ _) (Ext.drew _)
          go_simp
          refine hK.out _ _ ?s17 (fun hHeld => ?k17)
          case s17 => ((try dsimp only); (refine keep3 C1 F1 ?_; first | exact Ext.drew _ | exact e1 | exact e1b | exact e2 | exact e3 | exact e4 | exact e5))
          clear hK K
          (try simp only [Act.put, List.setIfInBounds_toArray, List.set_cons_zero, List.set_cons_succ, List.getElem_toArray, List.getElem_cons_zero, List.getElem_cons_succ])
          refine wpAnyH_ready (rs := [8, 12]) (by kernel_rfl) (by simp) ?_
          refine AllReadyH.cons rfl (fun K hK => ?_) (AllReadyH.cons rfl (fun K hK => ?_) (AllReadyH.nil))
          · skip
            refine step_append_pairs (by rfl) _ _ (by rfl) wc.heap.size _ u1 [] (R.take jj) (by rfl) (empty_at (heap_alloc_new wc _) (Nat.le_refl _)) (by rfl) (HP1.out _ (HRC.out.ext e1).regs) (by rw [List.length_take, List.length_nil]; omega) e1.size ?_
            intro v1 w1 hown1 hgrow1
            have e2 : Ext wc w1 := ext_grown e1 hgrow1 (by intro b hb; simp [Value.ownBlock] at hb; omega)
            refine hK.out _ _ ?s18 (fun hHeld => ?k18)
            case s18 => ((try dsimp only); (refine keep3 C1 F1 ?_; first | exact Ext.drew _ | exact e1 | exact e1b | exact e2 | exact e3 | exact e4 | exact e5))
            clear hK K
            (try simp only [Act.put, List.setIfInBounds_toArray, List.set_cons_zero, List.set_cons_succ, List.getElem_toArray, List.getElem_cons_zero, List.getElem_cons_succ])
            refine wpAnyH_ready (rs := [12]) (by kernel_rfl) (by simp) ?_
            refine AllReadyH.cons rfl (fun K hK => ?_) AllReadyH.nil
            have e3 : Ext wc (w1.alloc (.cells #[.int .i64 aa, .int .i64 k] 116)) := Ext.trans e2 (Ext.alloc _ _)
            go_simp
            refine hK.out _ _ ?s19 (fun hHeld => ?k19)
            case s19 => ((try dsimp only); (refine keep3 C1 F1 ?_; first | exact Ext.drew _ | exact e1 | exact e1b | exact e2 | exact e3 | exact e4 | exact e5))
            clear hK K
            (try simp only [Act.put, List.setIfInBounds_toArray, List.set_cons_zero, List.set_cons_succ, List.getElem_toArray, List.getElem_cons_zero, List.getElem_cons_succ])
            refine wpAnyH_ready (rs := [13]) (by kernel_rfl) (by simp) ?_
            refine AllReadyH.cons rfl (fun K hK => ?_) AllReadyH.nil
            refine step_append_pairs (by rfl) _ _ (by rfl) wc.heap.size _ _ _ [(aa, k)] (by rfl) (PairRow.alloc hown1 _) (by rfl) (pair_at (heap_alloc_new w1 _)) (by simp; omega) e3.size ?_
            intro v2 w2 hown2 hgrow2
            have e4 : Ext wc w2 := ext_grown e3 hgrow2 hown1.own
            refine hK.out _ _ ?s20 (fun hHeld => ?k20)
            case s20 => ((try dsimp only); (refine keep3 C1 F1 ?_; first | exact Ext.drew _ | exact e1 | exact e1b | exact e2 | exact e3 | exact e4 | exact e5))
            clear hK K
            (try simp only [Act.put, List.setIfInBounds_toArray, List.set_cons_zero, List.set_cons_succ, List.getElem_toArray, List.getElem_cons_zero, List.getElem_cons_succ])
            refine wpAnyH_ready (rs := [20]) (by kernel_rfl) (by simp) ?_
            refine AllReadyH.cons rfl (fun K hK => ?_) AllReadyH.nil
            refine step_append_pairs (by rfl) _ _ (by rfl) wc.heap.size _ u2 _ (R.drop jj) (by rfl) hown2 (by rfl) (HP2.out _ (HRC.out.ext e4).regs) (by simp; omega) e4.size ?_
            intro v3 w3 hown3 hgrow3
            have e5 : Ext wc w3 := ext_grown e4 hgrow3 hown2.own
            refine hK.out _ _ ?s21 (fun hHeld => ?k21)
            case s21 => ((try dsimp only); (refine keep3 C1 F1 ?_; first | exact Ext.drew _ | exact e1 | exact e1b | exact e2 | exact e3 | exact e4 | exact e5))
            clear hK K
            (try simp only [Act.put, List.setIfInBounds_toArray, List.set_cons_zero, List.set_cons_succ, List.getElem_toArray, List.getElem_cons_zero, List.getElem_cons_succ])
            refine wpAnyH_take (i := 21) (v := ?v22) rfl (by kernel_rfl) (by kernel_rfl) (by kernel_rfl) (fun _ _ _ h => h) (Or.inl ⟨by rfl, ?y22⟩) (by assumption) ?r22
            case y22 => intro w hSw; (try dsimp only at hSw); go_simp; (try with_reducible rfl)
            (try simp only [Act.put, List.setIfInBounds_toArray, List.set_cons_zero, List.set_cons_succ, List.getElem_toArray, List.getElem_cons_zero, List.getElem_cons_succ])
            refine wpAnyH_take (i := 22) (v := ?v23) rfl (by kernel_rfl) (by kernel_rfl) (by kernel_rfl) (fun _ _ _ h => h) (Or.inl ⟨by rfl, ?y23⟩) (by assumption) ?r23
            case y23 => intro w hSw; (try dsimp only at hSw); go_simp; (try with_reducible rfl)
            (try simp only [Act.put, List.setIfInBounds_toArray, List.set_cons_zero, List.set_cons_succ, List.getElem_toArray, List.getElem_cons_zero, List.getElem_cons_succ])
            refine wpAnyH_done (by kernel_rfl) ?_ _
            show wpList _ _ _ _ _ _
            have hc3 := e5.cell C1
            have hf3 := (e5.frozen C1).trans F1
            have HR3 := Lib.hid (show PairRow w3 wc.heap.size v3 (ins (aa, k) R) by rw [HIN.out]; simpa using hown3)
            have HE5 := Lib.hid e5
            obtain ⟨q3, n3, c3, hv3⟩ : ∃ q n c, v3 = .slice q n c := by obtain ⟨q3, c3, h, _⟩ := hown3.nilOr; exact ⟨q3, _, c3, h⟩
            subst hv3
            clear hown3
            go_wp2
            refine NoPanic.normal ?_
            go_wp2
            go_meet
            exact ⟨_, HRC.out.newRegs HE5.out hBc HR3.out (good_ins (by simpa using hk) (by simpa using hfit) HG.out (by rw [← HSC.out]; exact scan_free HG.out)), (Turn.of_ext HE5.out).setCell (.inl (by simp)) _⟩
          · skip
            have e1b : Ext wc ((wc.alloc (.cells #[] 116)).alloc (.cells #[.int .i64 aa, .int .i64 k] 116)).drew := Ext.trans (Ext.trans (Ext.alloc _ _) (Ext.alloc _ _)) (Ext.drew _)
            go_simp
            refine hK.out _ _ ?s24 (fun hHeld => ?k24)
            case s24 => ((try dsimp only); (refine keep3 C1 F1 ?_; first | exact Ext.drew _ | exact e1 | exact e1b | exact e2 | exact e3 | exact e4 | exact e5))
            clear hK K
            (try simp only [Act.put, List.setIfInBounds_toArray, List.set_cons_zero, List.set_cons_succ, List.getElem_toArray, List.getElem_cons_zero, List.getElem_cons_succ])
            refine wpAnyH_ready (rs := [8]) (by kernel_rfl) (by simp) ?_
            refine AllReadyH.cons rfl (fun K hK => ?_) AllReadyH.nil
            refine step_append_pairs (by rfl) _ _ (by rfl) wc.heap.size _ u1 [] (R.take jj) (by rfl) (PairRow.alloc (w := wc.alloc (.cells #[] 116)) (empty_at (heap_alloc_new wc _) (Nat.le_refl _)) _) (by rfl) (HP1.out _ (HRC.out.ext e1b).regs) (by rw [List.length_take, List.length_nil]; omega) e1b.size ?_
            intro v1 w1 hown1 hgrow1
            have e2 : Ext wc w1 := ext_grown e1b hgrow1 (by intro b hb; simp [Value.ownBlock] at hb; omega)
            have hpb : w1.heap[wc.heap.size + 1]? = some (.cells #[.int .i64 aa, .int .i64 k] 116) := by
              rw [hgrow1.block (wc.heap.size + 1) (by simp) (by simp [Value.ownBlock])]
              have h3 := heap_alloc_new (wc.alloc (.cells #[] 116)) (.cells #[.int .i64 aa, .int .i64 k] 116)
              rw [show (wc.alloc (.cells #[] 116)).heap.size = wc.heap.size + 1 by simp] at h3
              exact h3
            refine hK.out _ _ ?s25 (fun hHeld => ?k25)
            case s25 => ((try dsimp only); (refine keep3 C1 F1 ?_; first | exact Ext.drew _ | exact e1 | exact e1b | exact e2 | exact e3 | exact e4 | exact e5))
            clear hK K
            (try simp only [Act.put, List.setIfInBounds_toArray, List.set_cons_zero, List.set_cons_succ, List.getElem_toArray, List.getElem_cons_zero, List.getElem_cons_succ])
            refine wpAnyH_ready (rs := [13]) (by kernel_rfl) (by simp) ?_
            refine AllReadyH.cons rfl (fun K hK => ?_) AllReadyH.nil
            refine step_append_pairs (by rfl) _ _ (by rfl) wc.heap.size _ _ _ [(aa, k)] (by rfl) hown1 (by rfl) (pair_at hpb) (by simp; omega) e2.size ?_
            intro v2 w2 hown2 hgrow2
            have e4 : Ext wc w2 := ext_grown e2 hgrow2 hown1.own
            refine hK.out _ _ ?s26 (fun hHeld => ?k26)
            case s26 => ((try dsimp only); (refine keep3 C1 F1 ?_; first | exact Ext.drew _ | exact e1 | exact e1b | exact e2 | exact e3 | exact e4 | exact e5))
            clear hK K
            (try simp only [Act.put, List.setIfInBounds_toArray, List.set_cons_zero, List.set_cons_succ, List.getElem_toArray, List.getElem_cons_zero, List.getElem_cons_succ])
            refine wpAnyH_ready (rs := [20]) (by kernel_rfl) (by simp) ?_
            refine AllReadyH.cons rfl (fun K hK => ?_) AllReadyH.nil
            refine step_append_pairs (by rfl) _ _ (by rfl) wc.heap.size _ u2 _ (R.drop jj) (by rfl) hown2 (by rfl) (HP2.out _ (HRC.out.ext e4).regs) (by simp; omega) e4.size ?_
            intro v3 w3 hown3 hgrow3
            have e5 : Ext wc w3 := ext_grown e4 hgrow3 hown2.own
            refine hK.out _ _ ?s27 (fun hHeld => ?k27)
            case s27 => ((try dsimp only); (refine keep3 C1 F1 ?_; first | exact Ext.drew _ | exact e1 | exact e1b | exact e2 | exact e3 | exact e4 | exact e5))
            clear hK K
            (try simp only [Act.put, List.setIfInBounds_toArray, List.set_cons_zero, List.set_cons_succ, List.getElem_toArray, List.getElem_cons_zero, List.getElem_cons_succ])
            refine wpAnyH_take (i := 21) (v := ?v28) rfl (by kernel_rfl) (by kernel_rfl) (by kernel_rfl) (fun _ _ _ h => h) (Or.inl ⟨by rfl, ?y28⟩) (by assumption) ?r28
            case y28 => intro w hSw; (try dsimp only at hSw); go_simp; (try with_reducible rfl)
            (try simp only [Act.put, List.setIfInBounds_toArray, List.set_cons_zero, List.set_cons_succ, List.getElem_toArray, List.getElem_cons_zero, List.getElem_cons_succ])
            refine wpAnyH_take (i := 22) (v := ?v29) rfl (by kernel_rfl) (by kernel_rfl) (by kernel_rfl) (fun _ _ _ h => h) (Or.inl ⟨by rfl, ?y29⟩) (by assumption) ?r29
            case y29 => intro w hSw; (try dsimp only at hSw); go_simp; (try with_reducible rfl)
            (try simp only [Act.put, List.setIfInBounds_toArray, List.set_cons_zero, List.set_cons_succ, List.getElem_toArray, List.getElem_cons_zero, List.getElem_cons_succ])
            refine wpAnyH_done (by kernel_rfl) ?_ _
            show wpList _ _ _ _ _ _
            have hc3 := e5.cell C1
            have hf3 := (e5.frozen C1).trans F1
            have HR3 := Lib.hid (show PairRow w3 wc.heap.size v3 (ins (aa, k) R) by rw [HIN.out]; simpa using hown3)
            have HE5 := Lib.hid e5
            obtain ⟨q3, n3, c3, hv3⟩ : ∃ q n c, v3 = .slice q n c := by obtain ⟨q3, c3, h, _⟩ := hown3.nilOr; exact ⟨q3, _, c3, h⟩
            subst hv3
            clear hown3
            go_wp2
            refine NoPanic.normal ?_
            go_wp2
            go_meet
            exact ⟨_, HRC.out.newRegs HE5.out hBc HR3.out (good_ins (by simpa using hk) (by simpa using hfit) HG.out (by rw [← HSC.out]; exact scan_free HG.out)), (Turn.of_ext HE5.out).setCell (.inl (by simp)) _⟩
        · skip
          have e1 : Ext wc (wc.alloc (.cells #[.int .i64 aa, .int .i64 k] 116)).drew := Ext.trans (Ext.alloc _ _) (Ext.drew _)
          go_simp
          refine hK.out _ _ ?s30 (fun hHeld => ?k30)
          case s30 => ((try dsimp only); (refine keep3 C1 F1 ?_; first | exact Ext.drew _ | exact e1 | exact e1b | exact e2 | exact e3 | exact e4 | exact e5))
          clear hK K
          (try simp only [Act.put, List.setIfInBounds_toArray, List.set_cons_zero, List.set_cons_succ, List.getElem_toArray, List.getElem_cons_zero, List.getElem_cons_succ])
          refine wpAnyH_ready (rs := [1]) (by kernel_rfl) (by simp) ?_
          refine AllReadyH.cons rfl (fun K hK => ?_) AllReadyH.nil
          have e1b : Ext wc ((wc.alloc (.cells #[.int .i64 aa, .int .i64 k] 116)).alloc (.cells #[] 116)).drew := Ext.trans (Ext.trans (Ext.alloc _ _) (Ext.alloc _ _)) (Ext.drew _)
          go_simp
          refine hK.out _ _ ?s31 (fun hHeld => ?k31)
          case s31 => ((try dsimp only); (refine keep3 C1 F1 ?_; first | exact Ext.drew _ | exact e1 | exact e1b | exact e2 | exact e3 | exact e4 | exact e5))
          clear hK K
          (try simp only [Act.put, List.setIfInBounds_toArray, List.set_cons_zero, List.set_cons_succ, List.getElem_toArray, List.getElem_cons_zero, List.getElem_cons_succ])
          refine wpAnyH_ready (rs := [8]) (by kernel_rfl) (by simp) ?_
          refine AllReadyH.cons rfl (fun K hK => ?_) AllReadyH.nil
          have hnew : (wc.alloc (.cells #[.int .i64 aa, .int .i64 k] 116)).heap.size = wc.heap.size + 1 := by simp
          refine step_append_pairs (by rfl) _ _ (by rfl) wc.heap.size _ u1 [] (R.take jj) (by rfl) (empty_at (b := wc.heap.size + 1) (by have := heap_alloc_new (wc.alloc (.cells #[.int .i64 aa, .int .i64 k] 116)) (.cells #[] 116); rw [hnew] at this; exact this) (by omega)) (by rfl) (HP1.out _ (HRC.out.ext e1b).regs) (by rw [List.length_take, List.length_nil]; omega) e1b.size ?_
          intro v1 w1 hown1 hgrow1
          have e2 : Ext wc w1 := ext_grown e1b hgrow1 (by intro b hb; simp [Value.ownBlock] at hb; omega)
          have hpb : w1.heap[wc.heap.size]? = some (.cells #[.int .i64 aa, .int .i64 k] 116) := by
            rw [hgrow1.block wc.heap.size (by simp; omega) (by simp [Value.ownBlock])]
            have h2 := Below.block (Below.alloc (B := wc.heap.size + 1) (Below.refl _ (wc.alloc (.cells #[.int .i64 aa, .int .i64 k] 116))) (by simp) (.cells #[] 116)) wc.heap.size (by omega)
            exact h2.trans (heap_alloc_new wc _)
          refine hK.out _ _ ?s32 (fun hHeld => ?k32)
          case s32 => ((try dsimp only); (refine keep3 C1 F1 ?_; first | exact Ext.drew _ | exact e1 | exact e1b | exact e2 | exact e3 | exact e4 | exact e5))
          clear hK K
          (try simp only [Act.put, List.setIfInBounds_toArray, List.set_cons_zero, List.set_cons_succ, List.getElem_toArray, List.getElem_cons_zero, List.getElem_cons_succ])
          refine wpAnyH_ready (rs := [13]) (by kernel_rfl) (by simp) ?_
          refine AllReadyH.cons rfl (fun K hK => ?_) AllReadyH.nil
          refine step_append_pairs (by rfl) _ _ (by rfl) wc.heap.size _ _ _ [(aa, k)] (by rfl) hown1 (by rfl) (pair_at hpb) (by simp; omega) e2.size ?_
          intro v2 w2 hown2 hgrow2
          have e4 : Ext wc w2 := ext_grown e2 hgrow2 hown1.own
          refine hK.out _ _ ?s33 (fun hHeld => ?k33)
          case s33 => ((try dsimp only); (refine keep3 C1 F1 ?_; first | exact Ext.drew _ | exact e1 | exact e1b | exact e2 | exact e3 | exact e4 | exact e5))
          clear hK K
          (try simp only [Act.put, List.setIfInBounds_toArray, List.set_cons_zero, List.set_cons_succ, List.getElem_toArray, List.getElem_cons_zero, List.getElem_cons_succ])
          refine wpAnyH_ready (rs := [20]) (by kernel_rfl) (by simp) ?_
          refine AllReadyH.cons rfl (fun K hK => ?_) AllReadyH.nil
          refine step_append_pairs (by rfl) _ _ (by rfl) wc.heap.size _ u2 _ (R.drop jj) (by rfl) hown2 (by rfl) (HP2.out _ (HRC.out.ext e4).regs) (by simp; omega) e4.size ?_
          intro v3 w3 hown3 hgrow3
          have e5 : Ext wc w3 := ext_grown e4 hgrow3 hown2.own
          refine hK.out _ _ ?s34 (fun hHeld => ?k34)
          case s34 => ((try dsimp only); (refine keep3 C1 F1 ?_; first | exact Ext.drew _ | exact e1 | exact e1b | exact e2 | exact e3 | exact e4 | exact e5))
          clear hK K
          (try simp only [Act.put, List.setIfInBounds_toArray, List.set_cons_zero, List.set_cons_succ, List.getElem_toArray, List.getElem_cons_zero, List.getElem_cons_succ])
          refine wpAnyH_take (i := 21) (v := ?v35) rfl (by kernel_rfl) (by kernel_rfl) (by kernel_rfl) (fun _ _ _ h => h) (Or.inl ⟨by rfl, ?y35⟩) (by assumption) ?r35
          case y35 => intro w hSw; (try dsimp only at hSw); go_simp; (try with_reducible rfl)
          (try simp only [Act.put, List.setIfInBounds_toArray, List.set_cons_zero, List.set_cons_succ, List.getElem_toArray, List.getElem_cons_zero, List.getElem_cons_succ])
          refine wpAnyH_take (i := 22) (v := ?v36) rfl (by kernel_rfl) (by kernel_rfl) (by kernel_rfl) (fun _ _ _ h => h) (Or.inl ⟨by rfl, ?y36⟩) (by assumption) ?r36
          case y36 => intro w hSw; (try dsimp only at hSw); go_simp; (try with_reducible rfl)
          (try simp only [Act.put, List.setIfInBounds_toArray, List.set_cons_zero, List.set_cons_succ, List.getElem_toArray, List.getElem_cons_zero, List.getElem_cons_succ])
          refine wpAnyH_done (by kernel_rfl) ?_ _
          show wpList _ _ _ _ _ _
          have hc3 := e5.cell C1
          have hf3 := (e5.frozen C1).trans F1
          have HR3 := Lib.hid (show PairRow w3 wc.heap.size v3 (ins (aa, k) R) by rw [HIN.out]; simpa using hown3)
          have HE5 := Lib.hid e5
          obtain ⟨q3, n3, c3, hv3⟩ : ∃ q n c, v3 = .slice q n c := by obtain ⟨q3, c3, h, _⟩ := hown3.nilOr; exact ⟨q3, _, c3, h⟩
          subst hv3
          clear hown3
          go_wp2
          refine NoPanic.normal ?_
          go_wp2
          go_meet
          exact ⟨_, HRC.out.newRegs HE5.out hBc HR3.out (good_ins (by simpa using hk) (by simpa using hfit) HG.out (by rw [← HSC.out]; exact scan_free HG.out)), (Turn.of_ext HE5.out).setCell (.inl (by simp)) _⟩
      case rest =>
        obtain ⟨v, hR, hT⟩ := hcut
        have HR := Lib.hid hR; have HT := Lib.hid hT
        have hl0 := hR.len
        clear hR hT
        have HT2 := Lib.hid ((Turn.of_ext (bs := [q]) HX.out).trans HT.out)
        go_wp2_with fail
        go_loopw [7] (fun i wx => ∃ ii : Nat, ii ≤ k ∧ i = .int .i64 ii ∧ RefAt wx q gq B n (setMany ws aa (List.replicate ii 0)) v (ins (aa, k) R) ∧ Turn [gq] wc wx) (fun i _ => k - (intOf i).toNat)
        case atStart => exact ⟨0, by omega, rfl, HR.out, Turn.refl _ _⟩
        case round =>
          obtain ⟨ii, hii, rfl, hR2, hT2⟩ := hrel
          have HR2 := Lib.hid hR2; have HT3 := Lib.hid hT2
          clear hR2 hT2
          by_cases hil : ii < k
          · obtain ⟨d0, d1, _⟩ := HR2.out.cells
            obtain ⟨k0, k1⟩ := HR2.out.word (i := aa + ii) (by omega)
            have i1 : (ii : Int) < (k : Int) := by omega
            have HST := Lib.hid (HR2.out.store (aa + ii) 0)
            have hmk : (setMany ws aa (List.replicate ii 0)).set (aa + ii) 0 = setMany ws aa (List.replicate (ii + 1) 0) := by
              rw [List.replicate_succ', setMany_snoc, List.length_replicate]
            rw [hmk] at HST
            generalize (setMany ws aa (List.replicate ii 0)).getD (aa + ii) 0 = u at *
            clear hmk
            go_wp2_with fail
            exact ⟨⟨ii + 1, by omega, by go_num, HST.out, HT3.out.trans ((Turn.refl _ _).setCell (.inl (by simp)) _)⟩, by simp [intOf]; omega⟩
          · obtain rfl : ii = k := by omega
            go_wp2_with fail
            go_ret
            refine .inl ⟨by rw [HSC.out]; exact hfit, by rw [HSC.out]; rfl, ⟨v, by rw [HSC.out]; exact HR2.out⟩, (HT2.out.mono (by simp)).trans (HT3.out.mono (by simp))⟩
    · have t1 : decide ((n : Int) - (aa : Int) < (k : Int)) = true := decide_eq_true (by omega)
      go_wp2_with fail
      go_ret
      exact .inr ⟨by rw [HSC.out]; exact hfit, rfl, HX.out⟩
end Go.Proofs.Ytlffmcadchbheaa
/- The arena's and the reference's calls, each answer as one function of the regions and words. -/
namespace Go.Proofs.Ytlffmcadchbheaa
open Go.RowKit Go.Maps Arena
set_option maxHeartbeats 4000000
set_option maxRecDepth 100000
theorem drop_none {R : List (Nat × Nat)} {x : Int} (h : ∀ r ∈ R, (r.1 : Int) ≠ x) : Arena.drop x R = R := by
  unfold Arena.drop
  refine List.filter_eq_self.2 fun r hr => ?_
  have := h r hr
  simp [this]
theorem lenAt_some' {n : Nat} {R : List (Nat × Nat)} {x : Int} (_hg : Arena.Good n R) (h : ¬ lenAt R x = 0) : ∃ (i : Nat) (hi : i < R.length), (R[i].1 : Int) = x ∧ lenAt R x = R[i].2 := by
  obtain ⟨r, hr, h1, h2⟩ := lenAt_some h
  obtain ⟨i, hi, rfl⟩ := List.getElem_of_mem hr
  exact ⟨i, hi, h1, h2⟩
def freeB (R : List (Nat × Nat)) (x : Int) : Bool := !decide (lenAt R x = 0)
/-- whether a place is within the region that begins at x -/
def within (R : List (Nat × Nat)) (x a : Int) : Bool := decide (0 ≤ a ∧ a < lenAt R x)
def setWs (ws : List Int) (R : List (Nat × Nat)) (x a v : Int) : List Int := if within R x a then ws.set (x + a).toNat v else ws
def getW (ws : List Int) (R : List (Nat × Nat)) (x a : Int) : Int := if within R x a then ws.getD (x + a).toNat 0 else 0
def wordsAt (ws : List Int) (R : List (Nat × Nat)) (x : Int) : List Int := (ws.drop x.toNat).take (lenAt R x)
/-- a place, by where it stands -/
theorem place_cases {n : Nat} {R : List (Nat × Nat)} (hg : Arena.Good n R) (x a : Int) :
    (lenAt R x = 0 ∧ within R x a = false) ∨ (∃ (i : Nat) (hi : i < R.length), (R[i].1 : Int) = x ∧ lenAt R x = R[i].2 ∧ ((within R x a = false ∧ (a < 0 ∨ (R[i].2 : Int) ≤ a)) ∨ ∃ m : Nat, a = m ∧ m < R[i].2 ∧ within R x a = true)) := by
  by_cases h0 : lenAt R x = 0
  · exact .inl ⟨h0, by unfold within; rw [h0]; simp⟩
  · obtain ⟨i, hi, hx, hl⟩ := lenAt_some' hg h0
    refine .inr ⟨i, hi, hx, hl, ?_⟩
    by_cases ha : 0 ≤ a ∧ a < lenAt R x
    · obtain ⟨m, rfl⟩ := Int.eq_ofNat_of_zero_le ha.1
      exact .inr ⟨m, rfl, by rw [← hl]; omega, by unfold within; exact decide_eq_true ha⟩
    · refine .inl ⟨by unfold within; exact decide_eq_false ha, ?_⟩
      rw [← hl]; omega
theorem setA_said {w : World} {p g bm n : Nat} {ws : List Int} {R : List (Nat × Nat)} {x a v : Int} (h : ArenaAt w p g bm n ws R) (hw : (Lit.int .i64 x).wf = true) :
    Calls Try.prog 37 #[.pointer (some ⟨p, 0, none⟩), .int .i64 x, .int .i64 a, .int .u64 v] w fun e w' => e = .returned (.bool (within R x a)) ∧ ArenaAt w' p g bm n (setWs ws R x a v) R ∧ Turn [g] w w' := by
  rcases place_cases h.good x a with ⟨h0, hf⟩ | ⟨i, hi, rfl, hl, ⟨hf, ho⟩ | ⟨m, rfl, hm, hf⟩⟩
  · refine (set_no h hw h0).mono ?_
    rintro e w' ⟨rfl, rfl⟩
    exact ⟨by rw [hf], by simpa [setWs, hf] using h, Turn.refl _ _⟩
  · refine (set_out h (List.getElem_mem hi) ho).mono ?_
    rintro e w' ⟨rfl, rfl⟩
    exact ⟨by rw [hf], by simpa [setWs, hf] using h, Turn.refl _ _⟩
  · refine (set_yes h (List.getElem_mem hi) hm).mono ?_
    rintro e w' ⟨rfl, h1, h2⟩
    refine ⟨by rw [hf], ?_, h2⟩
    unfold setWs
    rw [if_pos hf, show ((R[i].1 : Int) + (m : Int)).toNat = R[i].1 + m by omega]
    exact h1
theorem setR_said {w : World} {q gq B n : Nat} {ws : List Int} {vR : Value} {R : List (Nat × Nat)} {x a v : Int} (h : RefAt w q gq B n ws vR R) :
    Calls Try.prog 38 #[.pointer (some ⟨q, 0, none⟩), .int .i64 x, .int .i64 a, .int .u64 v] w fun e w' => e = .returned (.bool (within R x a)) ∧ RefAt w' q gq B n (setWs ws R x a v) vR R ∧ Turn [gq] w w' := by
  rcases place_cases h.good x a with ⟨h0, hf⟩ | ⟨i, hi, rfl, hl, ⟨hf, ho⟩ | ⟨m, rfl, hm, hf⟩⟩
  · refine (refset_no h h0).mono ?_
    rintro e w' ⟨rfl, rfl⟩
    exact ⟨by rw [hf], by simpa [setWs, hf] using h, Turn.refl _ _⟩
  · refine (refset_out h (List.getElem_mem hi) ho).mono ?_
    rintro e w' ⟨rfl, rfl⟩
    exact ⟨by rw [hf], by simpa [setWs, hf] using h, Turn.refl _ _⟩
  · refine (refset_yes h (List.getElem_mem hi) hm).mono ?_
    rintro e w' ⟨rfl, h1, h2⟩
    refine ⟨by rw [hf], ?_, h2⟩
    unfold setWs
    rw [if_pos hf, show ((R[i].1 : Int) + (m : Int)).toNat = R[i].1 + m by omega]
    exact h1
theorem getA_said {w : World} {p g bm n : Nat} {ws : List Int} {R : List (Nat × Nat)} {x a : Int} (h : ArenaAt w p g bm n ws R) (hw : (Lit.int .i64 x).wf = true) :
    Calls Try.prog 75 #[.pointer (some ⟨p, 0, none⟩), .int .i64 x, .int .i64 a] w fun e w' => e = .returned (.tuple #[.int .u64 (getW ws R x a), .bool (within R x a)]) ∧ w = w' := by
  rcases place_cases h.good x a with ⟨h0, hf⟩ | ⟨i, hi, rfl, hl, ⟨hf, ho⟩ | ⟨m, rfl, hm, hf⟩⟩
  · refine (get_no h hw h0).mono ?_
    rintro e w' ⟨rfl, rfl⟩
    exact ⟨by simp [getW, hf], rfl⟩
  · refine (get_out h (List.getElem_mem hi) ho).mono ?_
    rintro e w' ⟨rfl, rfl⟩
    exact ⟨by simp [getW, hf], rfl⟩
  · refine (get_yes h (List.getElem_mem hi) hm).mono ?_
    rintro e w' ⟨rfl, rfl⟩
    refine ⟨?_, rfl⟩
    unfold getW
    rw [if_pos hf, hf, show ((R[i].1 : Int) + (m : Int)).toNat = R[i].1 + m by omega]
theorem wordSl_nil (w : World) : WordSl w (.slice none 0 0) [] := ⟨none, 0, rfl, Nat.le_refl _, Nat.zero_le _, fun i x h => by simp at h⟩
theorem wordsAt_zero {ws : List Int} {R : List (Nat × Nat)} {x : Int} (h0 : lenAt R x = 0) : wordsAt ws R x = [] := by unfold wordsAt; rw [h0]; simp
theorem wordsA_said {w : World} {p g bm n : Nat} {ws : List Int} {R : List (Nat × Nat)} {x : Int} (h : ArenaAt w p g bm n ws R) (hw : (Lit.int .i64 x).wf = true) :
    Calls Try.prog 50 #[.pointer (some ⟨p, 0, none⟩), .int .i64 x] w fun e w' => ∃ v, e = .returned (.tuple #[v, .bool (freeB R x)]) ∧ WordSl w' v (wordsAt ws R x) ∧ Ext w w' := by
  by_cases h0 : lenAt R x = 0
  · refine (words_no h hw h0).mono ?_
    rintro e w' ⟨rfl, rfl⟩
    exact ⟨.slice none 0 0, by simp [freeB, h0], by rw [wordsAt_zero h0]; exact wordSl_nil _, Ext.refl _⟩
  · obtain ⟨i, hi, rfl, hl⟩ := lenAt_some' h.good h0
    refine (words_yes h (List.getElem_mem hi)).mono ?_
    rintro e w' ⟨v, rfl, h1, h2⟩
    refine ⟨v, by simp [freeB, h0], ?_, h2⟩
    have hlen := wordsOf_length (ws := ws) h.good h.len (List.getElem_mem hi)
    have e1 : wordsAt ws R (R[i].1 : Int) = wordsOf ws R[i] := by
      unfold wordsAt wordsOf
      rw [hl]
      simp
    rw [e1]
    refine WordSl.of_row (l := wordsOf ws R[i]) (base := w.heap.size) ?_
    rw [hlen]
    exact h1
theorem wordsR_said {w : World} {q gq B n : Nat} {ws : List Int} {vR : Value} {R : List (Nat × Nat)} {x : Int} (h : RefAt w q gq B n ws vR R) :
    Calls Try.prog 45 #[.pointer (some ⟨q, 0, none⟩), .int .i64 x] w fun e w' => ∃ v, e = .returned v ∧ WordSl w v (wordsAt ws R x) ∧ w = w' := by
  by_cases h0 : lenAt R x = 0
  · refine (refwords_no h h0).mono ?_
    rintro e w' ⟨rfl, rfl⟩
    exact ⟨_, rfl, by rw [wordsAt_zero h0]; exact wordSl_nil _, rfl⟩
  · obtain ⟨i, hi, rfl, hl⟩ := lenAt_some' h.good h0
    refine (refwords_yes h (List.getElem_mem hi)).mono ?_
    rintro e w' ⟨rfl, rfl⟩
    refine ⟨_, rfl, ?_, rfl⟩
    have hlen := wordsOf_length (ws := ws) h.good h.len (List.getElem_mem hi)
    have hb := h.good.2 R[i] (List.getElem_mem hi)
    have hn := h.least
    have e1 : wordsAt ws R (R[i].1 : Int) = wordsOf ws R[i] := by
      unfold wordsAt wordsOf
      rw [hl]
      simp
    rw [e1]
    refine ⟨some ⟨gq, R[i].1, none⟩, n - R[i].1, by rw [hlen], by rw [hlen]; omega, by unfold maxLen; omega, fun j y hj => ⟨gq, R[i].1, rfl, ?_⟩⟩
    have hjl : j < (wordsOf ws R[i]).length := (List.getElem?_eq_some_iff.1 hj).1
    rw [hlen] at hjl
    rw [(h.word (i := R[i].1 + j) (by omega)).1]
    unfold wordsOf at hj
    rw [List.getElem?_take_of_lt hjl, List.getElem?_drop] at hj
    rw [List.getD_eq_getElem?_getD, hj]
    rfl
theorem sizeR_said {w : World} {q gq B n : Nat} {ws : List Int} {vR : Value} {R : List (Nat × Nat)} {x : Int} (h : RefAt w q gq B n ws vR R) :
    Calls Try.prog 49 #[.pointer (some ⟨q, 0, none⟩), .int .i64 x] w fun e w' => (∃ s : Int, e = .returned (.int .i64 s) ∧ decide (0 ≤ s) = freeB R x) ∧ w = w' := by
  by_cases h0 : lenAt R x = 0
  · refine (size_no h h0).mono ?_
    rintro e w' ⟨rfl, rfl⟩
    exact ⟨⟨-1, rfl, by simp [freeB, h0]⟩, rfl⟩
  · obtain ⟨i, hi, rfl, hl⟩ := lenAt_some' h.good h0
    refine (size_yes h (List.getElem_mem hi)).mono ?_
    rintro e w' ⟨rfl, rfl⟩
    exact ⟨⟨_, rfl, by simp [freeB, h0]⟩, rfl⟩
end Go.Proofs.Ytlffmcadchbheaa
/- The two arenas side by side. -/
namespace Go.Proofs.Ytlffmcadchbheaa
open Go.RowKit Go.Maps Arena
set_option maxHeartbeats 8000000
set_option maxRecDepth 100000
attribute [local go_sem ↓] Go.wp_at_zero Go.wp_at_succ
/-- the two arenas side by side, and how their blocks lie -/
structure Both (w0 w : World) (p g bm q gq B n : Nat) (ws : List Int) (R : List (Nat × Nat)) : Prop where
  a : ArenaAt w p g bm n ws R
  r : ∃ v, RefAt w q gq B n ws v R
  lt : p < q ∧ g < q ∧ bm < q ∧ p < gq ∧ g < gq ∧ bm < gq
  ge : w0.heap.size ≤ p ∧ w0.heap.size ≤ g ∧ w0.heap.size ≤ bm
  size : B ≤ w.heap.size
  ext : Ext w0 w
theorem Both.turnA {w0 w w' : World} {p g bm q gq B n : Nat} {ws : List Int} {R : List (Nat × Nat)} (h : Both w0 w p g bm q gq B n ws R) {bs : List Nat} (t : Turn bs w w') (hb : ∀ b ∈ bs, b = g ∨ b = bm) : (∃ v, RefAt w' q gq B n ws v R) ∧ B ≤ w'.heap.size ∧ Ext w0 w' := by
  obtain ⟨l1, l2, l3, l4, l5, l6⟩ := h.lt
  obtain ⟨g1, g2, g3⟩ := h.ge
  obtain ⟨v, hr⟩ := h.r
  refine ⟨⟨v, hr.turn t (fun hm => ?_) (fun hm => ?_) (fun b hm => ?_)⟩, Nat.le_trans h.size t.size, Below.trans h.ext (t.below h.ext.size fun b hm => ?_)⟩
  · rcases hb _ hm with h | h <;> omega
  · rcases hb _ hm with h | h <;> omega
  · have := hr.qB
    rcases hb b hm with h | h <;> omega
  · rcases hb b hm with h | h <;> omega
theorem Both.turnR {w0 w w' : World} {p g bm q gq B n : Nat} {ws : List Int} {R : List (Nat × Nat)} (h : Both w0 w p g bm q gq B n ws R) {bs : List Nat} (t : Turn bs w w') (hb : ∀ b ∈ bs, b = q ∨ b = gq) : ArenaAt w' p g bm n ws R ∧ B ≤ w'.heap.size ∧ Ext w0 w' := by
  obtain ⟨l1, l2, l3, l4, l5, l6⟩ := h.lt
  obtain ⟨g1, g2, g3⟩ := h.ge
  refine ⟨h.a.turn t (fun hm => ?_) (fun hm => ?_) (fun hm => ?_), Nat.le_trans h.size t.size, Below.trans h.ext (t.below h.ext.size fun b hm => ?_)⟩
  · rcases hb _ hm with h | h <;> omega
  · rcases hb _ hm with h | h <;> omega
  · rcases hb _ hm with h | h <;> omega
  · rcases hb b hm with h | h <;> omega
theorem Both.step {w0 w w' : World} {p g bm q gq B n : Nat} {ws : List Int} {R : List (Nat × Nat)} (h : Both w0 w p g bm q gq B n ws R) (e : Ext w w') : Both w0 w' p g bm q gq B n ws R := by
  obtain ⟨h1, h2, h3⟩ := h.turnA (Turn.of_ext (bs := []) e) (by simp)
  exact ⟨h.a.ext e, h1, h.lt, h.ge, h2, h3⟩
theorem Both.mk1 {w0 w w5 w6 : World} {p g bm q gq B n : Nat} {ws ws1 : List Int} {R R1 : List (Nat × Nat)} (h : Both w0 w p g bm q gq B n ws R) {bs cs : List Nat} (hA : ArenaAt w5 p g bm n ws1 R1) (t : Turn bs w w5) (hb : ∀ b ∈ bs, b = g ∨ b = bm)
    (hr : ∃ v, RefAt w6 q gq B n ws1 v R1) (u : Turn cs w5 w6) (hc : ∀ b ∈ cs, b = q ∨ b = gq) : Both w0 w6 p g bm q gq B n ws1 R1 := by
  obtain ⟨⟨v, hr5⟩, h2, h3⟩ := h.turnA t hb
  obtain ⟨l1, l2, l3, l4, l5, l6⟩ := h.lt
  obtain ⟨g1, g2, g3⟩ := h.ge
  refine ⟨hA.turn u (fun hm => ?_) (fun hm => ?_) (fun hm => ?_), hr, h.lt, h.ge, Nat.le_trans h2 u.size, Below.trans h3 (u.below h3.size fun b hm => ?_)⟩
  · rcases hc _ hm with h | h <;> omega
  · rcases hc _ hm with h | h <;> omega
  · rcases hc _ hm with h | h <;> omega
  · rcases hc b hm with h | h <;> omega
theorem Both.mk2 {w0 w w5 w6 : World} {p g bm q gq B n : Nat} {ws ws1 : List Int} {R R1 : List (Nat × Nat)} (h : Both w0 w p g bm q gq B n ws R) {bs cs : List Nat} (hr : ∃ v, RefAt w5 q gq B n ws1 v R1) (u : Turn cs w w5) (hc : ∀ b ∈ cs, b = q ∨ b = gq)
    (hA : ArenaAt w6 p g bm n ws1 R1) (t : Turn bs w5 w6) (hb : ∀ b ∈ bs, b = g ∨ b = bm) : Both w0 w6 p g bm q gq B n ws1 R1 := by
  obtain ⟨h1, h2, h3⟩ := h.turnR u hc
  obtain ⟨l1, l2, l3, l4, l5, l6⟩ := h.lt
  obtain ⟨g1, g2, g3⟩ := h.ge
  obtain ⟨v, hr⟩ := hr
  refine ⟨hA, ⟨v, hr.turn t (fun hm => ?_) (fun hm => ?_) (fun b hm => ?_)⟩, h.lt, h.ge, Nat.le_trans h2 t.size, Below.trans h3 (t.below h3.size fun b hm => ?_)⟩
  · rcases hb _ hm with h | h <;> omega
  · rcases hb _ hm with h | h <;> omega
  · have := hr.qB
    rcases hb b hm with h | h <;> omega
  · rcases hb b hm with h | h <;> omega
end Go.Proofs.Ytlffmcadchbheaa
/- Objects in a row of words, in plain Lean. -/
namespace Go.Proofs.Ytlffmcadchbheaa
open Go
def rowB (tg : Int) (n m : Nat) (least most : Nat) (top : Int) : Bool := decide (0 ≤ tg) && decide (tg ≤ top) && decide (least ≤ n) && decide (n ≤ most) && decide (m = 0)
/-- may an object be: its kind, its tag, how many fields, how many bytes -/
def mayK (kd tg : Int) (n m : Nat) : Bool :=
  if kd = 1 then rowB tg n m 1 8 255 else if kd = 2 then decide (tg = 0) && decide (n = 0) && decide (m ≤ 400) else if kd = 3 then rowB tg n m 0 400 0 else if kd = 4 then rowB tg n m 0 30 59 else false
def sizeK (kd : Int) (n m : Nat) : Nat := if kd = 2 then m else n
def bodyK (kd : Int) (n m : Nat) : Nat := if kd = 2 then (m + 7) / 8 else n
def headK (kd tg : Int) (n m : Nat) : Int := kd + 256 * tg + 4294967296 * (sizeK kd n m : Int)
structure Ob where
  kind : Int
  tag : Int
  fields : List Int
  text : ByteArray
def mayO (o : Ob) : Bool := mayK o.kind o.tag o.fields.length o.text.size
def wordsO (o : Ob) : Nat := 1 + bodyK o.kind o.fields.length o.text.size
def headO (o : Ob) : Int := headK o.kind o.tag o.fields.length o.text.size
theorem rowB_true {tg : Int} {n m least most : Nat} {top : Int} (h : rowB tg n m least most top = true) : 0 ≤ tg ∧ tg ≤ top ∧ least ≤ n ∧ n ≤ most ∧ m = 0 := by
  unfold rowB at h
  simp only [Bool.and_eq_true, decide_eq_true_eq] at h
  obtain ⟨⟨⟨⟨h1, h2⟩, h3⟩, h4⟩, h5⟩ := h
  exact ⟨h1, h2, h3, h4, h5⟩
/-- what may be, by its kind -/
theorem mayK_cases {kd tg : Int} {n m : Nat} (h : mayK kd tg n m = true) : (kd = 1 ∧ 0 ≤ tg ∧ tg ≤ 255 ∧ 1 ≤ n ∧ n ≤ 8 ∧ m = 0) ∨ (kd = 2 ∧ tg = 0 ∧ n = 0 ∧ m ≤ 400) ∨ (kd = 3 ∧ tg = 0 ∧ n ≤ 400 ∧ m = 0) ∨ (kd = 4 ∧ 0 ≤ tg ∧ tg ≤ 59 ∧ n ≤ 30 ∧ m = 0) := by
  unfold mayK at h
  split at h
  · obtain ⟨h1, h2, h3, h4, h5⟩ := rowB_true h
    exact .inl ⟨by assumption, h1, h2, h3, h4, h5⟩
  · split at h
    · simp only [Bool.and_eq_true, decide_eq_true_eq] at h
      exact .inr (.inl ⟨by assumption, h.1.1, h.1.2, h.2⟩)
    · split at h
      · obtain ⟨h1, h2, h3, h4, h5⟩ := rowB_true h
        exact .inr (.inr (.inl ⟨by assumption, by omega, h4, h5⟩))
      · split at h
        · obtain ⟨h1, h2, h3, h4, h5⟩ := rowB_true h
          exact .inr (.inr (.inr ⟨by assumption, h1, h2, h4, h5⟩))
        · cases h
theorem mayK_bounds {kd tg : Int} {n m : Nat} (h : mayK kd tg n m = true) : 1 ≤ kd ∧ kd ≤ 4 ∧ 0 ≤ tg ∧ tg ≤ 255 ∧ n ≤ 400 ∧ m ≤ 400 ∧ sizeK kd n m ≤ 400 ∧ bodyK kd n m ≤ 400 := by
  unfold sizeK bodyK
  rcases mayK_cases h with ⟨rfl, h⟩ | ⟨rfl, h⟩ | ⟨rfl, h⟩ | ⟨rfl, h⟩ <;> refine ⟨by omega, by omega, by omega, by omega, by omega, by omega, ?_, ?_⟩ <;> simp <;> omega
/-- a word's eight bytes, the least first -/
def bytes8 (w : Int) : List UInt8 := (List.range 8).map fun j => UInt8.ofNat (w.toNat / 256 ^ j % 256)
def bytesOf (W : List Int) : List UInt8 := W.flatMap bytes8
/-- bytes as one number, the least first -/
def pk : List UInt8 → Nat
  | [] => 0
  | b :: l => b.toNat + 256 * pk l
def pieceN (l : List UInt8) (j : Nat) : Int := (pk ((l.drop (8 * j)).take 8) : Int)
/-- a text's words -/
def pieces (l : List UInt8) : List Int := (List.range ((l.length + 7) / 8)).map (pieceN l)
def bodyO (o : Ob) : List Int := if o.kind = 2 then pieces o.text.data.toList else o.fields
def layO (o : Ob) : List Int := headO o :: bodyO o
/-- the object that begins a row of words -/
def readS : List Int → Option Ob
  | [] => none
  | h :: r =>
    let kd := h % 256
    let tg := h / 256 % 16777216
    let sz := (h / 4294967296).toNat
    if 1 ≤ kd ∧ kd ≤ 4 ∧ sz ≤ 400 ∧ bodyK kd sz sz ≤ r.length then
      let b := r.take (bodyK kd sz sz)
      let o : Ob := if kd = 2 then ⟨kd, tg, [], ⟨((bytesOf b).take sz).toArray⟩⟩ else ⟨kd, tg, b, ByteArray.empty⟩
      if (kd = 2 → ((bytesOf b).drop sz).all (· == 0) = true) ∧ mayO o = true then some o else none
    else none
/-- all objects of a row of words, each with its place -/
def objsN : Nat → List Int → Nat → Option (List (Nat × Ob))
  | 0, _, _ => some []
  | f + 1, S, at_ => if S = [] then some [] else match readS S with
    | none => none
    | some o => (objsN f (S.drop (wordsO o)) (at_ + wordsO o)).map ((at_, o) :: ·)
def objs (S : List Int) (at_ : Nat) : Option (List (Nat × Ob)) := objsN (S.length + 1) S at_
def isIntW (w : Int) : Bool := decide (w % 2 = 1)
/-- may a word be a field: the places, the semispace's first word -/
def fieldOK (P : List Nat) (first : Nat) (w : Int) : Bool := isIntW w || (decide (w / 2 < 4294967296) && P.any fun a => decide (((first + a : Nat) : Int) = w / 2))
def fieldsOK (first : Nat) (L : List (Nat × Ob)) : Bool := L.all fun x => x.2.fields.all (fieldOK (L.map (·.1)) first)
def allS (first : Nat) (S : List Int) : Option (List (Nat × Ob)) := match objs S 0 with
  | none => none
  | some L => if fieldsOK first L then some L else none
end Go.Proofs.Ytlffmcadchbheaa
/- Worlds of several new blocks: what lies where, under one letter. -/
namespace Go.Proofs.Ytlffmcadchbheaa
open Go.RowKit
theorem blocks1 (w : World) (o0 : Obj) : Ext w (w.alloc o0) ∧ (w.alloc o0).heap.size = w.heap.size + 1 ∧ (w.alloc o0).heap[w.heap.size]? = some o0 := by
  exact ⟨Ext.alloc _ _, by simp, heap_alloc_new _ _⟩
theorem at_alloc1 {P : Program} {f : FuncId} {args : Array Value} {w : World} {o0 : Obj} {Q : Ending → World → Prop} (h : ∀ W : World, Ext w W → W.heap.size = w.heap.size + 1 → W.heap[w.heap.size]? = some o0 → Calls P f args W Q) : Calls P f args (w.alloc o0) Q := by
  obtain ⟨e, s, b0⟩ := blocks1 w o0
  exact h _ e s b0
theorem blocks2 (w : World) (o0 o1 : Obj) : Ext w ((w.alloc o0).alloc o1) ∧ ((w.alloc o0).alloc o1).heap.size = w.heap.size + 1 + 1 ∧ ((w.alloc o0).alloc o1).heap[w.heap.size]? = some o0 ∧ ((w.alloc o0).alloc o1).heap[w.heap.size + 1]? = some o1 := by
  obtain ⟨e, s, b0⟩ := blocks1 w o0
  refine ⟨e.trans (Ext.alloc _ _), by rw [← s]; simp, (Below.block (Ext.alloc _ _) _ (by rw [s]; omega)).trans b0, ?_⟩
  rw [← s]; exact heap_alloc_new _ _
theorem at_alloc2 {P : Program} {f : FuncId} {args : Array Value} {w : World} {o0 o1 : Obj} {Q : Ending → World → Prop} (h : ∀ W : World, Ext w W → W.heap.size = w.heap.size + 1 + 1 → W.heap[w.heap.size]? = some o0 → W.heap[w.heap.size + 1]? = some o1 → Calls P f args W Q) : Calls P f args ((w.alloc o0).alloc o1) Q := by
  obtain ⟨e, s, b0, b1⟩ := blocks2 w o0 o1
  exact h _ e s b0 b1
theorem blocks3 (w : World) (o0 o1 o2 : Obj) : Ext w (((w.alloc o0).alloc o1).alloc o2) ∧ (((w.alloc o0).alloc o1).alloc o2).heap.size = w.heap.size + 1 + 1 + 1 ∧ (((w.alloc o0).alloc o1).alloc o2).heap[w.heap.size]? = some o0 ∧ (((w.alloc o0).alloc o1).alloc o2).heap[w.heap.size + 1]? = some o1 ∧ (((w.alloc o0).alloc o1).alloc o2).heap[w.heap.size + 1 + 1]? = some o2 := by
  obtain ⟨e, s, b0, b1⟩ := blocks2 w o0 o1
  refine ⟨e.trans (Ext.alloc _ _), by rw [← s]; simp, (Below.block (Ext.alloc _ _) _ (by rw [s]; omega)).trans b0, (Below.block (Ext.alloc _ _) _ (by rw [s]; omega)).trans b1, ?_⟩
  rw [← s]; exact heap_alloc_new _ _
theorem at_alloc3 {P : Program} {f : FuncId} {args : Array Value} {w : World} {o0 o1 o2 : Obj} {Q : Ending → World → Prop} (h : ∀ W : World, Ext w W → W.heap.size = w.heap.size + 1 + 1 + 1 → W.heap[w.heap.size]? = some o0 → W.heap[w.heap.size + 1]? = some o1 → W.heap[w.heap.size + 1 + 1]? = some o2 → Calls P f args W Q) : Calls P f args (((w.alloc o0).alloc o1).alloc o2) Q := by
  obtain ⟨e, s, b0, b1, b2⟩ := blocks3 w o0 o1 o2
  exact h _ e s b0 b1 b2
theorem blocks4 (w : World) (o0 o1 o2 o3 : Obj) : Ext w ((((w.alloc o0).alloc o1).alloc o2).alloc o3) ∧ ((((w.alloc o0).alloc o1).alloc o2).alloc o3).heap.size = w.heap.size + 1 + 1 + 1 + 1 ∧ ((((w.alloc o0).alloc o1).alloc o2).alloc o3).heap[w.heap.size]? = some o0 ∧ ((((w.alloc o0).alloc o1).alloc o2).alloc o3).heap[w.heap.size + 1]? = some o1 ∧ ((((w.alloc o0).alloc o1).alloc o2).alloc o3).heap[w.heap.size + 1 + 1]? = some o2 ∧ ((((w.alloc o0).alloc o1).alloc o2).alloc o3).heap[w.heap.size + 1 + 1 + 1]? = some o3 := by
  obtain ⟨e, s, b0, b1, b2⟩ := blocks3 w o0 o1 o2
  refine ⟨e.trans (Ext.alloc _ _), by rw [← s]; simp, (Below.block (Ext.alloc _ _) _ (by rw [s]; omega)).trans b0, (Below.block (Ext.alloc _ _) _ (by rw [s]; omega)).trans b1, (Below.block (Ext.alloc _ _) _ (by rw [s]; omega)).trans b2, ?_⟩
  rw [← s]; exact heap_alloc_new _ _
theorem at_alloc4 {P : Program} {f : FuncId} {args : Array Value} {w : World} {o0 o1 o2 o3 : Obj} {Q : Ending → World → Prop} (h : ∀ W : World, Ext w W → W.heap.size = w.heap.size + 1 + 1 + 1 + 1 → W.heap[w.heap.size]? = some o0 → W.heap[w.heap.size + 1]? = some o1 → W.heap[w.heap.size + 1 + 1]? = some o2 → W.heap[w.heap.size + 1 + 1 + 1]? = some o3 → Calls P f args W Q) : Calls P f args ((((w.alloc o0).alloc o1).alloc o2).alloc o3) Q := by
  obtain ⟨e, s, b0, b1, b2, b3⟩ := blocks4 w o0 o1 o2 o3
  exact h _ e s b0 b1 b2 b3
theorem blocks5 (w : World) (o0 o1 o2 o3 o4 : Obj) : Ext w (((((w.alloc o0).alloc o1).alloc o2).alloc o3).alloc o4) ∧ (((((w.alloc o0).alloc o1).alloc o2).alloc o3).alloc o4).heap.size = w.heap.size + 1 + 1 + 1 + 1 + 1 ∧ (((((w.alloc o0).alloc o1).alloc o2).alloc o3).alloc o4).heap[w.heap.size]? = some o0 ∧ (((((w.alloc o0).alloc o1).alloc o2).alloc o3).alloc o4).heap[w.heap.size + 1]? = some o1 ∧ (((((w.alloc o0).alloc o1).alloc o2).alloc o3).alloc o4).heap[w.heap.size + 1 + 1]? = some o2 ∧ (((((w.alloc o0).alloc o1).alloc o2).alloc o3).alloc o4).heap[w.heap.size + 1 + 1 + 1]? = some o3 ∧ (((((w.alloc o0).alloc o1).alloc o2).alloc o3).alloc o4).heap[w.heap.size + 1 + 1 + 1 + 1]? = some o4 := by
  obtain ⟨e, s, b0, b1, b2, b3⟩ := blocks4 w o0 o1 o2 o3
  refine ⟨e.trans (Ext.alloc _ _), by rw [← s]; simp, (Below.block (Ext.alloc _ _) _ (by rw [s]; omega)).trans b0, (Below.block (Ext.alloc _ _) _ (by rw [s]; omega)).trans b1, (Below.block (Ext.alloc _ _) _ (by rw [s]; omega)).trans b2, (Below.block (Ext.alloc _ _) _ (by rw [s]; omega)).trans b3, ?_⟩
  rw [← s]; exact heap_alloc_new _ _
theorem at_alloc5 {P : Program} {f : FuncId} {args : Array Value} {w : World} {o0 o1 o2 o3 o4 : Obj} {Q : Ending → World → Prop} (h : ∀ W : World, Ext w W → W.heap.size = w.heap.size + 1 + 1 + 1 + 1 + 1 → W.heap[w.heap.size]? = some o0 → W.heap[w.heap.size + 1]? = some o1 → W.heap[w.heap.size + 1 + 1]? = some o2 → W.heap[w.heap.size + 1 + 1 + 1]? = some o3 → W.heap[w.heap.size + 1 + 1 + 1 + 1]? = some o4 → Calls P f args W Q) : Calls P f args (((((w.alloc o0).alloc o1).alloc o2).alloc o3).alloc o4) Q := by
  obtain ⟨e, s, b0, b1, b2, b3, b4⟩ := blocks5 w o0 o1 o2 o3 o4
  exact h _ e s b0 b1 b2 b3 b4
theorem blocks6 (w : World) (o0 o1 o2 o3 o4 o5 : Obj) : Ext w ((((((w.alloc o0).alloc o1).alloc o2).alloc o3).alloc o4).alloc o5) ∧ ((((((w.alloc o0).alloc o1).alloc o2).alloc o3).alloc o4).alloc o5).heap.size = w.heap.size + 1 + 1 + 1 + 1 + 1 + 1 ∧ ((((((w.alloc o0).alloc o1).alloc o2).alloc o3).alloc o4).alloc o5).heap[w.heap.size]? = some o0 ∧ ((((((w.alloc o0).alloc o1).alloc o2).alloc o3).alloc o4).alloc o5).heap[w.heap.size + 1]? = some o1 ∧ ((((((w.alloc o0).alloc o1).alloc o2).alloc o3).alloc o4).alloc o5).heap[w.heap.size + 1 + 1]? = some o2 ∧ ((((((w.alloc o0).alloc o1).alloc o2).alloc o3).alloc o4).alloc o5).heap[w.heap.size + 1 + 1 + 1]? = some o3 ∧ ((((((w.alloc o0).alloc o1).alloc o2).alloc o3).alloc o4).alloc o5).heap[w.heap.size + 1 + 1 + 1 + 1]? = some o4 ∧ ((((((w.alloc o0).alloc o1).alloc o2).alloc o3).alloc o4).alloc o5).heap[w.heap.size + 1 + 1 + 1 + 1 + 1]? = some o5 := by
  obtain ⟨e, s, b0, b1, b2, b3, b4⟩ := blocks5 w o0 o1 o2 o3 o4
  refine ⟨e.trans (Ext.alloc _ _), by rw [← s]; simp, (Below.block (Ext.alloc _ _) _ (by rw [s]; omega)).trans b0, (Below.block (Ext.alloc _ _) _ (by rw [s]; omega)).trans b1, (Below.block (Ext.alloc _ _) _ (by rw [s]; omega)).trans b2, (Below.block (Ext.alloc _ _) _ (by rw [s]; omega)).trans b3, (Below.block (Ext.alloc _ _) _ (by rw [s]; omega)).trans b4, ?_⟩
  rw [← s]; exact heap_alloc_new _ _
theorem at_alloc6 {P : Program} {f : FuncId} {args : Array Value} {w : World} {o0 o1 o2 o3 o4 o5 : Obj} {Q : Ending → World → Prop} (h : ∀ W : World, Ext w W → W.heap.size = w.heap.size + 1 + 1 + 1 + 1 + 1 + 1 → W.heap[w.heap.size]? = some o0 → W.heap[w.heap.size + 1]? = some o1 → W.heap[w.heap.size + 1 + 1]? = some o2 → W.heap[w.heap.size + 1 + 1 + 1]? = some o3 → W.heap[w.heap.size + 1 + 1 + 1 + 1]? = some o4 → W.heap[w.heap.size + 1 + 1 + 1 + 1 + 1]? = some o5 → Calls P f args W Q) : Calls P f args ((((((w.alloc o0).alloc o1).alloc o2).alloc o3).alloc o4).alloc o5) Q := by
  obtain ⟨e, s, b0, b1, b2, b3, b4, b5⟩ := blocks6 w o0 o1 o2 o3 o4 o5
  exact h _ e s b0 b1 b2 b3 b4 b5
theorem blocks7 (w : World) (o0 o1 o2 o3 o4 o5 o6 : Obj) : Ext w (((((((w.alloc o0).alloc o1).alloc o2).alloc o3).alloc o4).alloc o5).alloc o6) ∧ (((((((w.alloc o0).alloc o1).alloc o2).alloc o3).alloc o4).alloc o5).alloc o6).heap.size = w.heap.size + 1 + 1 + 1 + 1 + 1 + 1 + 1 ∧ (((((((w.alloc o0).alloc o1).alloc o2).alloc o3).alloc o4).alloc o5).alloc o6).heap[w.heap.size]? = some o0 ∧ (((((((w.alloc o0).alloc o1).alloc o2).alloc o3).alloc o4).alloc o5).alloc o6).heap[w.heap.size + 1]? = some o1 ∧ (((((((w.alloc o0).alloc o1).alloc o2).alloc o3).alloc o4).alloc o5).alloc o6).heap[w.heap.size + 1 + 1]? = some o2 ∧ (((((((w.alloc o0).alloc o1).alloc o2).alloc o3).alloc o4).alloc o5).alloc o6).heap[w.heap.size + 1 + 1 + 1]? = some o3 ∧ (((((((w.alloc o0).alloc o1).alloc o2).alloc o3).alloc o4).alloc o5).alloc o6).heap[w.heap.size + 1 + 1 + 1 + 1]? = some o4 ∧ (((((((w.alloc o0).alloc o1).alloc o2).alloc o3).alloc o4).alloc o5).alloc o6).heap[w.heap.size + 1 + 1 + 1 + 1 + 1]? = some o5 ∧ (((((((w.alloc o0).alloc o1).alloc o2).alloc o3).alloc o4).alloc o5).alloc o6).heap[w.heap.size + 1 + 1 + 1 + 1 + 1 + 1]? = some o6 := by
  obtain ⟨e, s, b0, b1, b2, b3, b4, b5⟩ := blocks6 w o0 o1 o2 o3 o4 o5
  refine ⟨e.trans (Ext.alloc _ _), by rw [← s]; simp, (Below.block (Ext.alloc _ _) _ (by rw [s]; omega)).trans b0, (Below.block (Ext.alloc _ _) _ (by rw [s]; omega)).trans b1, (Below.block (Ext.alloc _ _) _ (by rw [s]; omega)).trans b2, (Below.block (Ext.alloc _ _) _ (by rw [s]; omega)).trans b3, (Below.block (Ext.alloc _ _) _ (by rw [s]; omega)).trans b4, (Below.block (Ext.alloc _ _) _ (by rw [s]; omega)).trans b5, ?_⟩
  rw [← s]; exact heap_alloc_new _ _
theorem at_alloc7 {P : Program} {f : FuncId} {args : Array Value} {w : World} {o0 o1 o2 o3 o4 o5 o6 : Obj} {Q : Ending → World → Prop} (h : ∀ W : World, Ext w W → W.heap.size = w.heap.size + 1 + 1 + 1 + 1 + 1 + 1 + 1 → W.heap[w.heap.size]? = some o0 → W.heap[w.heap.size + 1]? = some o1 → W.heap[w.heap.size + 1 + 1]? = some o2 → W.heap[w.heap.size + 1 + 1 + 1]? = some o3 → W.heap[w.heap.size + 1 + 1 + 1 + 1]? = some o4 → W.heap[w.heap.size + 1 + 1 + 1 + 1 + 1]? = some o5 → W.heap[w.heap.size + 1 + 1 + 1 + 1 + 1 + 1]? = some o6 → Calls P f args W Q) : Calls P f args (((((((w.alloc o0).alloc o1).alloc o2).alloc o3).alloc o4).alloc o5).alloc o6) Q := by
  obtain ⟨e, s, b0, b1, b2, b3, b4, b5, b6⟩ := blocks7 w o0 o1 o2 o3 o4 o5 o6
  exact h _ e s b0 b1 b2 b3 b4 b5 b6
theorem blocks8 (w : World) (o0 o1 o2 o3 o4 o5 o6 o7 : Obj) : Ext w ((((((((w.alloc o0).alloc o1).alloc o2).alloc o3).alloc o4).alloc o5).alloc o6).alloc o7) ∧ ((((((((w.alloc o0).alloc o1).alloc o2).alloc o3).alloc o4).alloc o5).alloc o6).alloc o7).heap.size = w.heap.size + 1 + 1 + 1 + 1 + 1 + 1 + 1 + 1 ∧ ((((((((w.alloc o0).alloc o1).alloc o2).alloc o3).alloc o4).alloc o5).alloc o6).alloc o7).heap[w.heap.size]? = some o0 ∧ ((((((((w.alloc o0).alloc o1).alloc o2).alloc o3).alloc o4).alloc o5).alloc o6).alloc o7).heap[w.heap.size + 1]? = some o1 ∧ ((((((((w.alloc o0).alloc o1).alloc o2).alloc o3).alloc o4).alloc o5).alloc o6).alloc o7).heap[w.heap.size + 1 + 1]? = some o2 ∧ ((((((((w.alloc o0).alloc o1).alloc o2).alloc o3).alloc o4).alloc o5).alloc o6).alloc o7).heap[w.heap.size + 1 + 1 + 1]? = some o3 ∧ ((((((((w.alloc o0).alloc o1).alloc o2).alloc o3).alloc o4).alloc o5).alloc o6).alloc o7).heap[w.heap.size + 1 + 1 + 1 + 1]? = some o4 ∧ ((((((((w.alloc o0).alloc o1).alloc o2).alloc o3).alloc o4).alloc o5).alloc o6).alloc o7).heap[w.heap.size + 1 + 1 + 1 + 1 + 1]? = some o5 ∧ ((((((((w.alloc o0).alloc o1).alloc o2).alloc o3).alloc o4).alloc o5).alloc o6).alloc o7).heap[w.heap.size + 1 + 1 + 1 + 1 + 1 + 1]? = some o6 ∧ ((((((((w.alloc o0).alloc o1).alloc o2).alloc o3).alloc o4).alloc o5).alloc o6).alloc o7).heap[w.heap.size + 1 + 1 + 1 + 1 + 1 + 1 + 1]? = some o7 := by
  obtain ⟨e, s, b0, b1, b2, b3, b4, b5, b6⟩ := blocks7 w o0 o1 o2 o3 o4 o5 o6
  refine ⟨e.trans (Ext.alloc _ _), by rw [← s]; simp, (Below.block (Ext.alloc _ _) _ (by rw [s]; omega)).trans b0, (Below.block (Ext.alloc _ _) _ (by rw [s]; omega)).trans b1, (Below.block (Ext.alloc _ _) _ (by rw [s]; omega)).trans b2, (Below.block (Ext.alloc _ _) _ (by rw [s]; omega)).trans b3, (Below.block (Ext.alloc _ _) _ (by rw [s]; omega)).trans b4, (Below.block (Ext.alloc _ _) _ (by rw [s]; omega)).trans b5, (Below.block (Ext.alloc _ _) _ (by rw [s]; omega)).trans b6, ?_⟩
  rw [← s]; exact heap_alloc_new _ _
theorem at_alloc8 {P : Program} {f : FuncId} {args : Array Value} {w : World} {o0 o1 o2 o3 o4 o5 o6 o7 : Obj} {Q : Ending → World → Prop} (h : ∀ W : World, Ext w W → W.heap.size = w.heap.size + 1 + 1 + 1 + 1 + 1 + 1 + 1 + 1 → W.heap[w.heap.size]? = some o0 → W.heap[w.heap.size + 1]? = some o1 → W.heap[w.heap.size + 1 + 1]? = some o2 → W.heap[w.heap.size + 1 + 1 + 1]? = some o3 → W.heap[w.heap.size + 1 + 1 + 1 + 1]? = some o4 → W.heap[w.heap.size + 1 + 1 + 1 + 1 + 1]? = some o5 → W.heap[w.heap.size + 1 + 1 + 1 + 1 + 1 + 1]? = some o6 → W.heap[w.heap.size + 1 + 1 + 1 + 1 + 1 + 1 + 1]? = some o7 → Calls P f args W Q) : Calls P f args ((((((((w.alloc o0).alloc o1).alloc o2).alloc o3).alloc o4).alloc o5).alloc o6).alloc o7) Q := by
  obtain ⟨e, s, b0, b1, b2, b3, b4, b5, b6, b7⟩ := blocks8 w o0 o1 o2 o3 o4 o5 o6 o7
  exact h _ e s b0 b1 b2 b3 b4 b5 b6 b7
theorem cell_at {w : World} {b i : Nat} {cs : Array Value} {T : TypeId} {fr : Nat × Nat} {v : Value} (hb : w.heap[b]? = some (.cells cs T fr)) (hv : cs[i]? = some v) : w.cell? ⟨b, i, none⟩ = some v := by
  rw [World.cell?, hb]; exact hv
theorem free_at {w : World} {b i : Nat} {cs : Array Value} {T : TypeId} (hb : w.heap[b]? = some (.cells cs T (0, 0))) : w.frozen? ⟨b, i, none⟩ = false := by
  simp [World.frozen?, hb]
theorem cells1 {w : World} {b : Nat} {x0 : Value} {T : TypeId} {fr : Nat × Nat} (h : w.heap[b]? = some (.cells #[x0] T fr)) : w.cell? ⟨b, 0, none⟩ = some x0 :=
  cell_at h rfl
theorem cells2 {w : World} {b : Nat} {x0 x1 : Value} {T : TypeId} {fr : Nat × Nat} (h : w.heap[b]? = some (.cells #[x0, x1] T fr)) : w.cell? ⟨b, 0, none⟩ = some x0 ∧ w.cell? ⟨b, 1, none⟩ = some x1 :=
  ⟨cell_at h rfl, cell_at h rfl⟩
theorem cells3 {w : World} {b : Nat} {x0 x1 x2 : Value} {T : TypeId} {fr : Nat × Nat} (h : w.heap[b]? = some (.cells #[x0, x1, x2] T fr)) : w.cell? ⟨b, 0, none⟩ = some x0 ∧ w.cell? ⟨b, 1, none⟩ = some x1 ∧ w.cell? ⟨b, 2, none⟩ = some x2 :=
  ⟨cell_at h rfl, cell_at h rfl, cell_at h rfl⟩
theorem cells4 {w : World} {b : Nat} {x0 x1 x2 x3 : Value} {T : TypeId} {fr : Nat × Nat} (h : w.heap[b]? = some (.cells #[x0, x1, x2, x3] T fr)) : w.cell? ⟨b, 0, none⟩ = some x0 ∧ w.cell? ⟨b, 1, none⟩ = some x1 ∧ w.cell? ⟨b, 2, none⟩ = some x2 ∧ w.cell? ⟨b, 3, none⟩ = some x3 :=
  ⟨cell_at h rfl, cell_at h rfl, cell_at h rfl, cell_at h rfl⟩
theorem cells5 {w : World} {b : Nat} {x0 x1 x2 x3 x4 : Value} {T : TypeId} {fr : Nat × Nat} (h : w.heap[b]? = some (.cells #[x0, x1, x2, x3, x4] T fr)) : w.cell? ⟨b, 0, none⟩ = some x0 ∧ w.cell? ⟨b, 1, none⟩ = some x1 ∧ w.cell? ⟨b, 2, none⟩ = some x2 ∧ w.cell? ⟨b, 3, none⟩ = some x3 ∧ w.cell? ⟨b, 4, none⟩ = some x4 :=
  ⟨cell_at h rfl, cell_at h rfl, cell_at h rfl, cell_at h rfl, cell_at h rfl⟩
theorem cells6 {w : World} {b : Nat} {x0 x1 x2 x3 x4 x5 : Value} {T : TypeId} {fr : Nat × Nat} (h : w.heap[b]? = some (.cells #[x0, x1, x2, x3, x4, x5] T fr)) : w.cell? ⟨b, 0, none⟩ = some x0 ∧ w.cell? ⟨b, 1, none⟩ = some x1 ∧ w.cell? ⟨b, 2, none⟩ = some x2 ∧ w.cell? ⟨b, 3, none⟩ = some x3 ∧ w.cell? ⟨b, 4, none⟩ = some x4 ∧ w.cell? ⟨b, 5, none⟩ = some x5 :=
  ⟨cell_at h rfl, cell_at h rfl, cell_at h rfl, cell_at h rfl, cell_at h rfl, cell_at h rfl⟩
theorem cells7 {w : World} {b : Nat} {x0 x1 x2 x3 x4 x5 x6 : Value} {T : TypeId} {fr : Nat × Nat} (h : w.heap[b]? = some (.cells #[x0, x1, x2, x3, x4, x5, x6] T fr)) : w.cell? ⟨b, 0, none⟩ = some x0 ∧ w.cell? ⟨b, 1, none⟩ = some x1 ∧ w.cell? ⟨b, 2, none⟩ = some x2 ∧ w.cell? ⟨b, 3, none⟩ = some x3 ∧ w.cell? ⟨b, 4, none⟩ = some x4 ∧ w.cell? ⟨b, 5, none⟩ = some x5 ∧ w.cell? ⟨b, 6, none⟩ = some x6 :=
  ⟨cell_at h rfl, cell_at h rfl, cell_at h rfl, cell_at h rfl, cell_at h rfl, cell_at h rfl, cell_at h rfl⟩
theorem cells8 {w : World} {b : Nat} {x0 x1 x2 x3 x4 x5 x6 x7 : Value} {T : TypeId} {fr : Nat × Nat} (h : w.heap[b]? = some (.cells #[x0, x1, x2, x3, x4, x5, x6, x7] T fr)) : w.cell? ⟨b, 0, none⟩ = some x0 ∧ w.cell? ⟨b, 1, none⟩ = some x1 ∧ w.cell? ⟨b, 2, none⟩ = some x2 ∧ w.cell? ⟨b, 3, none⟩ = some x3 ∧ w.cell? ⟨b, 4, none⟩ = some x4 ∧ w.cell? ⟨b, 5, none⟩ = some x5 ∧ w.cell? ⟨b, 6, none⟩ = some x6 ∧ w.cell? ⟨b, 7, none⟩ = some x7 :=
  ⟨cell_at h rfl, cell_at h rfl, cell_at h rfl, cell_at h rfl, cell_at h rfl, cell_at h rfl, cell_at h rfl, cell_at h rfl⟩
theorem cells9 {w : World} {b : Nat} {x0 x1 x2 x3 x4 x5 x6 x7 x8 : Value} {T : TypeId} {fr : Nat × Nat} (h : w.heap[b]? = some (.cells #[x0, x1, x2, x3, x4, x5, x6, x7, x8] T fr)) : w.cell? ⟨b, 0, none⟩ = some x0 ∧ w.cell? ⟨b, 1, none⟩ = some x1 ∧ w.cell? ⟨b, 2, none⟩ = some x2 ∧ w.cell? ⟨b, 3, none⟩ = some x3 ∧ w.cell? ⟨b, 4, none⟩ = some x4 ∧ w.cell? ⟨b, 5, none⟩ = some x5 ∧ w.cell? ⟨b, 6, none⟩ = some x6 ∧ w.cell? ⟨b, 7, none⟩ = some x7 ∧ w.cell? ⟨b, 8, none⟩ = some x8 :=
  ⟨cell_at h rfl, cell_at h rfl, cell_at h rfl, cell_at h rfl, cell_at h rfl, cell_at h rfl, cell_at h rfl, cell_at h rfl, cell_at h rfl⟩
theorem cells10 {w : World} {b : Nat} {x0 x1 x2 x3 x4 x5 x6 x7 x8 x9 : Value} {T : TypeId} {fr : Nat × Nat} (h : w.heap[b]? = some (.cells #[x0, x1, x2, x3, x4, x5, x6, x7, x8, x9] T fr)) : w.cell? ⟨b, 0, none⟩ = some x0 ∧ w.cell? ⟨b, 1, none⟩ = some x1 ∧ w.cell? ⟨b, 2, none⟩ = some x2 ∧ w.cell? ⟨b, 3, none⟩ = some x3 ∧ w.cell? ⟨b, 4, none⟩ = some x4 ∧ w.cell? ⟨b, 5, none⟩ = some x5 ∧ w.cell? ⟨b, 6, none⟩ = some x6 ∧ w.cell? ⟨b, 7, none⟩ = some x7 ∧ w.cell? ⟨b, 8, none⟩ = some x8 ∧ w.cell? ⟨b, 9, none⟩ = some x9 :=
  ⟨cell_at h rfl, cell_at h rfl, cell_at h rfl, cell_at h rfl, cell_at h rfl, cell_at h rfl, cell_at h rfl, cell_at h rfl, cell_at h rfl, cell_at h rfl⟩
theorem cells11 {w : World} {b : Nat} {x0 x1 x2 x3 x4 x5 x6 x7 x8 x9 x10 : Value} {T : TypeId} {fr : Nat × Nat} (h : w.heap[b]? = some (.cells #[x0, x1, x2, x3, x4, x5, x6, x7, x8, x9, x10] T fr)) : w.cell? ⟨b, 0, none⟩ = some x0 ∧ w.cell? ⟨b, 1, none⟩ = some x1 ∧ w.cell? ⟨b, 2, none⟩ = some x2 ∧ w.cell? ⟨b, 3, none⟩ = some x3 ∧ w.cell? ⟨b, 4, none⟩ = some x4 ∧ w.cell? ⟨b, 5, none⟩ = some x5 ∧ w.cell? ⟨b, 6, none⟩ = some x6 ∧ w.cell? ⟨b, 7, none⟩ = some x7 ∧ w.cell? ⟨b, 8, none⟩ = some x8 ∧ w.cell? ⟨b, 9, none⟩ = some x9 ∧ w.cell? ⟨b, 10, none⟩ = some x10 :=
  ⟨cell_at h rfl, cell_at h rfl, cell_at h rfl, cell_at h rfl, cell_at h rfl, cell_at h rfl, cell_at h rfl, cell_at h rfl, cell_at h rfl, cell_at h rfl, cell_at h rfl⟩
theorem cells12 {w : World} {b : Nat} {x0 x1 x2 x3 x4 x5 x6 x7 x8 x9 x10 x11 : Value} {T : TypeId} {fr : Nat × Nat} (h : w.heap[b]? = some (.cells #[x0, x1, x2, x3, x4, x5, x6, x7, x8, x9, x10, x11] T fr)) : w.cell? ⟨b, 0, none⟩ = some x0 ∧ w.cell? ⟨b, 1, none⟩ = some x1 ∧ w.cell? ⟨b, 2, none⟩ = some x2 ∧ w.cell? ⟨b, 3, none⟩ = some x3 ∧ w.cell? ⟨b, 4, none⟩ = some x4 ∧ w.cell? ⟨b, 5, none⟩ = some x5 ∧ w.cell? ⟨b, 6, none⟩ = some x6 ∧ w.cell? ⟨b, 7, none⟩ = some x7 ∧ w.cell? ⟨b, 8, none⟩ = some x8 ∧ w.cell? ⟨b, 9, none⟩ = some x9 ∧ w.cell? ⟨b, 10, none⟩ = some x10 ∧ w.cell? ⟨b, 11, none⟩ = some x11 :=
  ⟨cell_at h rfl, cell_at h rfl, cell_at h rfl, cell_at h rfl, cell_at h rfl, cell_at h rfl, cell_at h rfl, cell_at h rfl, cell_at h rfl, cell_at h rfl, cell_at h rfl, cell_at h rfl⟩
theorem new_block {w : World} {o : Obj} {n : Nat} (h : w.heap.size = n) : (w.alloc o).heap[n]? = some o := by
  subst h; exact heap_alloc_new _ _
end Go.Proofs.Ytlffmcadchbheaa
/- Slices whose elements are rows of cells: read wherever they lie, or of the call's own; append, stores, cuts. -/
namespace Go.Proofs.Ytlffmcadchbheaa
open Go.RowKit Go.Maps
/-- each row has s cells, each of one cell -/
def Rows1 (s : Nat) (l : List (List Value)) : Prop := ∀ cs ∈ l, cs.length = s ∧ ∀ u ∈ cs, u.oneCell' = true
theorem Rows1.nil (s : Nat) : Rows1 s [] := fun _ h => by cases h
theorem Rows1.app {s : Nat} {l k : List (List Value)} (h : Rows1 s l) (g : Rows1 s k) : Rows1 s (l ++ k) := fun cs hm => (List.mem_append.1 hm).elim (h cs) (g cs)
theorem Rows1.take {s : Nat} {l : List (List Value)} (h : Rows1 s l) (k : Nat) : Rows1 s (l.take k) := fun cs hm => h cs (List.mem_of_mem_take hm)
theorem Rows1.drop {s : Nat} {l : List (List Value)} (h : Rows1 s l) (k : Nat) : Rows1 s (l.drop k) := fun cs hm => h cs (List.mem_of_mem_drop hm)
theorem Rows1.one {s : Nat} {cs : List Value} (h1 : cs.length = s) (h2 : ∀ u ∈ cs, u.oneCell' = true) : Rows1 s [cs] := fun c hm => by
  rw [List.mem_singleton] at hm; subst hm; exact ⟨h1, h2⟩
theorem flat_len {s : Nat} : ∀ {l : List (List Value)}, Rows1 s l → l.flatten.length = l.length * s
  | [], _ => by simp
  | c :: l, h => by
    have h1 := (h c (.head _)).1
    have h2 := flat_len (s := s) (l := l) (fun cs hm => h cs (.tail _ hm))
    rw [List.flatten_cons, List.length_append, h1, h2, List.length_cons, Nat.add_mul]; omega
theorem flat_at {s : Nat} : ∀ {l : List (List Value)}, Rows1 s l → ∀ {i f : Nat} {cs : List Value} {u : Value}, l[i]? = some cs → cs[f]? = some u → l.flatten[i * s + f]? = some u
  | [], _, i, f, cs, u, h, _ => by simp at h
  | c :: l, hr, i, f, cs, u, h, hu => by
    have h1 := (hr c (.head _)).1
    cases i with
    | zero =>
      simp at h; subst h
      have hf : f < c.length := (List.getElem?_eq_some_iff.1 hu).1
      rw [List.flatten_cons, Nat.zero_mul, Nat.zero_add, List.getElem?_append_left hf, hu]
    | succ i =>
      have ih := flat_at (s := s) (l := l) (fun cs hm => hr cs (.tail _ hm)) (i := i) (f := f) (cs := cs) (u := u) (by simpa using h) hu
      rw [List.flatten_cons, List.getElem?_append_right (by rw [h1, Nat.add_mul]; omega), h1, show (i + 1) * s + f - s = i * s + f by rw [Nat.add_mul]; omega]
      exact ih
theorem flat_one {s : Nat} {l : List (List Value)} (h : Rows1 s l) : ∀ u ∈ l.flatten, u.oneCell' = true := by
  intro u hu
  obtain ⟨cs, hm, hc⟩ := List.mem_flatten.1 hu
  exact (h cs hm).2 u hc
theorem flat_take {s : Nat} : ∀ {l : List (List Value)}, Rows1 s l → ∀ k, (l.take k).flatten = l.flatten.take (k * s)
  | [], _, k => by simp
  | c :: l, h, 0 => by simp
  | c :: l, h, k + 1 => by
    have h1 := (h c (.head _)).1
    have ih := flat_take (s := s) (l := l) (fun cs hm => h cs (.tail _ hm)) k
    have e1 : c.take ((k + 1) * s) = c := List.take_of_length_le (by rw [h1, Nat.add_mul]; omega)
    have e2 : (k + 1) * s - s = k * s := by rw [Nat.add_mul]; omega
    rw [List.take_succ_cons, List.flatten_cons, List.flatten_cons, List.take_append, h1, e1, e2, ih]
/-- a slice without elements: nil, or at whatever address -/
def EmptyV (v : Value) : Prop := v = .slice none 0 0 ∨ ∃ a c, v = .slice (some a) 0 c ∧ c ≤ maxLen
/-- a slice that reads as rows of s cells, nil or at a plain address -/
def RowsP (w : World) (v : Value) (s : Nat) (l : List (List Value)) : Prop := Rows1 s l ∧ ((EmptyV v ∧ l = []) ∨
  ∃ b off c, v = .slice (some ⟨b, off, none⟩) l.length c ∧ l.length ≤ c ∧ c ≤ maxLen ∧ ∀ (j : Nat) (u : Value), l.flatten[j]? = some u → w.cell? ⟨b, off + j, none⟩ = some u)
theorem RowsP.ext {w w' : World} {v : Value} {s : Nat} {l : List (List Value)} (h : RowsP w v s l) (e : Ext w w') : RowsP w' v s l := by
  obtain ⟨h1, h2⟩ := h
  refine ⟨h1, ?_⟩
  rcases h2 with h2 | ⟨b, off, c, h3, h4, h5, h6⟩
  · exact .inl h2
  · exact .inr ⟨b, off, c, h3, h4, h5, fun j u hu => e.cell (h6 j u hu)⟩
theorem RowsP.nil (w : World) (s : Nat) : RowsP w (.slice none 0 0) s [] := ⟨Rows1.nil s, .inl ⟨.inl rfl, rfl⟩⟩
/-- its length, and its cells -/
theorem RowsP.at {w : World} {v : Value} {s : Nat} {l : List (List Value)} (h : RowsP w v s l) : ∃ q c, v = .slice q l.length c ∧ l.length ≤ c ∧ c ≤ maxLen ∧
    ∀ (i : Nat) (cs : List Value), l[i]? = some cs → ∃ b off, q = some ⟨b, off, none⟩ ∧ ∀ (f : Nat) (u : Value), cs[f]? = some u → w.cell? ⟨b, off + i * s + f, none⟩ = some u := by
  obtain ⟨h1, h2⟩ := h
  rcases h2 with ⟨rfl | ⟨a, c, rfl, hc⟩, rfl⟩ | ⟨b, off, c, rfl, h4, h5, h6⟩
  · exact ⟨none, 0, rfl, Nat.le_refl _, Nat.zero_le _, fun i cs h => by simp at h⟩
  · exact ⟨some a, c, rfl, Nat.zero_le _, hc, fun i cs h => by simp at h⟩
  · exact ⟨_, c, rfl, h4, h5, fun i cs hi => ⟨b, off, rfl, fun f u hu => by rw [Nat.add_assoc]; exact h6 _ u (flat_at h1 hi hu)⟩⟩
/-- a slice of the call's own -/
def OwnP (w : World) (base : Nat) (T : TypeId) (v : Value) (s : Nat) (l : List (List Value)) : Prop := Rows1 s l ∧ w.ownsRow base T s v l.length l.flatten
theorem OwnP.nil (w : World) (base : Nat) (T : TypeId) (s : Nat) : OwnP w base T (.slice none 0 0) s [] := ⟨Rows1.nil s, World.ownsRow_nil _ _ _ _⟩
theorem OwnP.forms {w : World} {base : Nat} {T : TypeId} {v : Value} {s : Nat} {l : List (List Value)} (h : OwnP w base T v s l) : (v = .slice none 0 0 ∧ l = []) ∨
    ∃ g cap cur, v = .slice (some ⟨g, 0, none⟩) l.length cap ∧ base ≤ g ∧ w.heap[g]? = some (.cells cur T (0, 0)) ∧ l.length ≤ cap ∧ cap ≤ maxLen ∧ cur.size = cap * s ∧ cur.toList.take (l.length * s) = l.flatten := by
  rcases h.2.2 with ⟨h1, h2⟩ | h1
  · exact .inl ⟨h1, List.eq_nil_of_length_eq_zero h2⟩
  · exact .inr h1
theorem OwnP.of_form {w : World} {base g cap : Nat} {T : TypeId} {s : Nat} {cur : Array Value} {l : List (List Value)} (h1 : Rows1 s l) (hb : base ≤ g) (hg : w.heap[g]? = some (.cells cur T (0, 0))) (hc : l.length ≤ cap) (hm : cap ≤ maxLen)
    (hs : cur.size = cap * s) (ht : cur.toList.take (l.length * s) = l.flatten) : OwnP w base T (.slice (some ⟨g, 0, none⟩) l.length cap) s l :=
  ⟨h1, flat_len h1, .inr ⟨g, cap, cur, rfl, hb, hg, hc, hm, hs, ht⟩⟩
theorem OwnP.len {w : World} {base : Nat} {T : TypeId} {v : Value} {s : Nat} {l : List (List Value)} (h : OwnP w base T v s l) : ∃ q c, v = .slice q l.length c ∧ l.length ≤ c ∧ c ≤ maxLen := by
  rcases h.forms with ⟨rfl, rfl⟩ | ⟨g, cap, cur, h1, _, _, h2, h3, _⟩
  · exact ⟨none, 0, rfl, Nat.le_refl _, Nat.zero_le _⟩
  · exact ⟨_, cap, h1, h2, h3⟩
theorem OwnP.own {w : World} {base : Nat} {T : TypeId} {v : Value} {s : Nat} {l : List (List Value)} (h : OwnP w base T v s l) : ∀ b, v.ownBlock = some b → base ≤ b ∧ b < w.heap.size := by
  intro b hb
  rcases h.forms with ⟨rfl, _⟩ | ⟨g, cap, cur, rfl, hb1, hg, _⟩
  · simp [Value.ownBlock] at hb
  · simp only [Value.ownBlock, Option.some.injEq] at hb
    exact ⟨by omega, by rw [← hb]; exact (Array.getElem?_eq_some_iff.1 hg).1⟩
theorem OwnP.p {w : World} {base : Nat} {T : TypeId} {v : Value} {s : Nat} {l : List (List Value)} (h : OwnP w base T v s l) : RowsP w v s l := by
  refine ⟨h.1, ?_⟩
  rcases h.forms with ⟨rfl, rfl⟩ | ⟨g, cap, cur, rfl, hb, hg, h2, h3, h4, h5⟩
  · exact .inl ⟨.inl rfl, rfl⟩
  · refine .inr ⟨g, 0, cap, rfl, h2, h3, fun j u hu => ?_⟩
    have hj : j < l.flatten.length := (List.getElem?_eq_some_iff.1 hu).1
    rw [flat_len h.1] at hj
    rw [← h5, List.getElem?_take_of_lt hj] at hu
    simpa [World.cell?, hg] using hu
/-- it stays where nothing of its block turns -/
theorem OwnP.stays {w w' : World} {base : Nat} {T : TypeId} {v : Value} {s : Nat} {l : List (List Value)} (h : OwnP w base T v s l) (hw : ∀ b, v.ownBlock = some b → b < w.heap.size → w'.heap[b]? = w.heap[b]?) : OwnP w' base T v s l := by
  rcases h.forms with ⟨rfl, rfl⟩ | ⟨g, cap, cur, rfl, hb, hg, h2, h3, h4, h5⟩
  · exact OwnP.nil _ _ _ _
  · exact OwnP.of_form h.1 hb (by rw [hw g rfl (Array.getElem?_eq_some_iff.1 hg).1]; exact hg) h2 h3 h4 h5
theorem OwnP.ext {w w' : World} {base : Nat} {T : TypeId} {v : Value} {s : Nat} {l : List (List Value)} (h : OwnP w base T v s l) (e : Ext w w') : OwnP w' base T v s l := h.stays fun b _ hl => Below.block e b hl
theorem OwnP.turn {w w' : World} {base : Nat} {T : TypeId} {v : Value} {s : Nat} {l : List (List Value)} {bs : List Nat} (h : OwnP w base T v s l) (t : Turn bs w w') (hn : ∀ b, v.ownBlock = some b → b ∉ bs) : OwnP w' base T v s l := h.stays fun b hb hl => t.block b hl (hn b hb)
theorem OwnP.grown {w w' : World} {base : Nat} {T : TypeId} {v : Value} {s : Nat} {l : List (List Value)} {row : Option Nat} (h : OwnP w base T v s l) (t : w.grownBy w' row) (hn : ∀ b, v.ownBlock = some b → row ≠ some b) : OwnP w' base T v s l :=
  h.stays fun b hb hl => t.block b hl (fun e => hn b hb e.symm)
theorem OwnP.mono {w : World} {base base' : Nat} {T : TypeId} {v : Value} {s : Nat} {l : List (List Value)} (h : OwnP w base T v s l) (hb : base' ≤ base) : OwnP w base' T v s l := by
  rcases h.forms with ⟨rfl, rfl⟩ | ⟨g, cap, cur, rfl, hb1, hg, h2, h3, h4, h5⟩
  · exact OwnP.nil _ _ _ _
  · exact OwnP.of_form h.1 (Nat.le_trans hb hb1) hg h2 h3 h4 h5
/-- the first k of it -/
theorem OwnP.take {w : World} {base : Nat} {T : TypeId} {q : Option Addr} {n c : Nat} {s : Nat} {l : List (List Value)} (h : OwnP w base T (.slice q n c) s l) {k : Nat} (hk : k ≤ l.length) : OwnP w base T (.slice q k c) s (l.take k) := by
  have hl : (l.take k).length = k := by rw [List.length_take]; omega
  rcases h.forms with ⟨h1, rfl⟩ | ⟨g, cap, cur, h1, hb, hg, h2, h3, h4, h5⟩
  · obtain ⟨rfl, rfl, rfl⟩ := Value.slice.inj h1
    obtain rfl : k = 0 := by simpa using hk
    exact OwnP.nil _ _ _ _
  · obtain ⟨rfl, rfl, rfl⟩ := Value.slice.inj h1
    have := OwnP.of_form (T := T) (base := base) (cap := c) (h.1.take k) hb hg (by omega) h3 h4 (by
      rw [hl, flat_take h.1, ← h5, List.take_take, Nat.min_eq_left (Nat.mul_le_mul_right s hk)])
    rw [hl] at this
    exact this
theorem OwnP.cell {w : World} {base : Nat} {T : TypeId} {q : Option Addr} {n c : Nat} {s : Nat} {l : List (List Value)} (h : OwnP w base T (.slice q n c) s l) {i f : Nat} {cs : List Value} {u : Value} (hi : l[i]? = some cs) (hu : cs[f]? = some u) :
    ∃ g, q = some ⟨g, 0, none⟩ ∧ base ≤ g ∧ w.cell? ⟨g, i * s + f, none⟩ = some u ∧ w.frozen? ⟨g, i * s + f, none⟩ = false := by
  rcases h.forms with ⟨_, rfl⟩ | ⟨g, cap, cur, h1, hb, hg, h2, h3, h4, h5⟩
  · simp at hi
  · obtain ⟨rfl, rfl, rfl⟩ := Value.slice.inj h1
    have hx := flat_at h.1 hi hu
    have hj : i * s + f < l.flatten.length := (List.getElem?_eq_some_iff.1 hx).1
    rw [flat_len h.1] at hj
    rw [← h5, List.getElem?_take_of_lt hj] at hx
    exact ⟨g, rfl, hb, by simpa [World.cell?, hg] using hx, by simp [World.frozen?, hg]⟩
theorem flat_set {s : Nat} : ∀ {l : List (List Value)}, Rows1 s l → ∀ {i f : Nat} {cs : List Value} (u : Value), l[i]? = some cs → f < s → (l.set i (cs.set f u)).flatten = l.flatten.set (i * s + f) u
  | [], _, i, f, cs, u, h, _ => by simp at h
  | c :: l, hr, i, f, cs, u, h, hf => by
    have h1 := (hr c (.head _)).1
    cases i with
    | zero =>
      simp at h; subst h
      rw [List.set_cons_zero, List.flatten_cons, List.flatten_cons, Nat.zero_mul, Nat.zero_add, List.set_append_left _ _ (by omega)]
    | succ i =>
      have ih := flat_set (s := s) (l := l) (fun cs hm => hr cs (.tail _ hm)) (i := i) (f := f) (cs := cs) u (by simpa using h) hf
      rw [List.set_cons_succ, List.flatten_cons, List.flatten_cons, List.set_append_right _ _ (by rw [h1, Nat.add_mul]; omega), h1, ih, show (i + 1) * s + f - s = i * s + f by rw [Nat.add_mul]; omega]
theorem Rows1.set {s : Nat} {l : List (List Value)} (h : Rows1 s l) {i f : Nat} {cs : List Value} {u : Value} (hi : l[i]? = some cs) (hu : u.oneCell' = true) : Rows1 s (l.set i (cs.set f u)) := by
  intro c hm
  rcases List.mem_or_eq_of_mem_set hm with hm | rfl
  · exact h c hm
  · have hc := h cs (List.mem_of_getElem? hi)
    refine ⟨by rw [List.length_set]; exact hc.1, fun x hx => ?_⟩
    rcases List.mem_or_eq_of_mem_set hx with hx | rfl
    · exact hc.2 x hx
    · exact hu
/-- a store into one of its cells -/
theorem OwnP.store {w : World} {base : Nat} {T : TypeId} {g n c : Nat} {s : Nat} {l : List (List Value)} (h : OwnP w base T (.slice (some ⟨g, 0, none⟩) n c) s l) {i f : Nat} {cs : List Value} (hi : l[i]? = some cs) (hf : f < s) {u : Value} (hu : u.oneCell' = true) :
    OwnP (w.setCell ⟨g, i * s + f, none⟩ u) base T (.slice (some ⟨g, 0, none⟩) n c) s (l.set i (cs.set f u)) := by
  rcases h.forms with ⟨h1, _⟩ | ⟨g', cap, cur, h1, hb, hg, h2, h3, h4, h5⟩
  · cases h1
  · obtain ⟨e1, rfl, rfl⟩ := Value.slice.inj h1
    obtain ⟨rfl, _⟩ := Addr.mk.inj (Option.some.inj e1)
    have hl : (l.set i (cs.set f u)).length = l.length := List.length_set
    have hil : i < l.length := (List.getElem?_eq_some_iff.1 hi).1
    have := OwnP.of_form (w := w.setCell ⟨g, i * s + f, none⟩ u) (T := T) (base := base) (g := g) (cap := c) (cur := cur.setIfInBounds (i * s + f) u) (h.1.set (f := f) (u := u) hi hu) hb (Go.Lib.heap_setCell_same hg u) (by rw [hl]; exact h2) h3 (by simpa using h4) (by
      rw [hl, flat_set h.1 u hi hf, ← h5]
      simp only [Array.toList_setIfInBounds]
      rw [List.take_set])
    rw [hl] at this
    exact this
/-- the words of a slice's element type -/
structure ElemT (P : Program) (ST T : TypeId) (s bytes : Nat) : Prop where
  under : P.underlying ST = some (.slice T)
  info : ∃ z, (P.info? T).map (fun i => (i.zero, i.size, i.bytes)) = some (some z, s, bytes) ∧ z.cells.size = s
  pos : 0 < s
theorem run_append_rows {P : Program} {ST T : TypeId} {s bytes : Nat} (E : ElemT P ST T s bytes) {w : World} (base : Nat) (ty : TypeId) {v u : Value} {R L : List (List Value)} (hv : OwnP w base T v s R) (hu : RowsP w u s L)
    (h63 : R.length + L.length ≤ maxLen) (hbytes : (R.length + L.length) * bytes ≤ 140737488355328) (hbase : base ≤ w.heap.size) :
    ∃ v' w', (Builtin.append_ #[ST, ST] ty #[v, u]).run P w = .ok v' w' ∧ OwnP w' base T v' s (R ++ L) ∧ w.grownBy w' v.ownBlock ∧ (v'.ownBlock = v.ownBlock ∨ v'.ownBlock = some w.heap.size) ∧ ((L ≠ [] ∨ v ≠ .slice none 0 0) → v' ≠ .slice none 0 0) := by
  obtain ⟨z, hinfo, hz⟩ := E.info
  obtain ⟨i0, hi, hz0, hz1, hz2⟩ := info_parts hinfo
  obtain ⟨h1, h2⟩ := hu
  rcases h2 with ⟨rfl | ⟨a, c, rfl, hc⟩, rfl⟩ | ⟨b, off, c, rfl, h4, h5, h6⟩
  · refine ⟨v, w, run_append_owned_none w base ST ty T i0 s E.under hi v R.length R.flatten hv.2, by rw [List.append_nil]; exact hv, ⟨rfl, rfl, rfl, Nat.le_refl _, fun _ _ _ => rfl⟩, .inl rfl, fun h => h.elim (fun h => absurd rfl h) id⟩
  · obtain ⟨v', w', hr, ho, hg, hn, hb⟩ := run_append_own_at (P := P) w base ST ty T i0 z s bytes E.under hi hz0 hz1 hz2 hz E.pos v R.length R.flatten hv.2 a 0 c ([] : List Value) (by simp)
      (fun j y hj => by simp at hj) (fun u hu => by simp at hu) h63 hbytes hbase
    refine ⟨v', w', hr, ⟨hv.1.app h1, by rw [List.length_append, List.flatten_append]; exact ho⟩, hg, hb, fun h e => ?_⟩
    obtain ⟨e1, e2⟩ := hn.1 e
    rcases h with h | h
    · exact h rfl
    · exact h e1
  · obtain ⟨v', w', hr, ho, hg, hn, hb⟩ := run_append_own_at (P := P) w base ST ty T i0 z s bytes E.under hi hz0 hz1 hz2 hz E.pos v R.length R.flatten hv.2 ⟨b, off, none⟩ L.length c L.flatten (flat_len h1)
      (fun j y hj => by rw [Go.WideShapes.add_plain]; exact h6 j y hj) (flat_one h1) h63 hbytes hbase
    refine ⟨v', w', hr, ⟨hv.1.app h1, by rw [List.length_append, List.flatten_append]; exact ho⟩, hg, hb, fun h e => ?_⟩
    obtain ⟨e1, e2⟩ := hn.1 e
    rcases h with h | h
    · exact h (List.eq_nil_of_length_eq_zero e2)
    · exact h e1
/-- append, at a plain region's list -/
theorem wpList_append_rows {P : Program} {ST T : TypeId} {s bytes : Nat} (E : ElemT P ST T s bytes) {w : World} {ops : Array Oper} {rest : List Oper} {o : Oper} {a : Act} {Q : Exit → Act → World → Prop} (hgd : o.guard = none) (so xo : Operand)
    (ho : o.op = .call { callee := .builtin .append, args := #[so, xo], argTypes := #[ST, ST] })
    (base : Nat) (v u : Value) (R L : List (List Value)) (hs : a.eval so = v) (hown : OwnP w base T v s R) (hx : a.eval xo = u) (hu : RowsP w u s L)
    (h63 : R.length + L.length ≤ maxLen) (hbytes : (R.length + L.length) * bytes ≤ 140737488355328) (hbase : base ≤ w.heap.size)
    (h : ∀ v' w', OwnP w' base T v' s (R ++ L) → w.grownBy w' v.ownBlock → (v'.ownBlock = v.ownBlock ∨ v'.ownBlock = some w.heap.size) → ((L ≠ [] ∨ v ≠ .slice none 0 0) → v' ≠ .slice none 0 0) → wpList P ops Q rest (a.put o.dst v') w') :
    wpList P ops Q (o :: rest) a w := by
  obtain ⟨v', w', hr, h2, h3, h4, h5⟩ := run_append_rows E base o.type hown hu h63 hbytes hbase
  refine wpList_plain hgd fun K hK => ?_
  unfold Oper.wp execOp
  simp only [ho, resolve, invoke, builtin, Sem.run_bind, Sem.run_pure, Result.andThen_ok, List.map_toArray, List.map_cons, List.map_nil, hs, hx, hr]
  exact hK _ _ (h v' w' h2 h3 h4 h5)
/-- append, at a step of a region that draws -/
theorem step_append_rows {P : Program} {ST T : TypeId} {s bytes : Nat} (E : ElemT P ST T s bytes) {w : World} {ops : Array Oper} {o : Oper} {a : Act} {K : Act → World → Prop} {Q : Exit → Act → World → Prop} {F : Prop} (hgd : o.guard = none) (so xo : Operand)
    (ho : o.op = .call { callee := .builtin .append, args := #[so, xo], argTypes := #[ST, ST] })
    (base : Nat) (v u : Value) (R L : List (List Value)) (hs : a.eval so = v) (hown : OwnP w base T v s R) (hx : a.eval xo = u) (hu : RowsP w u s L)
    (h63 : R.length + L.length ≤ maxLen) (hbytes : (R.length + L.length) * bytes ≤ 140737488355328) (hbase : base ≤ w.heap.size)
    (h : ∀ v' w', OwnP w' base T v' s (R ++ L) → w.grownBy w' v.ownBlock → (v'.ownBlock = v.ownBlock ∨ v'.ownBlock = some w.heap.size) → ((L ≠ [] ∨ v ≠ .slice none 0 0) → v' ≠ .slice none 0 0) → K (a.put o.dst v') w') :
    if Region.wanted o (yielded ops a.tmps) = true then Oper.wp P o a w K Q else F := by
  have hw : Region.wanted o (yielded ops a.tmps) = true := by simp [Region.wanted, hgd]
  rw [if_pos hw]
  obtain ⟨v', w', hr, h2, h3, h4, h5⟩ := run_append_rows E base o.type hown hu h63 hbytes hbase
  unfold Oper.wp execOp
  simp only [ho, resolve, invoke, builtin, Sem.run_bind, Sem.run_pure, Result.andThen_ok, List.map_toArray, List.map_cons, List.map_nil, hs, hx, hr]
  exact h v' w' h2 h3 h4 h5
/-- one row that lies in a block of its own -/
theorem rows_of_block {w : World} {g : Nat} {cs : Array Value} {T : TypeId} {fr : Nat × Nat} {s : Nat} (h : w.heap[g]? = some (.cells cs T fr)) (hs : cs.size = s) (h1 : ∀ u ∈ cs.toList, u.oneCell' = true) : RowsP w (.slice (some ⟨g, 0, none⟩) 1 1) s [cs.toList] := by
  refine ⟨Rows1.one (by simpa using hs) h1, .inr ⟨g, 0, 1, rfl, Nat.le_refl _, by unfold maxLen; omega, fun j u hu => ?_⟩⟩
  simpa [World.cell?, h] using hu
theorem grown_ext {w w' : World} {row : Option Nat} {B : Nat} {a : World} (e : Below B a w) (h : w.grownBy w' row) (hr : ∀ b, row = some b → B ≤ b) (hB : B ≤ w.heap.size) : Below B a w' := Below.grown e h hB hr
/-- a slice expression on the first k of a slice -/
theorem run_take {P : Program} {ST T : TypeId} {s bytes : Nat} (E : ElemT P ST T s bytes) (w : World) (q : Option Addr) (n c k : Nat) (hk : k ≤ c) (_hc : c ≤ maxLen) : (Instr.slice ST (.slice q n c) none (some (.int .i64 k)) none).run P w = .ok (.slice q k c) w := by
  obtain ⟨z, hinfo, _⟩ := E.info
  obtain ⟨i0, hi, hz0, hz1, hz2⟩ := info_parts hinfo
  have hel : P.elem ST = T := by simp [Program.elem, E.under]
  have hsz : (sizeOf (P.elem ST)).run P w = .ok s w := by rw [hel]; simp [sizeOf, typeInfo, hi, hz1]
  unfold maxLen at _hc
  rw [run_slice_h w ST q n c (by rw [hel]; exact E.under) .i64 k (by omega) (by omega), hsz]
  simp [sliced]
  intro _
  cases q <;> simp [Addr.add]
theorem flat1 {l : List (List Value)} (h : Rows1 1 l) : l.flatten.length = l.length := by rw [flat_len h, Nat.mul_one]
theorem flat1_drop : ∀ {l : List (List Value)}, Rows1 1 l → ∀ k, (l.drop k).flatten = l.flatten.drop k
  | [], _, k => by simp
  | c :: l, h, 0 => by simp
  | c :: l, h, k + 1 => by
    have h1 := (h c (.head _)).1
    have ih := flat1_drop (l := l) (fun cs hm => h cs (.tail _ hm)) k
    have e1 : c.drop (k + 1) = [] := List.drop_of_length_le (by rw [h1]; omega)
    have e2 : k + 1 - 1 = k := by omega
    rw [List.drop_succ_cons, List.flatten_cons, List.drop_append, h1, e1, e2, ih, List.nil_append]
/-- copy, between slices of one-cell elements: the target a row of the call's own -/
theorem wpList_copy_rows {P : Program} {ST T : TypeId} {bytes : Nat} (E : ElemT P ST T 1 bytes) {w : World} {ops : Array Oper} {rest : List Oper} {o : Oper} {a : Act} {Q : Exit → Act → World → Prop} (hgd : o.guard = none) (d s : Operand)
    (ho : o.op = .call { callee := .builtin .copy, args := #[d, s], argTypes := #[ST, ST] }) (base : Nat) (v u : Value) (D L : List (List Value)) (hd : a.eval d = v) (hown : OwnP w base T v 1 D) (hs : a.eval s = u) (hu : RowsP w u 1 L)
    (h : ∀ w', OwnP w' base T v 1 (L.take (Nat.min L.length D.length) ++ D.drop (Nat.min L.length D.length)) → w.grownBy w' v.ownBlock → w'.heap.size = w.heap.size → wpList P ops Q rest (a.put o.dst (goInt (Nat.min L.length D.length))) w') :
    wpList P ops Q (o :: rest) a w := by
  obtain ⟨z, hinfo, hz⟩ := E.info
  obtain ⟨i0, hi, hz0, hz1, hz2⟩ := info_parts hinfo
  have hsz : (P.info? T).map (·.size) = some 1 := by rw [hi]; simp [hz1]
  obtain ⟨dp, dCap, rfl, _, _⟩ := hown.len
  have hu' := hu
  obtain ⟨h1, h2⟩ := hu
  obtain ⟨sp, sCap, rfl, _, _, _⟩ := hu'.at
  have hle1 : Nat.min L.length D.length ≤ L.length := Nat.min_le_left _ _
  have hle2 : Nat.min L.length D.length ≤ D.length := Nat.min_le_right _ _
  generalize hm : Nat.min L.length D.length = m at *
  by_cases h0 : m = 0
  · subst h0
    refine wpList_copy_nothing hgd d s ST ST ho T E.under hsz dp sp D.length dCap L.length sCap hd hs hm ?_
    exact h w (by simpa using hown) ⟨rfl, rfl, rfl, Nat.le_refl _, fun _ _ _ => rfl⟩ rfl
  · rcases h2 with ⟨_, rfl⟩ | ⟨b, off, c, e1, h4, h5, h6⟩
    · simp at hle1; omega
    · obtain ⟨rfl, _, rfl⟩ := Value.slice.inj e1
      rcases hown.forms with ⟨_, rfl⟩ | ⟨g, cap, cur, e2, hb, hg, k2, k3, k4, k5⟩
      · simp at hle2; omega
      · obtain ⟨rfl, _, rfl⟩ := Value.slice.inj e2
        have hcl : (L.take m).flatten.length = m := by rw [flat1 (h1.take m), List.length_take]; omega
        have hcs : cur.size = dCap := by rw [k4, Nat.mul_one]
        rw [Nat.mul_one] at k5
        refine wpList_copy_own hgd d s ST ST ho T E.under hsz g 0 D.length dCap ⟨b, off, none⟩ L.length sCap hd hs cur T hg (L.take m).flatten (by rw [hcl, ← hm]) (fun j v hj => ?_) (by omega) (flat_one (h1.take m)) ?_
        · rw [Go.WideShapes.add_plain]
          rw [flat_take h1, Nat.mul_one] at hj
          have hjm : j < m := by
            have := (List.getElem?_eq_some_iff.1 hj).1
            rw [List.length_take] at this; omega
          rw [List.getElem?_take_of_lt hjm] at hj
          exact h6 j v hj
        · rw [hcl]
          have hnl : (L.take m ++ D.drop m).length = D.length := by rw [List.length_append, List.length_take, List.length_drop]; omega
          have hnew : OwnP (w.setRow g (cur.toList.take 0 ++ ((L.take m).flatten ++ cur.toList.drop (0 + (L.take m).flatten.length))).toArray) base T (.slice (some ⟨g, 0, none⟩) (L.take m ++ D.drop m).length dCap) 1 (L.take m ++ D.drop m) := by
            refine OwnP.of_form ((h1.take m).app (hown.1.drop m)) hb (setRow_heap w g _ _ T _ hg) (by rw [hnl]; exact k2) k3 ?_ ?_
            · generalize (L.take m).flatten = X at *
              simp; omega
            · rw [hnl, Nat.mul_one, List.flatten_append, flat1_drop hown.1, ← k5]
              simp only [List.take_zero, List.nil_append, Nat.zero_add]
              rw [List.take_append, hcl, List.take_of_length_le (by rw [hcl]; exact hle2), List.drop_take]
          rw [hnl, hcl] at hnew
          refine h _ hnew ⟨rfl, rfl, rfl, by simp [World.setRow], fun k hk hne => ?_⟩ (by simp [World.setRow])
          exact setRow_other w g k _ (by intro e; subst e; exact hne rfl)
theorem flat_rep (n : Nat) (z : Value) : (List.replicate n [z]).flatten = List.replicate n z := by
  induction n with
  | zero => rfl
  | succ n ih => rw [List.replicate_succ, List.flatten_cons, ih, List.replicate_succ]; rfl
/-- a row that was just made -/
theorem made_own (w : World) (T : TypeId) (z : Value) (n base : Nat) (h1 : z.oneCell' = true) (hb : base ≤ w.heap.size) (hm : n ≤ maxLen) : OwnP (w.alloc (.cells (madeCells #[z] n) T)) base T (.slice (some ⟨w.heap.size, 0, none⟩) n n) 1 (List.replicate n [z]) := by
  have hr : Rows1 1 (List.replicate n [z]) := by
    intro cs hm
    obtain ⟨_, rfl⟩ := List.mem_replicate.1 hm
    exact ⟨rfl, fun u hu => by rw [List.mem_singleton] at hu; subst hu; exact h1⟩
  have := OwnP.of_form (T := T) (base := base) (cap := n) hr hb (heap_alloc_new w (.cells (madeCells #[z] n) T)) (by simp) hm (by rw [size_madeCells]; omega) (by
    rw [toList_madeCells_one, flat_rep, List.length_replicate, Nat.mul_one, List.take_of_length_le (by simp)])
  rw [List.length_replicate] at this
  exact this
theorem made_at {w : World} {T : TypeId} {z : Value} {n base g : Nat} (h1 : z.oneCell' = true) (hg : w.heap.size = g) (hb : base ≤ g) (hm : n ≤ maxLen) : OwnP (w.alloc (.cells (madeCells #[z] n) T)) base T (.slice (some ⟨g, 0, none⟩) n n) 1 (List.replicate n [z]) := by
  subst hg; exact made_own w T z n base h1 hb hm
theorem grown3 {w w' : World} {o0 o1 o2 : Obj} {g : Nat} (h : World.grownBy (((w.alloc o0).alloc o1).alloc o2) w' (some g)) (hg : g = w.heap.size + 1 + 1) : Ext w w' ∧ w.heap.size + 1 + 1 + 1 ≤ w'.heap.size ∧ w'.heap[w.heap.size]? = some o0 ∧ w'.heap[w.heap.size + 1]? = some o1 := by
  obtain ⟨e, s, b0, b1, b2⟩ := blocks3 w o0 o1 o2
  have hs := h.size
  rw [s] at hs
  exact ⟨Below.grown e h (by rw [s]; omega) (fun b hb => by cases hb; omega), hs, (h.block _ (by rw [s]; omega) (by simp; omega)).trans b0, (h.block _ (by rw [s]; omega) (by simp; omega)).trans b1⟩
/-- a call at a world of which this is known -/
theorem at_gen {P : Program} {f : FuncId} {args : Array Value} {w : World} {Q : Ending → World → Prop} (F : World → Prop) (hF : F w) (h : ∀ W, F W → Calls P f args W Q) : Calls P f args w Q := h w hF
theorem grown_of_ext {w w' : World} (h : Ext w w') (row : Option Nat) : w.grownBy w' row := ⟨Below.os h, Below.tape h, Below.output h, Below.size h, fun k hk _ => Below.block h k hk⟩
theorem grown_turn {w w' : World} {row : Option Nat} {bs : List Nat} (h : w.grownBy w' row) (hr : ∀ b, row = some b → b ∈ bs) : Turn bs w w' := Turn.of_grown h fun b hb => .inl (hr b hb)
theorem grown_block {w w' : World} {row : Option Nat} {k : Nat} {o : Obj} (g : w.grownBy w' row) (h : w.heap[k]? = some o) (hn : row ≠ some k) : w'.heap[k]? = some o := by
  rw [g.block k (Array.getElem?_eq_some_iff.1 h).1 (fun e => hn e.symm)]; exact h
theorem own_any {q : Option Addr} {n c m d b : Nat} (h : (Value.slice q n c).ownBlock = some b) : (Value.slice q m d).ownBlock = some b := by cases q <;> exact h
theorem Ext.go {w w1 w2 : World} {B : Nat} (h : Ext w w1) (k : Below B w1 w2) (hB : w.heap.size ≤ B) : Ext w w2 := Below.trans h (Below.mono k hB)
end Go.Proofs.Ytlffmcadchbheaa
/- A whole block stored anew, cell by cell: the world behind it under one letter. -/
namespace Go.Proofs.Ytlffmcadchbheaa
open Go.RowKit
theorem wp_gen {P : Program} {c : Code} {Q : Exit → Act → World → Prop} {a : Act} {w : World} (F : World → Prop) (hF : F w) (h : ∀ W, F W → Code.wp P c Q a W) : Code.wp P c Q a w := h w hF
theorem list_gen {P : Program} {ops : Array Oper} {rest : List Oper} {Q : Exit → Act → World → Prop} {a : Act} {w : World} (F : World → Prop) (hF : F w) (h : ∀ W, F W → wpList P ops Q rest a W) : wpList P ops Q rest a w := h w hF
theorem wp_alloc1 {P : Program} {c : Code} {Q : Exit → Act → World → Prop} {a : Act} {w : World} {o : Obj} (h : ∀ W : World, Ext w W → W.heap.size = w.heap.size + 1 → W.heap[w.heap.size]? = some o → Code.wp P c Q a W) : Code.wp P c Q a (w.alloc o) :=
  h _ (blocks1 w o).1 (blocks1 w o).2.1 (blocks1 w o).2.2
theorem wp_alloc2 {P : Program} {c : Code} {Q : Exit → Act → World → Prop} {a : Act} {w : World} {o o' : Obj} (h : ∀ W : World, Ext w W → W.heap.size = w.heap.size + 1 + 1 → W.heap[w.heap.size]? = some o → W.heap[w.heap.size + 1]? = some o' → Code.wp P c Q a W) : Code.wp P c Q a ((w.alloc o).alloc o') :=
  h _ (blocks2 w o o').1 (blocks2 w o o').2.1 (blocks2 w o o').2.2.1 (blocks2 w o o').2.2.2
/-- one cell of a known block stored -/
theorem fill1 {w : World} {b i : Nat} {cs : Array Value} {T : TypeId} (h : w.heap[b]? = some (.cells cs T (0, 0))) (y : Value) : (w.setCell ⟨b, i, none⟩ y).heap[b]? = some (.cells (cs.setIfInBounds i y) T (0, 0)) ∧ Turn [b] w (w.setCell ⟨b, i, none⟩ y) ∧ (w.setCell ⟨b, i, none⟩ y).heap.size = w.heap.size :=
  ⟨Go.Lib.heap_setCell_same h y, (Turn.refl _ _).setCell (.inl (by simp)) _, by simp⟩
theorem calls_fill1 {P : Program} {f : FuncId} {args : Array Value} {w : World} {Q : Ending → World → Prop} {b i : Nat} {cs : Array Value} {T : TypeId} {y : Value} (h0 : w.heap[b]? = some (.cells cs T (0, 0))) (h : ∀ W : World, W.heap[b]? = some (.cells (cs.setIfInBounds i y) T (0, 0)) → Turn [b] w W → W.heap.size = w.heap.size → Calls P f args W Q) : Calls P f args (w.setCell ⟨b, i, none⟩ y) Q :=
  h _ (fill1 h0 y).1 (fill1 h0 y).2.1 (fill1 h0 y).2.2
theorem wp_fill1 {P : Program} {c : Code} {Q : Exit → Act → World → Prop} {a : Act} {w : World} {b i : Nat} {cs : Array Value} {T : TypeId} {y : Value} (h0 : w.heap[b]? = some (.cells cs T (0, 0))) (h : ∀ W : World, W.heap[b]? = some (.cells (cs.setIfInBounds i y) T (0, 0)) → Turn [b] w W → W.heap.size = w.heap.size → Code.wp P c Q a W) : Code.wp P c Q a (w.setCell ⟨b, i, none⟩ y) :=
  h _ (fill1 h0 y).1 (fill1 h0 y).2.1 (fill1 h0 y).2.2
theorem fill2 {w : World} {b : Nat} {x0 x1 : Value} {T : TypeId} (h : w.heap[b]? = some (.cells #[x0, x1] T (0, 0))) (y0 y1 : Value) : ((w.setCell ⟨b, 0, none⟩ y0).setCell ⟨b, 1, none⟩ y1).heap[b]? = some (.cells #[y0, y1] T (0, 0)) ∧ Turn [b] w ((w.setCell ⟨b, 0, none⟩ y0).setCell ⟨b, 1, none⟩ y1) ∧ ((w.setCell ⟨b, 0, none⟩ y0).setCell ⟨b, 1, none⟩ y1).heap.size = w.heap.size := by
  refine ⟨by simp [World.setCell, Array.getElem?_modify, h], ?_, by simp only [World.size_setCell]⟩
  iterate 2 refine Turn.setCell ?_ (.inl (by simp)) _
  exact Turn.refl _ _
theorem calls_fill2 {P : Program} {f : FuncId} {args : Array Value} {w : World} {Q : Ending → World → Prop} {b : Nat} {x0 x1 y0 y1 : Value} {T : TypeId} (h0 : w.heap[b]? = some (.cells #[x0, x1] T (0, 0))) (h : ∀ W : World, W.heap[b]? = some (.cells #[y0, y1] T (0, 0)) → Turn [b] w W → W.heap.size = w.heap.size → Calls P f args W Q) : Calls P f args ((w.setCell ⟨b, 0, none⟩ y0).setCell ⟨b, 1, none⟩ y1) Q :=
  h _ (fill2 h0 _ _).1 (fill2 h0 _ _).2.1 (fill2 h0 _ _).2.2
theorem wp_fill2 {P : Program} {c : Code} {Q : Exit → Act → World → Prop} {a : Act} {w : World} {b : Nat} {x0 x1 y0 y1 : Value} {T : TypeId} (h0 : w.heap[b]? = some (.cells #[x0, x1] T (0, 0))) (h : ∀ W : World, W.heap[b]? = some (.cells #[y0, y1] T (0, 0)) → Turn [b] w W → W.heap.size = w.heap.size → Code.wp P c Q a W) : Code.wp P c Q a ((w.setCell ⟨b, 0, none⟩ y0).setCell ⟨b, 1, none⟩ y1) :=
  h _ (fill2 h0 _ _).1 (fill2 h0 _ _).2.1 (fill2 h0 _ _).2.2
theorem fill3 {w : World} {b : Nat} {x0 x1 x2 : Value} {T : TypeId} (h : w.heap[b]? = some (.cells #[x0, x1, x2] T (0, 0))) (y0 y1 y2 : Value) : (((w.setCell ⟨b, 0, none⟩ y0).setCell ⟨b, 1, none⟩ y1).setCell ⟨b, 2, none⟩ y2).heap[b]? = some (.cells #[y0, y1, y2] T (0, 0)) ∧ Turn [b] w (((w.setCell ⟨b, 0, none⟩ y0).setCell ⟨b, 1, none⟩ y1).setCell ⟨b, 2, none⟩ y2) ∧ (((w.setCell ⟨b, 0, none⟩ y0).setCell ⟨b, 1, none⟩ y1).setCell ⟨b, 2, none⟩ y2).heap.size = w.heap.size := by
  refine ⟨by simp [World.setCell, Array.getElem?_modify, h], ?_, by simp only [World.size_setCell]⟩
  iterate 3 refine Turn.setCell ?_ (.inl (by simp)) _
  exact Turn.refl _ _
theorem calls_fill3 {P : Program} {f : FuncId} {args : Array Value} {w : World} {Q : Ending → World → Prop} {b : Nat} {x0 x1 x2 y0 y1 y2 : Value} {T : TypeId} (h0 : w.heap[b]? = some (.cells #[x0, x1, x2] T (0, 0))) (h : ∀ W : World, W.heap[b]? = some (.cells #[y0, y1, y2] T (0, 0)) → Turn [b] w W → W.heap.size = w.heap.size → Calls P f args W Q) : Calls P f args (((w.setCell ⟨b, 0, none⟩ y0).setCell ⟨b, 1, none⟩ y1).setCell ⟨b, 2, none⟩ y2) Q :=
  h _ (fill3 h0 _ _ _).1 (fill3 h0 _ _ _).2.1 (fill3 h0 _ _ _).2.2
theorem wp_fill3 {P : Program} {c : Code} {Q : Exit → Act → World → Prop} {a : Act} {w : World} {b : Nat} {x0 x1 x2 y0 y1 y2 : Value} {T : TypeId} (h0 : w.heap[b]? = some (.cells #[x0, x1, x2] T (0, 0))) (h : ∀ W : World, W.heap[b]? = some (.cells #[y0, y1, y2] T (0, 0)) → Turn [b] w W → W.heap.size = w.heap.size → Code.wp P c Q a W) : Code.wp P c Q a (((w.setCell ⟨b, 0, none⟩ y0).setCell ⟨b, 1, none⟩ y1).setCell ⟨b, 2, none⟩ y2) :=
  h _ (fill3 h0 _ _ _).1 (fill3 h0 _ _ _).2.1 (fill3 h0 _ _ _).2.2
theorem fill4 {w : World} {b : Nat} {x0 x1 x2 x3 : Value} {T : TypeId} (h : w.heap[b]? = some (.cells #[x0, x1, x2, x3] T (0, 0))) (y0 y1 y2 y3 : Value) : ((((w.setCell ⟨b, 0, none⟩ y0).setCell ⟨b, 1, none⟩ y1).setCell ⟨b, 2, none⟩ y2).setCell ⟨b, 3, none⟩ y3).heap[b]? = some (.cells #[y0, y1, y2, y3] T (0, 0)) ∧ Turn [b] w ((((w.setCell ⟨b, 0, none⟩ y0).setCell ⟨b, 1, none⟩ y1).setCell ⟨b, 2, none⟩ y2).setCell ⟨b, 3, none⟩ y3) ∧ ((((w.setCell ⟨b, 0, none⟩ y0).setCell ⟨b, 1, none⟩ y1).setCell ⟨b, 2, none⟩ y2).setCell ⟨b, 3, none⟩ y3).heap.size = w.heap.size := by
  refine ⟨by simp [World.setCell, Array.getElem?_modify, h], ?_, by simp only [World.size_setCell]⟩
  iterate 4 refine Turn.setCell ?_ (.inl (by simp)) _
  exact Turn.refl _ _
theorem calls_fill4 {P : Program} {f : FuncId} {args : Array Value} {w : World} {Q : Ending → World → Prop} {b : Nat} {x0 x1 x2 x3 y0 y1 y2 y3 : Value} {T : TypeId} (h0 : w.heap[b]? = some (.cells #[x0, x1, x2, x3] T (0, 0))) (h : ∀ W : World, W.heap[b]? = some (.cells #[y0, y1, y2, y3] T (0, 0)) → Turn [b] w W → W.heap.size = w.heap.size → Calls P f args W Q) : Calls P f args ((((w.setCell ⟨b, 0, none⟩ y0).setCell ⟨b, 1, none⟩ y1).setCell ⟨b, 2, none⟩ y2).setCell ⟨b, 3, none⟩ y3) Q :=
  h _ (fill4 h0 _ _ _ _).1 (fill4 h0 _ _ _ _).2.1 (fill4 h0 _ _ _ _).2.2
theorem wp_fill4 {P : Program} {c : Code} {Q : Exit → Act → World → Prop} {a : Act} {w : World} {b : Nat} {x0 x1 x2 x3 y0 y1 y2 y3 : Value} {T : TypeId} (h0 : w.heap[b]? = some (.cells #[x0, x1, x2, x3] T (0, 0))) (h : ∀ W : World, W.heap[b]? = some (.cells #[y0, y1, y2, y3] T (0, 0)) → Turn [b] w W → W.heap.size = w.heap.size → Code.wp P c Q a W) : Code.wp P c Q a ((((w.setCell ⟨b, 0, none⟩ y0).setCell ⟨b, 1, none⟩ y1).setCell ⟨b, 2, none⟩ y2).setCell ⟨b, 3, none⟩ y3) :=
  h _ (fill4 h0 _ _ _ _).1 (fill4 h0 _ _ _ _).2.1 (fill4 h0 _ _ _ _).2.2
theorem fill5 {w : World} {b : Nat} {x0 x1 x2 x3 x4 : Value} {T : TypeId} (h : w.heap[b]? = some (.cells #[x0, x1, x2, x3, x4] T (0, 0))) (y0 y1 y2 y3 y4 : Value) : (((((w.setCell ⟨b, 0, none⟩ y0).setCell ⟨b, 1, none⟩ y1).setCell ⟨b, 2, none⟩ y2).setCell ⟨b, 3, none⟩ y3).setCell ⟨b, 4, none⟩ y4).heap[b]? = some (.cells #[y0, y1, y2, y3, y4] T (0, 0)) ∧ Turn [b] w (((((w.setCell ⟨b, 0, none⟩ y0).setCell ⟨b, 1, none⟩ y1).setCell ⟨b, 2, none⟩ y2).setCell ⟨b, 3, none⟩ y3).setCell ⟨b, 4, none⟩ y4) ∧ (((((w.setCell ⟨b, 0, none⟩ y0).setCell ⟨b, 1, none⟩ y1).setCell ⟨b, 2, none⟩ y2).setCell ⟨b, 3, none⟩ y3).setCell ⟨b, 4, none⟩ y4).heap.size = w.heap.size := by
  refine ⟨by simp [World.setCell, Array.getElem?_modify, h], ?_, by simp only [World.size_setCell]⟩
  iterate 5 refine Turn.setCell ?_ (.inl (by simp)) _
  exact Turn.refl _ _
theorem calls_fill5 {P : Program} {f : FuncId} {args : Array Value} {w : World} {Q : Ending → World → Prop} {b : Nat} {x0 x1 x2 x3 x4 y0 y1 y2 y3 y4 : Value} {T : TypeId} (h0 : w.heap[b]? = some (.cells #[x0, x1, x2, x3, x4] T (0, 0))) (h : ∀ W : World, W.heap[b]? = some (.cells #[y0, y1, y2, y3, y4] T (0, 0)) → Turn [b] w W → W.heap.size = w.heap.size → Calls P f args W Q) : Calls P f args (((((w.setCell ⟨b, 0, none⟩ y0).setCell ⟨b, 1, none⟩ y1).setCell ⟨b, 2, none⟩ y2).setCell ⟨b, 3, none⟩ y3).setCell ⟨b, 4, none⟩ y4) Q :=
  h _ (fill5 h0 _ _ _ _ _).1 (fill5 h0 _ _ _ _ _).2.1 (fill5 h0 _ _ _ _ _).2.2
theorem wp_fill5 {P : Program} {c : Code} {Q : Exit → Act → World → Prop} {a : Act} {w : World} {b : Nat} {x0 x1 x2 x3 x4 y0 y1 y2 y3 y4 : Value} {T : TypeId} (h0 : w.heap[b]? = some (.cells #[x0, x1, x2, x3, x4] T (0, 0))) (h : ∀ W : World, W.heap[b]? = some (.cells #[y0, y1, y2, y3, y4] T (0, 0)) → Turn [b] w W → W.heap.size = w.heap.size → Code.wp P c Q a W) : Code.wp P c Q a (((((w.setCell ⟨b, 0, none⟩ y0).setCell ⟨b, 1, none⟩ y1).setCell ⟨b, 2, none⟩ y2).setCell ⟨b, 3, none⟩ y3).setCell ⟨b, 4, none⟩ y4) :=
  h _ (fill5 h0 _ _ _ _ _).1 (fill5 h0 _ _ _ _ _).2.1 (fill5 h0 _ _ _ _ _).2.2
theorem fill6 {w : World} {b : Nat} {x0 x1 x2 x3 x4 x5 : Value} {T : TypeId} (h : w.heap[b]? = some (.cells #[x0, x1, x2, x3, x4, x5] T (0, 0))) (y0 y1 y2 y3 y4 y5 : Value) : ((((((w.setCell ⟨b, 0, none⟩ y0).setCell ⟨b, 1, none⟩ y1).setCell ⟨b, 2, none⟩ y2).setCell ⟨b, 3, none⟩ y3).setCell ⟨b, 4, none⟩ y4).setCell ⟨b, 5, none⟩ y5).heap[b]? = some (.cells #[y0, y1, y2, y3, y4, y5] T (0, 0)) ∧ Turn [b] w ((((((w.setCell ⟨b, 0, none⟩ y0).setCell ⟨b, 1, none⟩ y1).setCell ⟨b, 2, none⟩ y2).setCell ⟨b, 3, none⟩ y3).setCell ⟨b, 4, none⟩ y4).setCell ⟨b, 5, none⟩ y5) ∧ ((((((w.setCell ⟨b, 0, none⟩ y0).setCell ⟨b, 1, none⟩ y1).setCell ⟨b, 2, none⟩ y2).setCell ⟨b, 3, none⟩ y3).setCell ⟨b, 4, none⟩ y4).setCell ⟨b, 5, none⟩ y5).heap.size = w.heap.size := by
  refine ⟨by simp [World.setCell, Array.getElem?_modify, h], ?_, by simp only [World.size_setCell]⟩
  iterate 6 refine Turn.setCell ?_ (.inl (by simp)) _
  exact Turn.refl _ _
theorem calls_fill6 {P : Program} {f : FuncId} {args : Array Value} {w : World} {Q : Ending → World → Prop} {b : Nat} {x0 x1 x2 x3 x4 x5 y0 y1 y2 y3 y4 y5 : Value} {T : TypeId} (h0 : w.heap[b]? = some (.cells #[x0, x1, x2, x3, x4, x5] T (0, 0))) (h : ∀ W : World, W.heap[b]? = some (.cells #[y0, y1, y2, y3, y4, y5] T (0, 0)) → Turn [b] w W → W.heap.size = w.heap.size → Calls P f args W Q) : Calls P f args ((((((w.setCell ⟨b, 0, none⟩ y0).setCell ⟨b, 1, none⟩ y1).setCell ⟨b, 2, none⟩ y2).setCell ⟨b, 3, none⟩ y3).setCell ⟨b, 4, none⟩ y4).setCell ⟨b, 5, none⟩ y5) Q :=
  h _ (fill6 h0 _ _ _ _ _ _).1 (fill6 h0 _ _ _ _ _ _).2.1 (fill6 h0 _ _ _ _ _ _).2.2
theorem wp_fill6 {P : Program} {c : Code} {Q : Exit → Act → World → Prop} {a : Act} {w : World} {b : Nat} {x0 x1 x2 x3 x4 x5 y0 y1 y2 y3 y4 y5 : Value} {T : TypeId} (h0 : w.heap[b]? = some (.cells #[x0, x1, x2, x3, x4, x5] T (0, 0))) (h : ∀ W : World, W.heap[b]? = some (.cells #[y0, y1, y2, y3, y4, y5] T (0, 0)) → Turn [b] w W → W.heap.size = w.heap.size → Code.wp P c Q a W) : Code.wp P c Q a ((((((w.setCell ⟨b, 0, none⟩ y0).setCell ⟨b, 1, none⟩ y1).setCell ⟨b, 2, none⟩ y2).setCell ⟨b, 3, none⟩ y3).setCell ⟨b, 4, none⟩ y4).setCell ⟨b, 5, none⟩ y5) :=
  h _ (fill6 h0 _ _ _ _ _ _).1 (fill6 h0 _ _ _ _ _ _).2.1 (fill6 h0 _ _ _ _ _ _).2.2
theorem fill7 {w : World} {b : Nat} {x0 x1 x2 x3 x4 x5 x6 : Value} {T : TypeId} (h : w.heap[b]? = some (.cells #[x0, x1, x2, x3, x4, x5, x6] T (0, 0))) (y0 y1 y2 y3 y4 y5 y6 : Value) : (((((((w.setCell ⟨b, 0, none⟩ y0).setCell ⟨b, 1, none⟩ y1).setCell ⟨b, 2, none⟩ y2).setCell ⟨b, 3, none⟩ y3).setCell ⟨b, 4, none⟩ y4).setCell ⟨b, 5, none⟩ y5).setCell ⟨b, 6, none⟩ y6).heap[b]? = some (.cells #[y0, y1, y2, y3, y4, y5, y6] T (0, 0)) ∧ Turn [b] w (((((((w.setCell ⟨b, 0, none⟩ y0).setCell ⟨b, 1, none⟩ y1).setCell ⟨b, 2, none⟩ y2).setCell ⟨b, 3, none⟩ y3).setCell ⟨b, 4, none⟩ y4).setCell ⟨b, 5, none⟩ y5).setCell ⟨b, 6, none⟩ y6) ∧ (((((((w.setCell ⟨b, 0, none⟩ y0).setCell ⟨b, 1, none⟩ y1).setCell ⟨b, 2, none⟩ y2).setCell ⟨b, 3, none⟩ y3).setCell ⟨b, 4, none⟩ y4).setCell ⟨b, 5, none⟩ y5).setCell ⟨b, 6, none⟩ y6).heap.size = w.heap.size := by
  refine ⟨by simp [World.setCell, Array.getElem?_modify, h], ?_, by simp only [World.size_setCell]⟩
  iterate 7 refine Turn.setCell ?_ (.inl (by simp)) _
  exact Turn.refl _ _
theorem calls_fill7 {P : Program} {f : FuncId} {args : Array Value} {w : World} {Q : Ending → World → Prop} {b : Nat} {x0 x1 x2 x3 x4 x5 x6 y0 y1 y2 y3 y4 y5 y6 : Value} {T : TypeId} (h0 : w.heap[b]? = some (.cells #[x0, x1, x2, x3, x4, x5, x6] T (0, 0))) (h : ∀ W : World, W.heap[b]? = some (.cells #[y0, y1, y2, y3, y4, y5, y6] T (0, 0)) → Turn [b] w W → W.heap.size = w.heap.size → Calls P f args W Q) : Calls P f args (((((((w.setCell ⟨b, 0, none⟩ y0).setCell ⟨b, 1, none⟩ y1).setCell ⟨b, 2, none⟩ y2).setCell ⟨b, 3, none⟩ y3).setCell ⟨b, 4, none⟩ y4).setCell ⟨b, 5, none⟩ y5).setCell ⟨b, 6, none⟩ y6) Q :=
  h _ (fill7 h0 _ _ _ _ _ _ _).1 (fill7 h0 _ _ _ _ _ _ _).2.1 (fill7 h0 _ _ _ _ _ _ _).2.2
theorem wp_fill7 {P : Program} {c : Code} {Q : Exit → Act → World → Prop} {a : Act} {w : World} {b : Nat} {x0 x1 x2 x3 x4 x5 x6 y0 y1 y2 y3 y4 y5 y6 : Value} {T : TypeId} (h0 : w.heap[b]? = some (.cells #[x0, x1, x2, x3, x4, x5, x6] T (0, 0))) (h : ∀ W : World, W.heap[b]? = some (.cells #[y0, y1, y2, y3, y4, y5, y6] T (0, 0)) → Turn [b] w W → W.heap.size = w.heap.size → Code.wp P c Q a W) : Code.wp P c Q a (((((((w.setCell ⟨b, 0, none⟩ y0).setCell ⟨b, 1, none⟩ y1).setCell ⟨b, 2, none⟩ y2).setCell ⟨b, 3, none⟩ y3).setCell ⟨b, 4, none⟩ y4).setCell ⟨b, 5, none⟩ y5).setCell ⟨b, 6, none⟩ y6) :=
  h _ (fill7 h0 _ _ _ _ _ _ _).1 (fill7 h0 _ _ _ _ _ _ _).2.1 (fill7 h0 _ _ _ _ _ _ _).2.2
theorem fill8 {w : World} {b : Nat} {x0 x1 x2 x3 x4 x5 x6 x7 : Value} {T : TypeId} (h : w.heap[b]? = some (.cells #[x0, x1, x2, x3, x4, x5, x6, x7] T (0, 0))) (y0 y1 y2 y3 y4 y5 y6 y7 : Value) : ((((((((w.setCell ⟨b, 0, none⟩ y0).setCell ⟨b, 1, none⟩ y1).setCell ⟨b, 2, none⟩ y2).setCell ⟨b, 3, none⟩ y3).setCell ⟨b, 4, none⟩ y4).setCell ⟨b, 5, none⟩ y5).setCell ⟨b, 6, none⟩ y6).setCell ⟨b, 7, none⟩ y7).heap[b]? = some (.cells #[y0, y1, y2, y3, y4, y5, y6, y7] T (0, 0)) ∧ Turn [b] w ((((((((w.setCell ⟨b, 0, none⟩ y0).setCell ⟨b, 1, none⟩ y1).setCell ⟨b, 2, none⟩ y2).setCell ⟨b, 3, none⟩ y3).setCell ⟨b, 4, none⟩ y4).setCell ⟨b, 5, none⟩ y5).setCell ⟨b, 6, none⟩ y6).setCell ⟨b, 7, none⟩ y7) ∧ ((((((((w.setCell ⟨b, 0, none⟩ y0).setCell ⟨b, 1, none⟩ y1).setCell ⟨b, 2, none⟩ y2).setCell ⟨b, 3, none⟩ y3).setCell ⟨b, 4, none⟩ y4).setCell ⟨b, 5, none⟩ y5).setCell ⟨b, 6, none⟩ y6).setCell ⟨b, 7, none⟩ y7).heap.size = w.heap.size := by
  refine ⟨by simp [World.setCell, Array.getElem?_modify, h], ?_, by simp only [World.size_setCell]⟩
  iterate 8 refine Turn.setCell ?_ (.inl (by simp)) _
  exact Turn.refl _ _
theorem calls_fill8 {P : Program} {f : FuncId} {args : Array Value} {w : World} {Q : Ending → World → Prop} {b : Nat} {x0 x1 x2 x3 x4 x5 x6 x7 y0 y1 y2 y3 y4 y5 y6 y7 : Value} {T : TypeId} (h0 : w.heap[b]? = some (.cells #[x0, x1, x2, x3, x4, x5, x6, x7] T (0, 0))) (h : ∀ W : World, W.heap[b]? = some (.cells #[y0, y1, y2, y3, y4, y5, y6, y7] T (0, 0)) → Turn [b] w W → W.heap.size = w.heap.size → Calls P f args W Q) : Calls P f args ((((((((w.setCell ⟨b, 0, none⟩ y0).setCell ⟨b, 1, none⟩ y1).setCell ⟨b, 2, none⟩ y2).setCell ⟨b, 3, none⟩ y3).setCell ⟨b, 4, none⟩ y4).setCell ⟨b, 5, none⟩ y5).setCell ⟨b, 6, none⟩ y6).setCell ⟨b, 7, none⟩ y7) Q :=
  h _ (fill8 h0 _ _ _ _ _ _ _ _).1 (fill8 h0 _ _ _ _ _ _ _ _).2.1 (fill8 h0 _ _ _ _ _ _ _ _).2.2
theorem wp_fill8 {P : Program} {c : Code} {Q : Exit → Act → World → Prop} {a : Act} {w : World} {b : Nat} {x0 x1 x2 x3 x4 x5 x6 x7 y0 y1 y2 y3 y4 y5 y6 y7 : Value} {T : TypeId} (h0 : w.heap[b]? = some (.cells #[x0, x1, x2, x3, x4, x5, x6, x7] T (0, 0))) (h : ∀ W : World, W.heap[b]? = some (.cells #[y0, y1, y2, y3, y4, y5, y6, y7] T (0, 0)) → Turn [b] w W → W.heap.size = w.heap.size → Code.wp P c Q a W) : Code.wp P c Q a ((((((((w.setCell ⟨b, 0, none⟩ y0).setCell ⟨b, 1, none⟩ y1).setCell ⟨b, 2, none⟩ y2).setCell ⟨b, 3, none⟩ y3).setCell ⟨b, 4, none⟩ y4).setCell ⟨b, 5, none⟩ y5).setCell ⟨b, 6, none⟩ y6).setCell ⟨b, 7, none⟩ y7) :=
  h _ (fill8 h0 _ _ _ _ _ _ _ _).1 (fill8 h0 _ _ _ _ _ _ _ _).2.1 (fill8 h0 _ _ _ _ _ _ _ _).2.2
theorem fill9 {w : World} {b : Nat} {x0 x1 x2 x3 x4 x5 x6 x7 x8 : Value} {T : TypeId} (h : w.heap[b]? = some (.cells #[x0, x1, x2, x3, x4, x5, x6, x7, x8] T (0, 0))) (y0 y1 y2 y3 y4 y5 y6 y7 y8 : Value) : (((((((((w.setCell ⟨b, 0, none⟩ y0).setCell ⟨b, 1, none⟩ y1).setCell ⟨b, 2, none⟩ y2).setCell ⟨b, 3, none⟩ y3).setCell ⟨b, 4, none⟩ y4).setCell ⟨b, 5, none⟩ y5).setCell ⟨b, 6, none⟩ y6).setCell ⟨b, 7, none⟩ y7).setCell ⟨b, 8, none⟩ y8).heap[b]? = some (.cells #[y0, y1, y2, y3, y4, y5, y6, y7, y8] T (0, 0)) ∧ Turn [b] w (((((((((w.setCell ⟨b, 0, none⟩ y0).setCell ⟨b, 1, none⟩ y1).setCell ⟨b, 2, none⟩ y2).setCell ⟨b, 3, none⟩ y3).setCell ⟨b, 4, none⟩ y4).setCell ⟨b, 5, none⟩ y5).setCell ⟨b, 6, none⟩ y6).setCell ⟨b, 7, none⟩ y7).setCell ⟨b, 8, none⟩ y8) ∧ (((((((((w.setCell ⟨b, 0, none⟩ y0).setCell ⟨b, 1, none⟩ y1).setCell ⟨b, 2, none⟩ y2).setCell ⟨b, 3, none⟩ y3).setCell ⟨b, 4, none⟩ y4).setCell ⟨b, 5, none⟩ y5).setCell ⟨b, 6, none⟩ y6).setCell ⟨b, 7, none⟩ y7).setCell ⟨b, 8, none⟩ y8).heap.size = w.heap.size := by
  refine ⟨by simp [World.setCell, Array.getElem?_modify, h], ?_, by simp only [World.size_setCell]⟩
  iterate 9 refine Turn.setCell ?_ (.inl (by simp)) _
  exact Turn.refl _ _
theorem calls_fill9 {P : Program} {f : FuncId} {args : Array Value} {w : World} {Q : Ending → World → Prop} {b : Nat} {x0 x1 x2 x3 x4 x5 x6 x7 x8 y0 y1 y2 y3 y4 y5 y6 y7 y8 : Value} {T : TypeId} (h0 : w.heap[b]? = some (.cells #[x0, x1, x2, x3, x4, x5, x6, x7, x8] T (0, 0))) (h : ∀ W : World, W.heap[b]? = some (.cells #[y0, y1, y2, y3, y4, y5, y6, y7, y8] T (0, 0)) → Turn [b] w W → W.heap.size = w.heap.size → Calls P f args W Q) : Calls P f args (((((((((w.setCell ⟨b, 0, none⟩ y0).setCell ⟨b, 1, none⟩ y1).setCell ⟨b, 2, none⟩ y2).setCell ⟨b, 3, none⟩ y3).setCell ⟨b, 4, none⟩ y4).setCell ⟨b, 5, none⟩ y5).setCell ⟨b, 6, none⟩ y6).setCell ⟨b, 7, none⟩ y7).setCell ⟨b, 8, none⟩ y8) Q :=
  h _ (fill9 h0 _ _ _ _ _ _ _ _ _).1 (fill9 h0 _ _ _ _ _ _ _ _ _).2.1 (fill9 h0 _ _ _ _ _ _ _ _ _).2.2
theorem wp_fill9 {P : Program} {c : Code} {Q : Exit → Act → World → Prop} {a : Act} {w : World} {b : Nat} {x0 x1 x2 x3 x4 x5 x6 x7 x8 y0 y1 y2 y3 y4 y5 y6 y7 y8 : Value} {T : TypeId} (h0 : w.heap[b]? = some (.cells #[x0, x1, x2, x3, x4, x5, x6, x7, x8] T (0, 0))) (h : ∀ W : World, W.heap[b]? = some (.cells #[y0, y1, y2, y3, y4, y5, y6, y7, y8] T (0, 0)) → Turn [b] w W → W.heap.size = w.heap.size → Code.wp P c Q a W) : Code.wp P c Q a (((((((((w.setCell ⟨b, 0, none⟩ y0).setCell ⟨b, 1, none⟩ y1).setCell ⟨b, 2, none⟩ y2).setCell ⟨b, 3, none⟩ y3).setCell ⟨b, 4, none⟩ y4).setCell ⟨b, 5, none⟩ y5).setCell ⟨b, 6, none⟩ y6).setCell ⟨b, 7, none⟩ y7).setCell ⟨b, 8, none⟩ y8) :=
  h _ (fill9 h0 _ _ _ _ _ _ _ _ _).1 (fill9 h0 _ _ _ _ _ _ _ _ _).2.1 (fill9 h0 _ _ _ _ _ _ _ _ _).2.2
theorem fill10 {w : World} {b : Nat} {x0 x1 x2 x3 x4 x5 x6 x7 x8 x9 : Value} {T : TypeId} (h : w.heap[b]? = some (.cells #[x0, x1, x2, x3, x4, x5, x6, x7, x8, x9] T (0, 0))) (y0 y1 y2 y3 y4 y5 y6 y7 y8 y9 : Value) : ((((((((((w.setCell ⟨b, 0, none⟩ y0).setCell ⟨b, 1, none⟩ y1).setCell ⟨b, 2, none⟩ y2).setCell ⟨b, 3, none⟩ y3).setCell ⟨b, 4, none⟩ y4).setCell ⟨b, 5, none⟩ y5).setCell ⟨b, 6, none⟩ y6).setCell ⟨b, 7, none⟩ y7).setCell ⟨b, 8, none⟩ y8).setCell ⟨b, 9, none⟩ y9).heap[b]? = some (.cells #[y0, y1, y2, y3, y4, y5, y6, y7, y8, y9] T (0, 0)) ∧ Turn [b] w ((((((((((w.setCell ⟨b, 0, none⟩ y0).setCell ⟨b, 1, none⟩ y1).setCell ⟨b, 2, none⟩ y2).setCell ⟨b, 3, none⟩ y3).setCell ⟨b, 4, none⟩ y4).setCell ⟨b, 5, none⟩ y5).setCell ⟨b, 6, none⟩ y6).setCell ⟨b, 7, none⟩ y7).setCell ⟨b, 8, none⟩ y8).setCell ⟨b, 9, none⟩ y9) ∧ ((((((((((w.setCell ⟨b, 0, none⟩ y0).setCell ⟨b, 1, none⟩ y1).setCell ⟨b, 2, none⟩ y2).setCell ⟨b, 3, none⟩ y3).setCell ⟨b, 4, none⟩ y4).setCell ⟨b, 5, none⟩ y5).setCell ⟨b, 6, none⟩ y6).setCell ⟨b, 7, none⟩ y7).setCell ⟨b, 8, none⟩ y8).setCell ⟨b, 9, none⟩ y9).heap.size = w.heap.size := by
  refine ⟨by simp [World.setCell, Array.getElem?_modify, h], ?_, by simp only [World.size_setCell]⟩
  iterate 10 refine Turn.setCell ?_ (.inl (by simp)) _
  exact Turn.refl _ _
theorem calls_fill10 {P : Program} {f : FuncId} {args : Array Value} {w : World} {Q : Ending → World → Prop} {b : Nat} {x0 x1 x2 x3 x4 x5 x6 x7 x8 x9 y0 y1 y2 y3 y4 y5 y6 y7 y8 y9 : Value} {T : TypeId} (h0 : w.heap[b]? = some (.cells #[x0, x1, x2, x3, x4, x5, x6, x7, x8, x9] T (0, 0))) (h : ∀ W : World, W.heap[b]? = some (.cells #[y0, y1, y2, y3, y4, y5, y6, y7, y8, y9] T (0, 0)) → Turn [b] w W → W.heap.size = w.heap.size → Calls P f args W Q) : Calls P f args ((((((((((w.setCell ⟨b, 0, none⟩ y0).setCell ⟨b, 1, none⟩ y1).setCell ⟨b, 2, none⟩ y2).setCell ⟨b, 3, none⟩ y3).setCell ⟨b, 4, none⟩ y4).setCell ⟨b, 5, none⟩ y5).setCell ⟨b, 6, none⟩ y6).setCell ⟨b, 7, none⟩ y7).setCell ⟨b, 8, none⟩ y8).setCell ⟨b, 9, none⟩ y9) Q :=
  h _ (fill10 h0 _ _ _ _ _ _ _ _ _ _).1 (fill10 h0 _ _ _ _ _ _ _ _ _ _).2.1 (fill10 h0 _ _ _ _ _ _ _ _ _ _).2.2
theorem wp_fill10 {P : Program} {c : Code} {Q : Exit → Act → World → Prop} {a : Act} {w : World} {b : Nat} {x0 x1 x2 x3 x4 x5 x6 x7 x8 x9 y0 y1 y2 y3 y4 y5 y6 y7 y8 y9 : Value} {T : TypeId} (h0 : w.heap[b]? = some (.cells #[x0, x1, x2, x3, x4, x5, x6, x7, x8, x9] T (0, 0))) (h : ∀ W : World, W.heap[b]? = some (.cells #[y0, y1, y2, y3, y4, y5, y6, y7, y8, y9] T (0, 0)) → Turn [b] w W → W.heap.size = w.heap.size → Code.wp P c Q a W) : Code.wp P c Q a ((((((((((w.setCell ⟨b, 0, none⟩ y0).setCell ⟨b, 1, none⟩ y1).setCell ⟨b, 2, none⟩ y2).setCell ⟨b, 3, none⟩ y3).setCell ⟨b, 4, none⟩ y4).setCell ⟨b, 5, none⟩ y5).setCell ⟨b, 6, none⟩ y6).setCell ⟨b, 7, none⟩ y7).setCell ⟨b, 8, none⟩ y8).setCell ⟨b, 9, none⟩ y9) :=
  h _ (fill10 h0 _ _ _ _ _ _ _ _ _ _).1 (fill10 h0 _ _ _ _ _ _ _ _ _ _).2.1 (fill10 h0 _ _ _ _ _ _ _ _ _ _).2.2
theorem fill11 {w : World} {b : Nat} {x0 x1 x2 x3 x4 x5 x6 x7 x8 x9 x10 : Value} {T : TypeId} (h : w.heap[b]? = some (.cells #[x0, x1, x2, x3, x4, x5, x6, x7, x8, x9, x10] T (0, 0))) (y0 y1 y2 y3 y4 y5 y6 y7 y8 y9 y10 : Value) : (((((((((((w.setCell ⟨b, 0, none⟩ y0).setCell ⟨b, 1, none⟩ y1).setCell ⟨b, 2, none⟩ y2).setCell ⟨b, 3, none⟩ y3).setCell ⟨b, 4, none⟩ y4).setCell ⟨b, 5, none⟩ y5).setCell ⟨b, 6, none⟩ y6).setCell ⟨b, 7, none⟩ y7).setCell ⟨b, 8, none⟩ y8).setCell ⟨b, 9, none⟩ y9).setCell ⟨b, 10, none⟩ y10).heap[b]? = some (.cells #[y0, y1, y2, y3, y4, y5, y6, y7, y8, y9, y10] T (0, 0)) ∧ Turn [b] w (((((((((((w.setCell ⟨b, 0, none⟩ y0).setCell ⟨b, 1, none⟩ y1).setCell ⟨b, 2, none⟩ y2).setCell ⟨b, 3, none⟩ y3).setCell ⟨b, 4, none⟩ y4).setCell ⟨b, 5, none⟩ y5).setCell ⟨b, 6, none⟩ y6).setCell ⟨b, 7, none⟩ y7).setCell ⟨b, 8, none⟩ y8).setCell ⟨b, 9, none⟩ y9).setCell ⟨b, 10, none⟩ y10) ∧ (((((((((((w.setCell ⟨b, 0, none⟩ y0).setCell ⟨b, 1, none⟩ y1).setCell ⟨b, 2, none⟩ y2).setCell ⟨b, 3, none⟩ y3).setCell ⟨b, 4, none⟩ y4).setCell ⟨b, 5, none⟩ y5).setCell ⟨b, 6, none⟩ y6).setCell ⟨b, 7, none⟩ y7).setCell ⟨b, 8, none⟩ y8).setCell ⟨b, 9, none⟩ y9).setCell ⟨b, 10, none⟩ y10).heap.size = w.heap.size := by
  refine ⟨by simp [World.setCell, Array.getElem?_modify, h], ?_, by simp only [World.size_setCell]⟩
  iterate 11 refine Turn.setCell ?_ (.inl (by simp)) _
  exact Turn.refl _ _
theorem calls_fill11 {P : Program} {f : FuncId} {args : Array Value} {w : World} {Q : Ending → World → Prop} {b : Nat} {x0 x1 x2 x3 x4 x5 x6 x7 x8 x9 x10 y0 y1 y2 y3 y4 y5 y6 y7 y8 y9 y10 : Value} {T : TypeId} (h0 : w.heap[b]? = some (.cells #[x0, x1, x2, x3, x4, x5, x6, x7, x8, x9, x10] T (0, 0))) (h : ∀ W : World, W.heap[b]? = some (.cells #[y0, y1, y2, y3, y4, y5, y6, y7, y8, y9, y10] T (0, 0)) → Turn [b] w W → W.heap.size = w.heap.size → Calls P f args W Q) : Calls P f args (((((((((((w.setCell ⟨b, 0, none⟩ y0).setCell ⟨b, 1, none⟩ y1).setCell ⟨b, 2, none⟩ y2).setCell ⟨b, 3, none⟩ y3).setCell ⟨b, 4, none⟩ y4).setCell ⟨b, 5, none⟩ y5).setCell ⟨b, 6, none⟩ y6).setCell ⟨b, 7, none⟩ y7).setCell ⟨b, 8, none⟩ y8).setCell ⟨b, 9, none⟩ y9).setCell ⟨b, 10, none⟩ y10) Q :=
  h _ (fill11 h0 _ _ _ _ _ _ _ _ _ _ _).1 (fill11 h0 _ _ _ _ _ _ _ _ _ _ _).2.1 (fill11 h0 _ _ _ _ _ _ _ _ _ _ _).2.2
theorem wp_fill11 {P : Program} {c : Code} {Q : Exit → Act → World → Prop} {a : Act} {w : World} {b : Nat} {x0 x1 x2 x3 x4 x5 x6 x7 x8 x9 x10 y0 y1 y2 y3 y4 y5 y6 y7 y8 y9 y10 : Value} {T : TypeId} (h0 : w.heap[b]? = some (.cells #[x0, x1, x2, x3, x4, x5, x6, x7, x8, x9, x10] T (0, 0))) (h : ∀ W : World, W.heap[b]? = some (.cells #[y0, y1, y2, y3, y4, y5, y6, y7, y8, y9, y10] T (0, 0)) → Turn [b] w W → W.heap.size = w.heap.size → Code.wp P c Q a W) : Code.wp P c Q a (((((((((((w.setCell ⟨b, 0, none⟩ y0).setCell ⟨b, 1, none⟩ y1).setCell ⟨b, 2, none⟩ y2).setCell ⟨b, 3, none⟩ y3).setCell ⟨b, 4, none⟩ y4).setCell ⟨b, 5, none⟩ y5).setCell ⟨b, 6, none⟩ y6).setCell ⟨b, 7, none⟩ y7).setCell ⟨b, 8, none⟩ y8).setCell ⟨b, 9, none⟩ y9).setCell ⟨b, 10, none⟩ y10) :=
  h _ (fill11 h0 _ _ _ _ _ _ _ _ _ _ _).1 (fill11 h0 _ _ _ _ _ _ _ _ _ _ _).2.1 (fill11 h0 _ _ _ _ _ _ _ _ _ _ _).2.2
theorem fill12 {w : World} {b : Nat} {x0 x1 x2 x3 x4 x5 x6 x7 x8 x9 x10 x11 : Value} {T : TypeId} (h : w.heap[b]? = some (.cells #[x0, x1, x2, x3, x4, x5, x6, x7, x8, x9, x10, x11] T (0, 0))) (y0 y1 y2 y3 y4 y5 y6 y7 y8 y9 y10 y11 : Value) : ((((((((((((w.setCell ⟨b, 0, none⟩ y0).setCell ⟨b, 1, none⟩ y1).setCell ⟨b, 2, none⟩ y2).setCell ⟨b, 3, none⟩ y3).setCell ⟨b, 4, none⟩ y4).setCell ⟨b, 5, none⟩ y5).setCell ⟨b, 6, none⟩ y6).setCell ⟨b, 7, none⟩ y7).setCell ⟨b, 8, none⟩ y8).setCell ⟨b, 9, none⟩ y9).setCell ⟨b, 10, none⟩ y10).setCell ⟨b, 11, none⟩ y11).heap[b]? = some (.cells #[y0, y1, y2, y3, y4, y5, y6, y7, y8, y9, y10, y11] T (0, 0)) ∧ Turn [b] w ((((((((((((w.setCell ⟨b, 0, none⟩ y0).setCell ⟨b, 1, none⟩ y1).setCell ⟨b, 2, none⟩ y2).setCell ⟨b, 3, none⟩ y3).setCell ⟨b, 4, none⟩ y4).setCell ⟨b, 5, none⟩ y5).setCell ⟨b, 6, none⟩ y6).setCell ⟨b, 7, none⟩ y7).setCell ⟨b, 8, none⟩ y8).setCell ⟨b, 9, none⟩ y9).setCell ⟨b, 10, none⟩ y10).setCell ⟨b, 11, none⟩ y11) ∧ ((((((((((((w.setCell ⟨b, 0, none⟩ y0).setCell ⟨b, 1, none⟩ y1).setCell ⟨b, 2, none⟩ y2).setCell ⟨b, 3, none⟩ y3).setCell ⟨b, 4, none⟩ y4).setCell ⟨b, 5, none⟩ y5).setCell ⟨b, 6, none⟩ y6).setCell ⟨b, 7, none⟩ y7).setCell ⟨b, 8, none⟩ y8).setCell ⟨b, 9, none⟩ y9).setCell ⟨b, 10, none⟩ y10).setCell ⟨b, 11, none⟩ y11).heap.size = w.heap.size := by
  refine ⟨by simp [World.setCell, Array.getElem?_modify, h], ?_, by simp only [World.size_setCell]⟩
  iterate 12 refine Turn.setCell ?_ (.inl (by simp)) _
  exact Turn.refl _ _
theorem calls_fill12 {P : Program} {f : FuncId} {args : Array Value} {w : World} {Q : Ending → World → Prop} {b : Nat} {x0 x1 x2 x3 x4 x5 x6 x7 x8 x9 x10 x11 y0 y1 y2 y3 y4 y5 y6 y7 y8 y9 y10 y11 : Value} {T : TypeId} (h0 : w.heap[b]? = some (.cells #[x0, x1, x2, x3, x4, x5, x6, x7, x8, x9, x10, x11] T (0, 0))) (h : ∀ W : World, W.heap[b]? = some (.cells #[y0, y1, y2, y3, y4, y5, y6, y7, y8, y9, y10, y11] T (0, 0)) → Turn [b] w W → W.heap.size = w.heap.size → Calls P f args W Q) : Calls P f args ((((((((((((w.setCell ⟨b, 0, none⟩ y0).setCell ⟨b, 1, none⟩ y1).setCell ⟨b, 2, none⟩ y2).setCell ⟨b, 3, none⟩ y3).setCell ⟨b, 4, none⟩ y4).setCell ⟨b, 5, none⟩ y5).setCell ⟨b, 6, none⟩ y6).setCell ⟨b, 7, none⟩ y7).setCell ⟨b, 8, none⟩ y8).setCell ⟨b, 9, none⟩ y9).setCell ⟨b, 10, none⟩ y10).setCell ⟨b, 11, none⟩ y11) Q :=
  h _ (fill12 h0 _ _ _ _ _ _ _ _ _ _ _ _).1 (fill12 h0 _ _ _ _ _ _ _ _ _ _ _ _).2.1 (fill12 h0 _ _ _ _ _ _ _ _ _ _ _ _).2.2
theorem wp_fill12 {P : Program} {c : Code} {Q : Exit → Act → World → Prop} {a : Act} {w : World} {b : Nat} {x0 x1 x2 x3 x4 x5 x6 x7 x8 x9 x10 x11 y0 y1 y2 y3 y4 y5 y6 y7 y8 y9 y10 y11 : Value} {T : TypeId} (h0 : w.heap[b]? = some (.cells #[x0, x1, x2, x3, x4, x5, x6, x7, x8, x9, x10, x11] T (0, 0))) (h : ∀ W : World, W.heap[b]? = some (.cells #[y0, y1, y2, y3, y4, y5, y6, y7, y8, y9, y10, y11] T (0, 0)) → Turn [b] w W → W.heap.size = w.heap.size → Code.wp P c Q a W) : Code.wp P c Q a ((((((((((((w.setCell ⟨b, 0, none⟩ y0).setCell ⟨b, 1, none⟩ y1).setCell ⟨b, 2, none⟩ y2).setCell ⟨b, 3, none⟩ y3).setCell ⟨b, 4, none⟩ y4).setCell ⟨b, 5, none⟩ y5).setCell ⟨b, 6, none⟩ y6).setCell ⟨b, 7, none⟩ y7).setCell ⟨b, 8, none⟩ y8).setCell ⟨b, 9, none⟩ y9).setCell ⟨b, 10, none⟩ y10).setCell ⟨b, 11, none⟩ y11) :=
  h _ (fill12 h0 _ _ _ _ _ _ _ _ _ _ _ _).1 (fill12 h0 _ _ _ _ _ _ _ _ _ _ _ _).2.1 (fill12 h0 _ _ _ _ _ _ _ _ _ _ _ _).2.2
end Go.Proofs.Ytlffmcadchbheaa
/- Kinds of objects: may one be, how many words. -/
namespace Go.Proofs.Ytlffmcadchbheaa
open Go.RowKit
set_option maxHeartbeats 4000000
set_option maxRecDepth 100000
theorem hsb (s : ByteArray) : s.toList.isEmpty = true ↔ s.size = 0 := by
  rw [ByteArray.toList_eq]; obtain ⟨⟨l⟩⟩ := s; simp [ByteArray.size]
theorem hsb_ne {s : ByteArray} (h : ¬ s.size = 0) : s.toList.isEmpty = false := by
  cases hh : s.toList.isEmpty with
  | false => rfl
  | true => exact absurd (hsb s |>.1 hh) h
theorem empty_of {s : ByteArray} (h : s.size = 0) : s = ByteArray.empty := ByteArray.size_eq_zero_iff.1 h
theorem row_may (l mo n c : Nat) (top kd tg : Int) (q : Option Addr) (s : ByteArray) (w : World) (_hl : l ≤ 400) (_hmo : mo ≤ 400) (_hn : n ≤ 9223372036854775807) : Calls Try.prog 113 #[.agg #[.int .i64 l, .int .i64 mo, .int .i64 top], .agg #[.int .i64 kd, .int .i64 tg, .slice q n c, .string s]] w fun e w' => e = .returned (.bool (rowB tg n s.size l mo top)) ∧ Ext w w' := by
  by_cases h1 : 0 ≤ tg
  · by_cases h2 : tg ≤ top
    · by_cases h3 : l ≤ n
      · by_cases h4 : n ≤ mo
        · by_cases h5 : s.size = 0
          · obtain rfl := empty_of h5
            have hb : rowB tg n ByteArray.empty.size l mo top = true := by unfold rowB; simp [h1, h2, h3, h4]
            rw [hb]
            clear hb h5
            have i3 : (l : Int) ≤ (n : Int) := by omega
            have i4 : (n : Int) ≤ (mo : Int) := by omega
            clear h3 h4
            go_enter Try.func113, Try.ntmps113
            go_wp2
            go_ret
            exact ⟨by simp <;> omega, (Ext.alloc _ _).trans (Ext.alloc _ _)⟩
          · have hb : rowB tg n s.size l mo top = false := by unfold rowB; simp [h5]
            rw [hb]
            have e5 := hsb_ne h5
            have i3 : (l : Int) ≤ (n : Int) := by omega
            have i4 : (n : Int) ≤ (mo : Int) := by omega
            clear hb h5 h3 h4
            go_enter Try.func113, Try.ntmps113
            go_wp2
            go_ret
            exact ⟨by simp <;> omega, (Ext.alloc _ _).trans (Ext.alloc _ _)⟩
        · have hb : rowB tg n s.size l mo top = false := by unfold rowB; simp [h4]
          rw [hb]
          have i3 : (l : Int) ≤ (n : Int) := by omega
          have i4 : ¬ (n : Int) ≤ (mo : Int) := by omega
          clear hb h3 h4
          go_enter Try.func113, Try.ntmps113
          go_wp2
          go_ret
          exact ⟨by simp <;> omega, (Ext.alloc _ _).trans (Ext.alloc _ _)⟩
      · have hb : rowB tg n s.size l mo top = false := by unfold rowB; simp [h3]
        rw [hb]
        have i3 : ¬ (l : Int) ≤ (n : Int) := by omega
        clear hb h3
        go_enter Try.func113, Try.ntmps113
        go_wp2
        go_ret
        exact ⟨by simp <;> omega, (Ext.alloc _ _).trans (Ext.alloc _ _)⟩
    · have hb : rowB tg n s.size l mo top = false := by unfold rowB; simp [h2]
      rw [hb]
      clear hb
      go_enter Try.func113, Try.ntmps113
      go_wp2
      go_ret
      exact ⟨by simp <;> omega, (Ext.alloc _ _).trans (Ext.alloc _ _)⟩
  · have hb : rowB tg n s.size l mo top = false := by unfold rowB; simp [h1]
    rw [hb]
    clear hb
    go_enter Try.func113, Try.ntmps113
    go_wp2
    go_ret
    exact ⟨by simp <;> omega, (Ext.alloc _ _).trans (Ext.alloc _ _)⟩
theorem row_size (a b c' kd tg : Int) (n c : Nat) (q : Option Addr) (s : ByteArray) (w : World) : Calls Try.prog 114 #[.agg #[.int .i64 a, .int .i64 b, .int .i64 c'], .agg #[.int .i64 kd, .int .i64 tg, .slice q n c, .string s]] w fun e w' => e = .returned (.int .i64 n) ∧ Ext w w' := by
  go_enter Try.func114, Try.ntmps114
  go_wp2
  go_ret
  exact ⟨rfl, (Ext.alloc _ _).trans (Ext.alloc _ _)⟩
theorem row_words (a b c' n : Int) (w : World) : Calls Try.prog 115 #[.agg #[.int .i64 a, .int .i64 b, .int .i64 c'], .int .i64 n] w fun e w' => e = .returned (.int .i64 n) ∧ Ext w w' := by
  go_enter Try.func115, Try.ntmps115
  go_wp2
  go_ret
  exact ⟨rfl, Ext.alloc _ _⟩
theorem text_may (kd tg : Int) (n c : Nat) (q : Option Addr) (s : ByteArray) (w : World) : Calls Try.prog 116 #[.agg #[], .agg #[.int .i64 kd, .int .i64 tg, .slice q n c, .string s]] w fun e w' => e = .returned (.bool (decide (tg = 0) && decide (n = 0) && decide (s.size ≤ 400))) ∧ Ext w w' := by
  by_cases h1 : tg = 0
  · subst h1
    by_cases h2 : n = 0
    · subst h2
      go_enter Try.func116, Try.ntmps116
      go_wp2
      go_ret
      exact ⟨by by_cases h : s.size ≤ 400 <;> simp [h] <;> omega, (Ext.alloc _ _).trans (Ext.alloc _ _)⟩
    · have e2 : ((n : Int) == 0) = false := beq_false_of_ne (by omega)
      have hb : (decide ((0 : Int) = 0) && decide (n = 0) && decide (s.size ≤ 400)) = false := by simp [h2]
      rw [hb]
      clear hb h2
      go_enter Try.func116, Try.ntmps116
      go_wp2
      go_ret
      exact ⟨rfl, (Ext.alloc _ _).trans (Ext.alloc _ _)⟩
  · have e1 : (tg == 0) = false := beq_false_of_ne h1
    have hb : (decide (tg = 0) && decide (n = 0) && decide (s.size ≤ 400)) = false := by simp [h1]
    rw [hb]
    clear hb h1
    go_enter Try.func116, Try.ntmps116
    go_wp2
    go_ret
    exact ⟨rfl, (Ext.alloc _ _).trans (Ext.alloc _ _)⟩
theorem text_size (kd tg : Int) (n c : Nat) (q : Option Addr) (s : ByteArray) (w : World) : Calls Try.prog 117 #[.agg #[], .agg #[.int .i64 kd, .int .i64 tg, .slice q n c, .string s]] w fun e w' => e = .returned (.int .i64 s.size) ∧ Ext w w' := by
  go_enter Try.func117, Try.ntmps117
  go_wp2
  go_ret
  exact ⟨rfl, (Ext.alloc _ _).trans (Ext.alloc _ _)⟩
theorem text_words (n : Nat) (w : World) (hn : n ≤ 400) : Calls Try.prog 118 #[.agg #[], .int .i64 n] w fun e w' => e = .returned (.int .i64 (((n + 7) / 8 : Nat) : Int)) ∧ Ext w w' := by
  go_enter Try.func118, Try.ntmps118
  go_wp2
  go_ret
  refine ⟨?_, Ext.alloc _ _⟩
  show Ending.returned (.int .i64 (((n : Int) + 8 - 1) / 8)) = _
  congr 2
  omega
/-- a kind's value -/
def rowV (l mo top : Int) : Value := .iface 118 (.agg #[.int .i64 l, .int .i64 mo, .int .i64 top])
def textV : Value := .iface 120 (.agg #[])
def ofV (kd : Int) : Value := if kd = 1 then rowV 1 8 255 else if kd = 2 then textV else if kd = 3 then rowV 0 400 0 else if kd = 4 then rowV 0 30 59 else .nilIface
theorem of_is (kd : Int) (w : World) : Calls Try.prog 41 #[.int .i64 kd] w fun e w' => e = .returned (ofV kd) ∧ w = w' := by
  unfold ofV rowV textV
  by_cases h1 : kd = 1
  · subst h1
    go_enter Try.func41, Try.ntmps41
    go_wp2
    go_ret
    exact ⟨rfl, rfl⟩
  · rw [if_neg h1]
    have e1 : (kd == 1) = false := beq_false_of_ne h1
    by_cases h2 : kd = 2
    · subst h2
      go_enter Try.func41, Try.ntmps41
      go_wp2
      go_ret
      exact ⟨rfl, rfl⟩
    · rw [if_neg h2]
      have e2 : (kd == 2) = false := beq_false_of_ne h2
      by_cases h3 : kd = 3
      · subst h3
        go_enter Try.func41, Try.ntmps41
        go_wp2
        go_ret
        exact ⟨rfl, rfl⟩
      · rw [if_neg h3]
        have e3 : (kd == 3) = false := beq_false_of_ne h3
        by_cases h4 : kd = 4
        · subst h4
          go_enter Try.func41, Try.ntmps41
          go_wp2
          go_ret
          exact ⟨rfl, rfl⟩
        · rw [if_neg h4]
          have e4 : (kd == 4) = false := beq_false_of_ne h4
          clear h1 h2 h3 h4
          go_enter Try.func41, Try.ntmps41
          go_wp2
          go_ret
          exact ⟨rfl, rfl⟩
theorem mt_may (k : Nat) (w : World) : (method (k + 1) 120 (.agg #[]) "stockpot/object.may").run Try.prog w = .ok (116, .agg #[]) w := by kernel_rfl
theorem mt_size (k : Nat) (w : World) : (method (k + 1) 120 (.agg #[]) "stockpot/object.size").run Try.prog w = .ok (117, .agg #[]) w := by kernel_rfl
theorem mt_words (k : Nat) (w : World) : (method (k + 1) 120 (.agg #[]) "stockpot/object.words").run Try.prog w = .ok (118, .agg #[]) w := by kernel_rfl
theorem mr_may (a b c : Int) (k : Nat) (w : World) : (method (k + 1) 118 (.agg #[.int .i64 a, .int .i64 b, .int .i64 c]) "stockpot/object.may").run Try.prog w = .ok (113, .agg #[.int .i64 a, .int .i64 b, .int .i64 c]) w := by kernel_rfl
theorem mr_size (a b c : Int) (k : Nat) (w : World) : (method (k + 1) 118 (.agg #[.int .i64 a, .int .i64 b, .int .i64 c]) "stockpot/object.size").run Try.prog w = .ok (114, .agg #[.int .i64 a, .int .i64 b, .int .i64 c]) w := by kernel_rfl
theorem mr_words (a b c : Int) (k : Nat) (w : World) : (method (k + 1) 118 (.agg #[.int .i64 a, .int .i64 b, .int .i64 c]) "stockpot/object.words").run Try.prog w = .ok (115, .agg #[.int .i64 a, .int .i64 b, .int .i64 c]) w := by kernel_rfl
theorem nt_words (w : World) : (nilAhead (Try.prog.types.size + Made.depth) 120 (.agg #[]) "stockpot/object.words").run Try.prog w = .ok (some false) w := by kernel_rfl
theorem nr_words (a b c : Int) (w : World) : (nilAhead (Try.prog.types.size + Made.depth) 118 (.agg #[.int .i64 a, .int .i64 b, .int .i64 c]) "stockpot/object.words").run Try.prog w = .ok (some false) w := by kernel_rfl
end Go.Proofs.Ytlffmcadchbheaa
/- May an object be; how many words; its head (the program's). -/
namespace Go.Proofs.Ytlffmcadchbheaa
open Go.RowKit
set_option maxHeartbeats 4000000
set_option maxRecDepth 100000
theorem may_is (kd tg : Int) (n c : Nat) (q : Option Addr) (s : ByteArray) (w : World) (hn : n ≤ 9223372036854775807) : Calls Try.prog 40 #[.agg #[.int .i64 kd, .int .i64 tg, .slice q n c, .string s]] w fun e w' => e = .returned (.bool (mayK kd tg n s.size)) ∧ Ext w w' := by
  have hm1 := mt_may
  have hm2 := mr_may
  by_cases h1 : kd = 1
  · subst h1
    have HR := Lib.hid (fun W => row_may 1 8 n c 255 1 tg q s W (by omega) (by omega) hn)
    have hb : mayK 1 tg n s.size = rowB tg n s.size 1 8 255 := rfl
    rw [hb]
    have ho : ofV 1 = .iface 118 (.agg #[.int .i64 1, .int .i64 8, .int .i64 255]) := rfl
    have HO := Lib.hid ho
    clear hb ho hm1
    go_enter Try.func40, Try.ntmps40
    go_wp2_with fail
    refine (of_is _ _).mono ?_
    rintro e w1 ⟨rfl, rfl⟩
    rw [HO.out]
    go_wp2_with fail
    refine (HR.out _).mono ?_
    rintro e w1 ⟨rfl, hx⟩
    have HX := Lib.hid ((Ext.alloc _ _).trans hx)
    clear hx
    go_wp2
    go_ret
    exact ⟨rfl, HX.out⟩
  · by_cases h2 : kd = 2
    · subst h2
      have HT := Lib.hid (fun W => text_may 2 tg n c q s W)
      have hb : mayK 2 tg n s.size = (decide (tg = 0) && decide (n = 0) && decide (s.size ≤ 400)) := rfl
      have HO := Lib.hid (show ofV 2 = .iface 120 (.agg #[]) from rfl)
      rw [hb]
      generalize (decide (tg = 0) && decide (n = 0) && decide (s.size ≤ 400)) = bb at HT ⊢
      clear hb hm2 h1
      go_enter Try.func40, Try.ntmps40
      go_wp2_with fail
      refine (of_is _ _).mono ?_
      rintro e w1 ⟨rfl, rfl⟩
      rw [HO.out]
      go_wp2_with fail
      refine (HT.out _).mono ?_
      rintro e w1 ⟨rfl, hx⟩
      have HX := Lib.hid ((Ext.alloc _ _).trans hx)
      clear hx
      go_wp2
      go_ret
      exact ⟨rfl, HX.out⟩
    · by_cases h3 : kd = 3
      · subst h3
        have HR := Lib.hid (fun W => row_may 0 400 n c 0 3 tg q s W (by omega) (by omega) hn)
        have hb : mayK 3 tg n s.size = rowB tg n s.size 0 400 0 := rfl
        rw [hb]
        have ho : ofV 3 = .iface 118 (.agg #[.int .i64 0, .int .i64 400, .int .i64 0]) := rfl
        have HO := Lib.hid ho
        clear hb ho hm1
        go_enter Try.func40, Try.ntmps40
        go_wp2_with fail
        refine (of_is _ _).mono ?_
        rintro e w1 ⟨rfl, rfl⟩
        rw [HO.out]
        go_wp2_with fail
        refine (HR.out _).mono ?_
        rintro e w1 ⟨rfl, hx⟩
        have HX := Lib.hid ((Ext.alloc _ _).trans hx)
        clear hx
        go_wp2
        go_ret
        exact ⟨rfl, HX.out⟩
      · by_cases h4 : kd = 4
        · subst h4
          have HR := Lib.hid (fun W => row_may 0 30 n c 59 4 tg q s W (by omega) (by omega) hn)
          have hb : mayK 4 tg n s.size = rowB tg n s.size 0 30 59 := rfl
          rw [hb]
          have ho : ofV 4 = .iface 118 (.agg #[.int .i64 0, .int .i64 30, .int .i64 59]) := rfl
          have HO := Lib.hid ho
          clear hb ho hm1
          go_enter Try.func40, Try.ntmps40
          go_wp2_with fail
          refine (of_is _ _).mono ?_
          rintro e w1 ⟨rfl, rfl⟩
          rw [HO.out]
          go_wp2_with fail
          refine (HR.out _).mono ?_
          rintro e w1 ⟨rfl, hx⟩
          have HX := Lib.hid ((Ext.alloc _ _).trans hx)
          clear hx
          go_wp2
          go_ret
          exact ⟨rfl, HX.out⟩
        · have hb : mayK kd tg n s.size = false := by unfold mayK; rw [if_neg h1, if_neg h2, if_neg h3, if_neg h4]
          have ho : ofV kd = .nilIface := by unfold ofV; rw [if_neg h1, if_neg h2, if_neg h3, if_neg h4]
          have HO := Lib.hid ho
          rw [hb]
          clear h1 h2 h3 h4 hb ho hm1 hm2
          go_enter Try.func40, Try.ntmps40
          go_wp2_with fail
          refine (of_is _ _).mono ?_
          rintro e w1 ⟨rfl, rfl⟩
          rw [HO.out]
          go_wp2
          go_ret
          exact ⟨rfl, Ext.alloc _ _⟩
end Go.Proofs.Ytlffmcadchbheaa
