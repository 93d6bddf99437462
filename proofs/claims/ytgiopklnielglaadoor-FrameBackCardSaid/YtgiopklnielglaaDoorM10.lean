/- Proved here: the contracts and laws of FrmM, FrmJ, FrmK, RigA, RigB, RigC of this claim, each beneath its own remark; conditions: those that each theorem names. -/
import Derived.Test.YtgiopklnielglaaDoorM3
import Derived.Test.YtgiopklnielglaaDoorM2
import Derived.Test.YtgiopklnielglaaDoorM8
import Derived.Deep.RegionHeld3
/- keep.LargeProgram, keep.LargeMachine. Printed by mkfrmm.py. -/
namespace Go.Proofs.YtgiopklnielglaaDoor
open Go.RowKit
set_option maxHeartbeats 8000000
set_option maxRecDepth 100000
/-- the lengths are within the reach -/
structure PgLt (x : PgI) : Prop where
  lf : x.funcs.length ≤ 140737488351232
  ls : x.strs.length ≤ 140737488351232
  lo : x.forms.length ≤ 140737488351232
  hf : ∀ y ∈ x.funcs, y.f.code.length ≤ 140737488351232
  ho : ∀ y ∈ x.forms, y.f.cons.length ≤ 140737488351232
def LargeSaid (a b c : Nat) (w : World) (e : Ending) (w' : World) : Prop := ∃ t, e = .returned (.bool t) ∧ (t = false → a ≤ 3000 ∧ b ≤ 3000 ∧ c ≤ 3000) ∧ Ext w w'
theorem largep_is {w : World} (x : PgI) (hx : PgP w x) (hl : PgLt x) : Calls Tryd.prog 4 #[.agg #[x.vf, x.vs, x.vo]] w (LargeSaid x.funcs.length x.strs.length x.forms.length w) := by
  obtain ⟨F, S, O, vf, vs, vo⟩ := x
  obtain ⟨pf, ps, po, hf, ho⟩ := hx
  obtain ⟨lf, ls, lo, hlf, hlo⟩ := hl
  dsimp only at pf ps po hf ho lf ls lo hlf hlo ⊢
  obtain ⟨qf, cf, rfl, hf1, hf2, hcf⟩ := pf.at
  obtain ⟨qs, cs, rfl, hs1, hs2, hcs⟩ := ps.at
  obtain ⟨qo, co, rfl, ho1, ho2, hco⟩ := po.at
  rw [List.length_map] at hf1 hs1 ho1 ⊢
  rw [List.length_map, List.length_map]
  have HCF := Lib.hid hcf; have HCS := Lib.hid hcs; have HCO := Lib.hid hco
  have HF := Lib.hid hf; have HO := Lib.hid ho; have HLF := Lib.hid hlf; have HLO := Lib.hid hlo
  clear pf ps po hcf hcs hco hf ho hlf hlo
  unfold maxLen at hf2 hs2 ho2
  go_enter Tryd.func4, Tryd.ntmps4
  go_upto_region 1 with fail
  refine wp_alloc1 fun W hE hS b0 => ?_
  have f0 : W.cell? ⟨w.heap.size, 0, none⟩ = some (.slice qf F.length cf) := cell_at b0 rfl
  have f1 : W.cell? ⟨w.heap.size, 1, none⟩ = some (.slice qs S.length cs) := cell_at b0 rfl
  have f2 : W.cell? ⟨w.heap.size, 2, none⟩ = some (.slice qo O.length co) := cell_at b0 rfl
  have HE := Lib.hid hE
  clear hE hS b0
  generalize w.heap.size = g at *
  go_wp2_with fail
  go_loopw [3, 4] (fun s i wr => ∃ k n : Nat, k ≤ F.length ∧ i = .int .i64 k ∧ s = .int .i64 n ∧ F.length + S.length + O.length ≤ n ∧ n ≤ 562949953421312 ∧ wr = W) (fun _ i _ => F.length - (Go.RowKit.intOf i).toNat)
  case atStart => exact ⟨0, F.length + S.length + O.length, by omega, rfl, by first | rfl | (congr 1; omega), by omega, by omega, by first | rfl | trivial⟩
  case round =>
    obtain ⟨k, n, hk, rfl, rfl, hn, hn2, rfl⟩ := hrel
    by_cases hlt : k < F.length
    · have i1 : (k : Int) < (F.length : Int) := by omega
      by_cases h3 : n ≤ 3000
      · have t1 : (n : Int) ≤ 3000 := by omega
        have t2 : decide (n ≤ 3000) = true := decide_eq_true h3
        obtain ⟨x, hxk⟩ : ∃ x, F[k]? = some x := ⟨_, List.getElem?_eq_getElem hlt⟩
        have hmem := List.mem_of_getElem? hxk
        obtain ⟨b, off, rfl, hcell⟩ := HCF.out k (fnC x) (by rw [List.getElem?_map, hxk]; rfl)
        have y2 := HE.out.cell (hcell 2 _ rfl)
        have hln := HLF.out x hmem
        obtain ⟨qx, cx, hv, -⟩ := RowsP.at (HF.out x hmem)
        rw [List.length_map] at hv
        rw [hv] at y2
        clear hcell hxk hmem hv
        generalize x.f.code.length = nx at hln y2
        go_wp2_with fail
        exact ⟨⟨k + 1, n + nx, by omega, by go_num, by go_num, by omega, by omega, by first | rfl | trivial⟩, by simp [Go.RowKit.intOf]; omega⟩
      · have t1 : ¬ (n : Int) ≤ 3000 := by omega
        have t2 : decide (n ≤ 3000) = false := decide_eq_false h3
        clear h3 HCF HF HLF
        go_wp2_with fail
        go_loopw [3, 5] (fun s i wx => ∃ k n : Nat, k ≤ S.length ∧ i = .int .i64 k ∧ s = .int .i64 n ∧ F.length + S.length + O.length ≤ n ∧ n ≤ 562949953421312 ∧ wx = wr) (fun _ i _ => S.length - (Go.RowKit.intOf i).toNat)
        case atStart => exact ⟨0, n, by omega, rfl, rfl, by omega, by omega, by first | rfl | trivial⟩
        case round =>
          obtain ⟨k, n, hk, rfl, rfl, hn, hn2, rfl⟩ := hrel
          by_cases hlt : k < S.length
          · have i1 : (k : Int) < (S.length : Int) := by omega
            by_cases h3 : n ≤ 3000
            · have t1 : (n : Int) ≤ 3000 := by omega
              have t2 : decide (n ≤ 3000) = true := decide_eq_true h3
              obtain ⟨x, hxk⟩ : ∃ x, S[k]? = some x := ⟨_, List.getElem?_eq_getElem hlt⟩
              obtain ⟨b, off, rfl, hcell⟩ := HCS.out k (stC x) (by rw [List.getElem?_map, hxk]; rfl)
              have y0 := HE.out.cell (hcell 0 _ rfl)
              rw [Nat.add_zero, Nat.mul_one] at y0
              clear hcell hxk
              by_cases h4 : x.size ≤ 3000
              · have t4 : (x.size : Int) ≤ 3000 := by omega
                go_wp2_with fail
                exact ⟨⟨k + 1, n + x.size, by omega, by go_num, by go_num, by omega, by omega, by first | rfl | trivial⟩, by simp [Go.RowKit.intOf]; omega⟩
              · have t4 : ¬ (x.size : Int) ≤ 3000 := by omega
                go_wp2_with fail
                exact ⟨⟨k + 1, n + 3000, by omega, by go_num, by go_num, by omega, by omega, by first | rfl | trivial⟩, by simp [Go.RowKit.intOf]; omega⟩
            · have t1 : ¬ (n : Int) ≤ 3000 := by omega
              have t2 : decide (n ≤ 3000) = false := decide_eq_false h3
              clear h3 HCS
              go_wp2_with fail
              go_loopw [3, 6] (fun s i wy => ∃ k n : Nat, k ≤ O.length ∧ i = .int .i64 k ∧ s = .int .i64 n ∧ F.length + S.length + O.length ≤ n ∧ n ≤ 562949953421312 ∧ wy = wr) (fun _ i _ => O.length - (Go.RowKit.intOf i).toNat)
              case atStart => exact ⟨0, n, by omega, rfl, rfl, by omega, by omega, by first | rfl | trivial⟩
              case round =>
                obtain ⟨k, n, hk, rfl, rfl, hn, hn2, rfl⟩ := hrel
                by_cases hlt : k < O.length
                · have i1 : (k : Int) < (O.length : Int) := by omega
                  by_cases h3 : n ≤ 3000
                  · have t1 : (n : Int) ≤ 3000 := by omega
                    have t2 : decide (n ≤ 3000) = true := decide_eq_true h3
                    obtain ⟨x, hxk⟩ : ∃ x, O[k]? = some x := ⟨_, List.getElem?_eq_getElem hlt⟩
                    have hmem := List.mem_of_getElem? hxk
                    obtain ⟨b, off, rfl, hcell⟩ := HCO.out k (foC x) (by rw [List.getElem?_map, hxk]; rfl)
                    have y2 := HE.out.cell (hcell 3 _ rfl)
                    have hln := HLO.out x hmem
                    obtain ⟨qx, cx, hv, -⟩ := RowsP.at (HO.out x hmem)
                    rw [List.length_map] at hv
                    rw [hv] at y2
                    clear hcell hxk hmem hv
                    generalize x.f.cons.length = nx at hln y2
                    go_wp2_with fail
                    exact ⟨⟨k + 1, n + nx, by omega, by go_num, by go_num, by omega, by omega, by first | rfl | trivial⟩, by simp [Go.RowKit.intOf]; omega⟩
                  · have t1 : ¬ (n : Int) ≤ 3000 := by omega
                    have t2 : decide (n ≤ 3000) = false := decide_eq_false h3
                    have t3 : decide (3000 < n) = true := decide_eq_true (by omega)
                    clear HCO HO HLO
                    go_wp2_with fail
                    go_ret
                    exact ⟨_, rfl, fun h => by simp at h <;> omega, HE.out⟩
                · obtain rfl : k = O.length := by omega
                  clear HCO HO HLO hlt
                  go_wp2_with fail
                  go_ret
                  exact ⟨_, rfl, fun h => by simp at h <;> omega, HE.out⟩
          · obtain rfl : k = S.length := by omega
            clear HCS hlt
            go_wp2_with fail
            go_loopw [3, 6] (fun s i wy => ∃ k n : Nat, k ≤ O.length ∧ i = .int .i64 k ∧ s = .int .i64 n ∧ F.length + S.length + O.length ≤ n ∧ n ≤ 562949953421312 ∧ wy = wr) (fun _ i _ => O.length - (Go.RowKit.intOf i).toNat)
            case atStart => exact ⟨0, n, by omega, rfl, rfl, by omega, by omega, by first | rfl | trivial⟩
            case round =>
              obtain ⟨k, n, hk, rfl, rfl, hn, hn2, rfl⟩ := hrel
              by_cases hlt : k < O.length
              · have i1 : (k : Int) < (O.length : Int) := by omega
                by_cases h3 : n ≤ 3000
                · have t1 : (n : Int) ≤ 3000 := by omega
                  have t2 : decide (n ≤ 3000) = true := decide_eq_true h3
                  obtain ⟨x, hxk⟩ : ∃ x, O[k]? = some x := ⟨_, List.getElem?_eq_getElem hlt⟩
                  have hmem := List.mem_of_getElem? hxk
                  obtain ⟨b, off, rfl, hcell⟩ := HCO.out k (foC x) (by rw [List.getElem?_map, hxk]; rfl)
                  have y2 := HE.out.cell (hcell 3 _ rfl)
                  have hln := HLO.out x hmem
                  obtain ⟨qx, cx, hv, -⟩ := RowsP.at (HO.out x hmem)
                  rw [List.length_map] at hv
                  rw [hv] at y2
                  clear hcell hxk hmem hv
                  generalize x.f.cons.length = nx at hln y2
                  go_wp2_with fail
                  exact ⟨⟨k + 1, n + nx, by omega, by go_num, by go_num, by omega, by omega, by first | rfl | trivial⟩, by simp [Go.RowKit.intOf]; omega⟩
                · have t1 : ¬ (n : Int) ≤ 3000 := by omega
                  have t2 : decide (n ≤ 3000) = false := decide_eq_false h3
                  have t3 : decide (3000 < n) = true := decide_eq_true (by omega)
                  clear HCO HO HLO
                  go_wp2_with fail
                  go_ret
                  exact ⟨_, rfl, fun h => by simp at h <;> omega, HE.out⟩
              · obtain rfl : k = O.length := by omega
                clear HCO HO HLO hlt
                go_wp2_with fail
                go_ret
                exact ⟨_, rfl, fun h => by simp at h <;> omega, HE.out⟩
    · obtain rfl : k = F.length := by omega
      clear HCF HF HLF hlt
      go_wp2_with fail
      go_loopw [3, 5] (fun s i wx => ∃ k n : Nat, k ≤ S.length ∧ i = .int .i64 k ∧ s = .int .i64 n ∧ F.length + S.length + O.length ≤ n ∧ n ≤ 562949953421312 ∧ wx = wr) (fun _ i _ => S.length - (Go.RowKit.intOf i).toNat)
      case atStart => exact ⟨0, n, by omega, rfl, rfl, by omega, by omega, by first | rfl | trivial⟩
      case round =>
        obtain ⟨k, n, hk, rfl, rfl, hn, hn2, rfl⟩ := hrel
        by_cases hlt : k < S.length
        · have i1 : (k : Int) < (S.length : Int) := by omega
          by_cases h3 : n ≤ 3000
          · have t1 : (n : Int) ≤ 3000 := by omega
            have t2 : decide (n ≤ 3000) = true := decide_eq_true h3
            obtain ⟨x, hxk⟩ : ∃ x, S[k]? = some x := ⟨_, List.getElem?_eq_getElem hlt⟩
            obtain ⟨b, off, rfl, hcell⟩ := HCS.out k (stC x) (by rw [List.getElem?_map, hxk]; rfl)
            have y0 := HE.out.cell (hcell 0 _ rfl)
            rw [Nat.add_zero, Nat.mul_one] at y0
            clear hcell hxk
            by_cases h4 : x.size ≤ 3000
            · have t4 : (x.size : Int) ≤ 3000 := by omega
              go_wp2_with fail
              exact ⟨⟨k + 1, n + x.size, by omega, by go_num, by go_num, by omega, by omega, by first | rfl | trivial⟩, by simp [Go.RowKit.intOf]; omega⟩
            · have t4 : ¬ (x.size : Int) ≤ 3000 := by omega
              go_wp2_with fail
              exact ⟨⟨k + 1, n + 3000, by omega, by go_num, by go_num, by omega, by omega, by first | rfl | trivial⟩, by simp [Go.RowKit.intOf]; omega⟩
          · have t1 : ¬ (n : Int) ≤ 3000 := by omega
            have t2 : decide (n ≤ 3000) = false := decide_eq_false h3
            clear h3 HCS
            go_wp2_with fail
            go_loopw [3, 6] (fun s i wy => ∃ k n : Nat, k ≤ O.length ∧ i = .int .i64 k ∧ s = .int .i64 n ∧ F.length + S.length + O.length ≤ n ∧ n ≤ 562949953421312 ∧ wy = wr) (fun _ i _ => O.length - (Go.RowKit.intOf i).toNat)
            case atStart => exact ⟨0, n, by omega, rfl, rfl, by omega, by omega, by first | rfl | trivial⟩
            case round =>
              obtain ⟨k, n, hk, rfl, rfl, hn, hn2, rfl⟩ := hrel
              by_cases hlt : k < O.length
              · have i1 : (k : Int) < (O.length : Int) := by omega
                by_cases h3 : n ≤ 3000
                · have t1 : (n : Int) ≤ 3000 := by omega
                  have t2 : decide (n ≤ 3000) = true := decide_eq_true h3
                  obtain ⟨x, hxk⟩ : ∃ x, O[k]? = some x := ⟨_, List.getElem?_eq_getElem hlt⟩
                  have hmem := List.mem_of_getElem? hxk
                  obtain ⟨b, off, rfl, hcell⟩ := HCO.out k (foC x) (by rw [List.getElem?_map, hxk]; rfl)
                  have y2 := HE.out.cell (hcell 3 _ rfl)
                  have hln := HLO.out x hmem
                  obtain ⟨qx, cx, hv, -⟩ := RowsP.at (HO.out x hmem)
                  rw [List.length_map] at hv
                  rw [hv] at y2
                  clear hcell hxk hmem hv
                  generalize x.f.cons.length = nx at hln y2
                  go_wp2_with fail
                  exact ⟨⟨k + 1, n + nx, by omega, by go_num, by go_num, by omega, by omega, by first | rfl | trivial⟩, by simp [Go.RowKit.intOf]; omega⟩
                · have t1 : ¬ (n : Int) ≤ 3000 := by omega
                  have t2 : decide (n ≤ 3000) = false := decide_eq_false h3
                  have t3 : decide (3000 < n) = true := decide_eq_true (by omega)
                  clear HCO HO HLO
                  go_wp2_with fail
                  go_ret
                  exact ⟨_, rfl, fun h => by simp at h <;> omega, HE.out⟩
              · obtain rfl : k = O.length := by omega
                clear HCO HO HLO hlt
                go_wp2_with fail
                go_ret
                exact ⟨_, rfl, fun h => by simp at h <;> omega, HE.out⟩
        · obtain rfl : k = S.length := by omega
          clear HCS hlt
          go_wp2_with fail
          go_loopw [3, 6] (fun s i wy => ∃ k n : Nat, k ≤ O.length ∧ i = .int .i64 k ∧ s = .int .i64 n ∧ F.length + S.length + O.length ≤ n ∧ n ≤ 562949953421312 ∧ wy = wr) (fun _ i _ => O.length - (Go.RowKit.intOf i).toNat)
          case atStart => exact ⟨0, n, by omega, rfl, rfl, by omega, by omega, by first | rfl | trivial⟩
          case round =>
            obtain ⟨k, n, hk, rfl, rfl, hn, hn2, rfl⟩ := hrel
            by_cases hlt : k < O.length
            · have i1 : (k : Int) < (O.length : Int) := by omega
              by_cases h3 : n ≤ 3000
              · have t1 : (n : Int) ≤ 3000 := by omega
                have t2 : decide (n ≤ 3000) = true := decide_eq_true h3
                obtain ⟨x, hxk⟩ : ∃ x, O[k]? = some x := ⟨_, List.getElem?_eq_getElem hlt⟩
                have hmem := List.mem_of_getElem? hxk
                obtain ⟨b, off, rfl, hcell⟩ := HCO.out k (foC x) (by rw [List.getElem?_map, hxk]; rfl)
                have y2 := HE.out.cell (hcell 3 _ rfl)
                have hln := HLO.out x hmem
                obtain ⟨qx, cx, hv, -⟩ := RowsP.at (HO.out x hmem)
                rw [List.length_map] at hv
                rw [hv] at y2
                clear hcell hxk hmem hv
                generalize x.f.cons.length = nx at hln y2
                go_wp2_with fail
                exact ⟨⟨k + 1, n + nx, by omega, by go_num, by go_num, by omega, by omega, by first | rfl | trivial⟩, by simp [Go.RowKit.intOf]; omega⟩
              · have t1 : ¬ (n : Int) ≤ 3000 := by omega
                have t2 : decide (n ≤ 3000) = false := decide_eq_false h3
                have t3 : decide (3000 < n) = true := decide_eq_true (by omega)
                clear HCO HO HLO
                go_wp2_with fail
                go_ret
                exact ⟨_, rfl, fun h => by simp at h <;> omega, HE.out⟩
            · obtain rfl : k = O.length := by omega
              clear HCO HO HLO hlt
              go_wp2_with fail
              go_ret
              exact ⟨_, rfl, fun h => by simp at h <;> omega, HE.out⟩
theorem largem_is {w : World} (s f h : Value) (a b c d st r co : Int) (S F H : List (List Value)) {k m n : Nat} (hs : RowsP w s k S) (hf : RowsP w f m F) (hh : RowsP w h n H) : Calls Tryd.prog 5 #[machV a b c d s f h st r co] w fun e w' => e = .returned (.bool (decide (400 < S.length) || decide (120 < F.length) || decide (100 < H.length))) ∧ Ext w w' := by
  obtain ⟨qs, cs, rfl, -⟩ := hs.at
  obtain ⟨qf, cf, rfl, -⟩ := hf.at
  obtain ⟨qh, ch, rfl, -⟩ := hh.at
  clear hs hf hh
  generalize S.length = s at *
  generalize F.length = f at *
  generalize H.length = h at *
  unfold machV
  by_cases h1 : 400 < s
  · have t1 : decide (400 < s) = true := decide_eq_true h1
    have t1' : (400 : Int) < s := by omega
    rw [t1]
    go_enter Tryd.func5, Tryd.ntmps5
    go_wp2_with fail
    go_ret
    exact ⟨rfl, Ext.alloc _ _⟩
  · have t1 : decide (400 < s) = false := decide_eq_false h1
    have t1' : ¬ (400 : Int) < s := by omega
    rw [t1]
    by_cases h2 : 120 < f
    · have t2 : decide (120 < f) = true := decide_eq_true h2
      have t2' : (120 : Int) < f := by omega
      rw [t2]
      go_enter Tryd.func5, Tryd.ntmps5
      go_wp2_with fail
      go_ret
      exact ⟨rfl, Ext.alloc _ _⟩
    · have t2 : decide (120 < f) = false := decide_eq_false h2
      have t2' : ¬ (120 : Int) < f := by omega
      rw [t2]
      go_enter Tryd.func5, Tryd.ntmps5
      go_wp2_with fail
      go_ret
      exact ⟨by first | rfl | (simp; omega), Ext.alloc _ _⟩
end Go.Proofs.YtgiopklnielglaaDoor
/- frame.WithRoots. -/
namespace Go.Proofs.YtgiopklnielglaaDoor
open Go.RowKit
set_option maxHeartbeats 4000000
set_option maxRecDepth 100000
/-- a value's own block, as a list -/
def fp (v : Value) : List Nat := v.ownBlock.toList
theorem mem_fp {v : Value} {b : Nat} : b ∈ fp v ↔ v.ownBlock = some b := by simp [fp]
def upd (F : List Fr) (X : Nat → Int) (k : Nat) : List Fr := F.mapIdx fun i x => if i < k then { x with self := X i } else x
theorem upd_length (F : List Fr) (X : Nat → Int) (k : Nat) : (upd F X k).length = F.length := by simp [upd]
theorem upd_zero (F : List Fr) (X : Nat → Int) : upd F X 0 = F := by
  apply List.ext_getElem? ; intro i
  simp [upd, List.getElem?_mapIdx]
theorem upd_at {F : List Fr} {X : Nat → Int} {k i : Nat} {x : Fr} (h : F[i]? = some x) : (upd F X k)[i]? = some (if i < k then { x with self := X i } else x) := by
  simp [upd, List.getElem?_mapIdx, h]
theorem upd_step {F : List Fr} {X : Nat → Int} {k : Nat} {x : Fr} (h : F[k]? = some x) : (upd F X k).set k { x with self := X k } = upd F X (k + 1) := by
  have hk : k < F.length := (List.getElem?_eq_some_iff.1 h).1
  apply List.ext_getElem?
  intro i
  rw [List.getElem?_set, upd_length]
  by_cases hi : k = i
  · subst hi
    rw [if_pos rfl, if_pos hk, upd_at h, if_pos (by omega)]
  · rw [if_neg hi]
    simp only [upd, List.getElem?_mapIdx]
    cases hF : F[i]? with
    | none => rfl
    | some y =>
      simp only [Option.map_some]
      by_cases h1 : i < k
      · rw [if_pos h1, if_pos (by omega)]
      · rw [if_neg h1, if_neg (by omega)]
theorem with_no {w : World} {s f h ro : Value} {S : List Int} {F : List Fr} {R : List Int} (hs : RowsP w s 1 (S.map wordC)) (hf : RowsP w f 4 (F.map frC)) (hr : RowsP w ro 1 (R.map wordC)) (lS : S.length ≤ 1000000) (lF : F.length ≤ 1000000) (_lR : R.length ≤ 4000000) (hne : R.length ≠ S.length + F.length + 1)
    (a b c d st r co a' b' c' d' : Int) (hq : ∃ q n k, h = .slice q n k) :
    Calls Tryd.prog 8 #[machV a b c d s f h st r co, .agg #[.int .i64 a', .int .i64 b', .int .i64 c', .int .i64 d'], ro] w fun e w' => e = .returned (.tuple #[machV 0 0 0 0 (.slice none 0 0) (.slice none 0 0) (.slice none 0 0) 0 0 0, .bool false]) ∧ Ext w w' := by
  obtain ⟨qs, ks, rfl, _, _, _⟩ := hs.at
  obtain ⟨qf, kf, rfl, _, _, _⟩ := hf.at
  obtain ⟨qr, kr, rfl, _, _, _⟩ := hr.at
  obtain ⟨qh, nh, kh, rfl⟩ := hq
  rw [List.length_map, List.length_map, List.length_map]
  clear hs hf hr
  have b1 : ((R.length : Int) == (S.length : Int) + (F.length : Int) + 1) = false := beq_false_of_ne (by omega)
  have b2 : ((R.length : Int) != (S.length : Int) + (F.length : Int) + 1) = true := by rw [bne, b1]; rfl
  clear hne
  unfold machV
  go_enter Tryd.func8, Tryd.ntmps8
  go_wp2_with fail
  exact bodyPost_ret (v := .tuple #[machV 0 0 0 0 (.slice none 0 0) (.slice none 0 0) (.slice none 0 0) 0 0 0, .bool false]) (by simp [results, Tryd.results8, go_sem, machV]) rfl ⟨rfl, ((Ext.alloc _ _).trans (Ext.alloc _ _)).trans (Ext.alloc _ _)⟩
/-- what WithRoots leaves -/
def WithDone (w : World) (a b c d : Int) (S : List Int) (F : List Fr) (H : List (List Value)) (X : Nat → Int) (st r co : Int) (e : Ending) (w' : World) : Prop :=
  ∃ s f h, e = .returned (.tuple #[machV a b c d s f h st r co, .bool true]) ∧ OwnP w' w.heap.size 32 s 1 (S.map wordC) ∧ OwnP w' w.heap.size 55 f 4 ((upd F X F.length).map frC) ∧ OwnP w' w.heap.size 53 h 3 H ∧ Ext w w'
theorem with_yes {w : World} {s f h ro : Value} {S : List Int} {F : List Fr} {H : List (List Value)} {R : List Int} (hs : RowsP w s 1 (S.map wordC)) (hf : RowsP w f 4 (F.map frC)) (hh : RowsP w h 3 H) (hr : RowsP w ro 1 (R.map wordC)) (lS : S.length ≤ 1000000) (lF : F.length ≤ 1000000) (lH : H.length ≤ 1000000) (hR : R.length = S.length + F.length + 1)
    (X : Nat → Int) (hX : ∀ i, i < F.length → R[S.length + i]? = some (X i)) (r' : Int) (hr' : R[S.length + F.length]? = some r') (a b c d st r co a' b' c' d' : Int) :
    Calls Tryd.prog 8 #[machV a b c d s f h st r co, .agg #[.int .i64 a', .int .i64 b', .int .i64 c', .int .i64 d'], ro] w (WithDone w a' b' c' d' (R.take S.length) F H X st r' co) := by
  have HS := Lib.hid hs; have HF := Lib.hid hf; have HH := Lib.hid hh; have HR := Lib.hid hr; have HX0 := Lib.hid hX; have HR' := Lib.hid hr'
  obtain ⟨qs, ks, rfl, _, _, _⟩ := hs.at
  obtain ⟨qf, kf, rfl, _, _, _⟩ := hf.at
  obtain ⟨qr, kr, rfl, hkr, hkrm, hcr⟩ := hr.at
  obtain ⟨qh, kh, rfl, _, _, _⟩ := hh.at
  have HCR := Lib.hid hcr
  rw [List.length_map, List.length_map, List.length_map] at *
  clear hs hf hr hh hX hr' hcr
  have b1 : ((S.length : Int) + (F.length : Int) + 1 == (S.length : Int) + (F.length : Int) + 1) = true := by simp
  have b2 : ((S.length : Int) + (F.length : Int) + 1 != (S.length : Int) + (F.length : Int) + 1) = false := by simp
  have HRL := Lib.hid hR
  rw [hR]
  clear hR
  unfold machV
  go_enter Tryd.func8, Tryd.ntmps8
  go_wp2_with fail
  refine at_alloc3 fun W hE hS b0 b1' b2' => ?_
  have ho := own_is (HS.out.ext hE) (HF.out.ext hE) (HH.out.ext hE) lS (by simpa using lF) lH a b c d st r co
  unfold machV at ho
  refine ho.mono ?_
  rintro e w1 ⟨s1, f1, h1, B1, B2, rfl, ho1, hb1, hf1, hb2, hh1, h3, h4, hx1⟩
  unfold machV
  have c0 := (Below.block hx1 w.heap.size (by omega)).trans b0
  have c1 := (Below.block hx1 (w.heap.size + 1) (by omega)).trans b1'
  have c2 := (Below.block hx1 (w.heap.size + 1 + 1) (by omega)).trans b2'
  have hsz := hx1.size
  rw [hS] at hsz h3 ho1
  have HX := Lib.hid (hE.trans hx1)
  obtain ⟨qs1, ks1, rfl, _, _⟩ := ho1.len
  obtain ⟨qf1, kf1, rfl, _, _⟩ := hf1.len
  obtain ⟨qh1, kh1, rfl, _, _⟩ := hh1.len
  rw [List.length_map] at ho1 hb1 hf1 hb2 ⊢
  rw [List.length_map]
  have HO1 := Lib.hid ho1; have HF1 := Lib.hid hf1; have HH1 := Lib.hid hh1; have HB1 := Lib.hid hb1; have HB2 := Lib.hid hb2
  clear ho ho1 hf1 hh1 hb1 hb2 hx1 hE b0 b1' b2' hS HS HF HH
  obtain ⟨m0, m1, m2, m3, m4, m5, m6, m7, m8, m9⟩ := cells10 c0
  have mf : ∀ i, w1.frozen? ⟨w.heap.size, i, none⟩ = false := fun i => free_at c0
  have C0 := Lib.hid c0; have C1 := Lib.hid c1; have C2 := Lib.hid c2
  clear c0 c1 c2
  go_upto_region 4 with fail
  refine wp_fill10 C0.out fun W2 c0 ht hs2 => ?_
  have c1 := (ht.block (w.heap.size + 1) (by omega) (by simp)).trans C1.out
  have c2 := (ht.block (w.heap.size + 1 + 1) (by omega) (by simp; omega)).trans C2.out
  have HX2 := Lib.hid (show Ext w W2 from (Turn.below (bs := [w.heap.size]) (Turn.trans (Turn.of_ext HX.out) ht) (Nat.le_refl _) (by simp)))
  have HO2 := Lib.hid (HO1.out.turn ht (fun b hb => by have := (HO1.out.own b hb).1; simp; omega))
  have HF2 := Lib.hid (HF1.out.turn ht (fun b hb => by have := (HF1.out.own b hb).1; simp; omega))
  have HH2 := Lib.hid (HH1.out.turn ht (fun b hb => by have := (HH1.out.own b hb).1; simp; omega))
  clear C0 C1 C2 HX HO1 HF1 HH1 ht m0 m1 m2 m3 m4 m5 m6 m7 m8 m9 mf
  rw [← hs2] at hsz
  clear hs2
  obtain ⟨m0, m1, m2, m3, m4, m5, m6, m7, m8, m9⟩ := cells10 c0
  obtain ⟨g0, g1, g2, g3⟩ := cells4 c1
  have mf : ∀ i, W2.frozen? ⟨w.heap.size, i, none⟩ = false := fun i => free_at c0
  have C0 := Lib.hid c0; have C2 := Lib.hid c2
  clear c0 c1 c2
  go_upto_region 5 with fail
  refine wp_gen (fun W => W.heap[w.heap.size]? = some (.cells #[.int .i64 a', .int .i64 b', .int .i64 c', .int .i64 d', .slice qs1 S.length ks1, .slice qf1 F.length kf1, .slice qh1 H.length kh1, .int .i64 st, .int .u64 r, .int .i64 co] 34 (0, 0)) ∧ Turn [w.heap.size] W2 W ∧ W.heap.size = W2.heap.size) ?_ ?_
  · refine ⟨by simp [World.setCell, Array.getElem?_modify, C0.out], ?_, by simp only [World.size_setCell]⟩
    iterate 4 refine Turn.setCell ?_ (.inl (by simp)) _
    exact Turn.refl _ _
  rintro W3 ⟨c0, ht, hs3⟩
  have c2 := (ht.block (w.heap.size + 1 + 1) (by omega) (by simp; omega)).trans C2.out
  have HX3 := Lib.hid (show Ext w W3 from (Turn.below (bs := [w.heap.size]) (Turn.trans (Turn.of_ext HX2.out) ht) (Nat.le_refl _) (by simp)))
  have HO3 := Lib.hid (HO2.out.turn ht (fun b hb => by have := (HO2.out.own b hb).1; simp; omega))
  have HF3 := Lib.hid (HF2.out.turn ht (fun b hb => by have := (HF2.out.own b hb).1; simp; omega))
  have HH3 := Lib.hid (HH2.out.turn ht (fun b hb => by have := (HH2.out.own b hb).1; simp; omega))
  clear C0 C2 HX2 HO2 HF2 HH2 ht m0 m1 m2 m3 m4 m5 m6 m7 m8 m9 mf g0 g1 g2 g3
  rw [← hs3] at hsz
  clear hs3
  obtain ⟨m0, m1, m2, m3, m4, m5, m6, m7, m8, m9⟩ := cells10 c0
  have C0 := Lib.hid c0; have C2 := Lib.hid c2
  clear c0 c2
  go_wp2_with (refine wpList_copy_rows E64 (by rfl) _ _ (by rfl) (w.heap.size + 1 + 1 + 1) (.slice qs1 S.length ks1) (.slice qr (S.length + F.length + 1) kr) (S.map wordC) (R.map wordC) (by rfl) HO3.out (by rfl) (by have h := HR.out.ext HX3.out; rw [HRL.out] at h; exact h) ?_)
  intro W4 ho4 hg4 hs4
  rw [show R.length.min S.length = S.length from Nat.min_eq_right (by rw [HRL.out]; omega)] at ho4 ⊢
  rw [List.drop_of_length_le (by simp), List.append_nil, ← List.map_take] at ho4
  have hne : ∀ g', (Value.slice qs1 S.length ks1).ownBlock = some g' → w.heap.size + 1 + 1 + 1 ≤ g' ∧ g' < B1 := fun g' hg' => ⟨(HO3.out.own g' hg').1, HB1.out g' hg'⟩
  have c0 := grown_block hg4 C0.out (fun e => by have := (hne _ e).1; omega)
  have c2 := grown_block hg4 C2.out (fun e => by have := (hne _ e).1; omega)
  have hF4 := HF3.out.grown hg4 (fun b hb e => by have := (hne _ e).2; have := (HF3.out.own b hb).1; omega)
  have hH4 := HH3.out.grown hg4 (fun b hb e => by have := (hne _ e).2; have := (HH3.out.own b hb).1; omega)
  have hx4 : Ext w W4 := Below.grown HX3.out hg4 HX3.out.size (fun b hb => by have := (hne b hb).1; omega)
  have C0' := Lib.hid c0; have C2' := Lib.hid c2; have HX4 := Lib.hid hx4; have HO4 := Lib.hid ho4; have HF4 := Lib.hid hF4; have HH4 := Lib.hid hH4; have HN := Lib.hid hne
  rw [← hs4] at hsz
  clear hs4 hg4 c0 c2 hx4 ho4 hF4 hH4 hne C0 C2 HX3 HO3 HF3 HH3 m0 m1 m2 m3 m4 m5 m6 m7 m8 m9
  obtain ⟨m0, m1, m2, m3, m4, m5, m6, m7, m8, m9⟩ := cells10 C0'.out
  go_wp2_with fail
  go_loopw [33] (fun i wr => ∃ k : Nat, k ≤ F.length ∧ i = .int .i64 k ∧ OwnP wr B1 55 (.slice qf1 F.length kf1) 4 ((upd F X k).map frC) ∧ Turn (fp (.slice qf1 F.length kf1)) W4 wr) (fun i _ => F.length - (Go.RowKit.intOf i).toNat)
  case atStart => exact ⟨0, by omega, rfl, by rw [upd_zero]; exact HF4.out, Turn.refl _ _⟩
  case round =>
    obtain ⟨k, hk, rfl, ho, ht⟩ := hrel
    have hfn : ∀ b, b ∈ fp (.slice qf1 F.length kf1) → B1 ≤ b ∧ b < B2 := fun b hb => ⟨(ho.own b (mem_fp.1 hb)).1, HB2.out b (mem_fp.1 hb)⟩
    have c0 := (ht.block w.heap.size (by omega) (fun hm => by have := (hfn _ hm).1; omega)).trans C0'.out
    have c2 := (ht.block (w.heap.size + 1 + 1) (by omega) (fun hm => by have := (hfn _ hm).1; omega)).trans C2'.out
    have hx : Ext w wr := Turn.below (Turn.trans (Turn.of_ext HX4.out) ht) (Nat.le_refl _) (fun b hb => by have := (hfn _ hb).1; omega)
    have hsr := ht.size
    clear m0 m1 m2 m3 m4 m5 m6 m7 m8 m9
    have HT := Lib.hid ht; have HO := Lib.hid ho; have HX := Lib.hid hx; have HFN := Lib.hid hfn; have D0 := Lib.hid c0; have D2 := Lib.hid c2
    clear ht ho hx hfn
    by_cases hlt : k < F.length
    · have hFk := List.getElem?_eq_getElem hlt
      generalize F[k] = x at hFk
      have hrk := HX0.out k hlt
      generalize hxv : X k = xv at hrk
      obtain ⟨br, off, rfl, hrc⟩ := HCR.out (S.length + k) (wordC xv) (by rw [List.getElem?_map, hrk]; rfl)
      have r0 := HX.out.cell (hrc 0 _ rfl)
      rw [Nat.add_zero, Nat.mul_one] at r0
      have hok := HO.out
      obtain ⟨gf, rfl, hgf, y0, yf⟩ := hok.cell (i := k) (f := 3) (by rw [List.getElem?_map, upd_at hFk]; rfl) (by rw [if_neg (by omega)]; rfl)
      have P5 : wr.cell? ⟨w.heap.size, 5, none⟩ = some (.slice (some ⟨gf, 0, none⟩) F.length kf1) := cell_at c0 rfl
      have HXV := Lib.hid hxv
      have HFK := Lib.hid hFk
      have hwr : IntKind.i64.wrap ((S.length : Int) + (k : Int)) = (S.length : Int) + (k : Int) := IntWalk.i64_in _ (by omega)
      have i0 : (0 : Int) ≤ (S.length : Int) + (k : Int) := by omega
      have i1 : (S.length : Int) + (k : Int) < (S.length : Int) + (F.length : Int) + 1 := by omega
      have i2 : ((S.length : Int) + (k : Int)).toNat = S.length + k := by omega
      have i3 : (k : Int) < (F.length : Int) := by omega
      clear hok hrc hrk hxv hFk c0 c2
      go_upto_region 9 with fail
      refine wp_region_noPanic ?_
      refine wp_region_last 11 (S := (fun w' => w'.cell? ⟨w.heap.size, 5, none⟩ = some (.slice (some ⟨gf, 0, none⟩) F.length kf1) ∧ w'.cell? ⟨br, off + (S.length + k), none⟩ = some (.int .u64 xv))) (by kernel_rfl) (by kernel_rfl) _ rfl ?_ (fun hHeld => ?_)
      · (exact ⟨(Ext.drew _).cell P5, (Ext.drew _).cell r0⟩)
      simp only [List.take_succ_cons, List.take_zero]
      refine wpAnyH_take (i := 0) (v := ?v1) rfl (by kernel_rfl) (by kernel_rfl) (by kernel_rfl) (fun _ _ _ h => h) (Or.inl ⟨by rfl, ?y1⟩) (by assumption) ?r1
      case y1 => intro w hSw; (try dsimp only at hSw); go_simp; (try with_reducible rfl)
      (try simp only [Act.put, List.setIfInBounds_toArray, List.set_cons_zero, List.set_cons_succ, List.getElem_toArray, List.getElem_cons_zero, List.getElem_cons_succ])
      refine wpAnyH_take (i := 1) (v := ?v2) rfl (by kernel_rfl) (by kernel_rfl) (by kernel_rfl) (fun _ _ _ h => h) (Or.inl ⟨by rfl, ?y2⟩) (by assumption) ?r2
      case y2 => intro w hSw; (try dsimp only at hSw); go_simp; (try with_reducible rfl)
      (try simp only [Act.put, List.setIfInBounds_toArray, List.set_cons_zero, List.set_cons_succ, List.getElem_toArray, List.getElem_cons_zero, List.getElem_cons_succ])
      refine wpAnyH_take (i := 2) (v := ?v3) rfl (by kernel_rfl) (by kernel_rfl) (by kernel_rfl) (fun _ _ _ h => h) (Or.inl ⟨by rfl, ?y3⟩) (by assumption) ?r3
      case y3 => intro w hSw; (try dsimp only at hSw); go_simp; (try with_reducible rfl)
      (try simp only [Act.put, List.setIfInBounds_toArray, List.set_cons_zero, List.set_cons_succ, List.getElem_toArray, List.getElem_cons_zero, List.getElem_cons_succ])
      refine wpAnyH_take (i := 3) (v := ?v4) rfl (by kernel_rfl) (by kernel_rfl) (by kernel_rfl) (fun _ _ _ h => h) (Or.inl ⟨by rfl, ?y4⟩) (by assumption) ?r4
      case y4 => intro w hSw; (try dsimp only at hSw); go_simp; (try with_reducible rfl)
      (try simp only [Act.put, List.setIfInBounds_toArray, List.set_cons_zero, List.set_cons_succ, List.getElem_toArray, List.getElem_cons_zero, List.getElem_cons_succ])
      refine wpAnyH_take (i := 4) (v := ?v5) rfl (by kernel_rfl) (by kernel_rfl) (by kernel_rfl) (fun _ _ _ h => h) (Or.inl ⟨by rfl, ?y5⟩) (by assumption) ?r5
      case y5 => intro w hSw; (try dsimp only at hSw); go_simp; (try with_reducible rfl)
      (try simp only [Act.put, List.setIfInBounds_toArray, List.set_cons_zero, List.set_cons_succ, List.getElem_toArray, List.getElem_cons_zero, List.getElem_cons_succ])
      refine wpAnyH_take (i := 5) (v := ?v6) rfl (by kernel_rfl) (by kernel_rfl) (by kernel_rfl) (fun _ _ _ h => h) (Or.inl ⟨by rfl, ?y6⟩) (by assumption) ?r6
      case y6 => intro w hSw; (try dsimp only at hSw); go_simp; (try with_reducible rfl)
      (try simp only [Act.put, List.setIfInBounds_toArray, List.set_cons_zero, List.set_cons_succ, List.getElem_toArray, List.getElem_cons_zero, List.getElem_cons_succ])
      refine wpAnyH_take (i := 6) (v := ?v7) rfl (by kernel_rfl) (by kernel_rfl) (by kernel_rfl) (fun _ _ _ h => h) (Or.inl ⟨by rfl, ?y7⟩) (by assumption) ?r7
      case y7 => intro w hSw; (try dsimp only at hSw); go_simp; (try with_reducible rfl)
      (try simp only [Act.put, List.setIfInBounds_toArray, List.set_cons_zero, List.set_cons_succ, List.getElem_toArray, List.getElem_cons_zero, List.getElem_cons_succ])
      refine wpAnyH_take (i := 7) (v := ?v8) rfl (by kernel_rfl) (by kernel_rfl) (by kernel_rfl) (fun _ _ _ h => h) (Or.inl ⟨by rfl, ?y8⟩) (by assumption) ?r8
      case y8 => intro w hSw; (try dsimp only at hSw); go_simp; (try with_reducible rfl)
      (try simp only [Act.put, List.setIfInBounds_toArray, List.set_cons_zero, List.set_cons_succ, List.getElem_toArray, List.getElem_cons_zero, List.getElem_cons_succ])
      refine wpAnyH_take (i := 8) (v := ?v9) rfl (by kernel_rfl) (by kernel_rfl) (by kernel_rfl) (fun _ _ _ h => h) (Or.inl ⟨by rfl, ?y9⟩) (by assumption) ?r9
      case y9 => intro w hSw; (try dsimp only at hSw); go_simp; (try with_reducible rfl)
      (try simp only [Act.put, List.setIfInBounds_toArray, List.set_cons_zero, List.set_cons_succ, List.getElem_toArray, List.getElem_cons_zero, List.getElem_cons_succ])
      refine wpAnyH_take (i := 9) (v := ?v10) rfl (by kernel_rfl) (by kernel_rfl) (by kernel_rfl) (fun _ _ _ h => h) (Or.inl ⟨by rfl, ?y10⟩) (by assumption) ?r10
      case y10 => intro w hSw; (try dsimp only at hSw); go_simp; (try with_reducible rfl)
      (try simp only [Act.put, List.setIfInBounds_toArray, List.set_cons_zero, List.set_cons_succ, List.getElem_toArray, List.getElem_cons_zero, List.getElem_cons_succ])
      refine wpAnyH_take (i := 10) (v := ?v11) rfl (by kernel_rfl) (by kernel_rfl) (by kernel_rfl) (fun _ _ _ h => h) (Or.inl ⟨by rfl, ?y11⟩) (by assumption) ?r11
      case y11 => intro w hSw; (try dsimp only at hSw); go_simp; (try with_reducible rfl)
      (try simp only [Act.put, List.setIfInBounds_toArray, List.set_cons_zero, List.set_cons_succ, List.getElem_toArray, List.getElem_cons_zero, List.getElem_cons_succ])
      refine wpAnyH_done (by kernel_rfl) ?_ _
      show wpList _ _ _ _ _ _
      go_wp2
      refine NoPanic.normal ?_
      go_wp2
      refine ⟨⟨k + 1, by omega, by go_num, ?_, ?_⟩, by simp [Go.RowKit.intOf]; omega⟩
      · have hst := (HO.out.ext (Ext.drew wr)).store (i := k) (f := 3) (cs := frC x) (u := .int .u64 xv) (by rw [List.getElem?_map, upd_at HFK.out, if_neg (by omega)]; rfl) (by omega) rfl
        have hup := upd_step (X := X) HFK.out
        rw [HXV.out] at hup
        have e2 : ((upd F X k).map frC).set k ((frC x).set 3 (.int .u64 xv)) = (upd F X (k + 1)).map frC := by rw [← hup, List.map_set]; rfl
        rw [e2] at hst
        exact hst
      · exact (HT.out.trans (Turn.of_ext (Ext.drew _))).setCell (.inl (by simp [fp, Value.ownBlock])) _
    · obtain rfl : k = F.length := by omega
      obtain ⟨br, off, rfl, hrc⟩ := HCR.out (S.length + F.length) (wordC r') (by rw [List.getElem?_map, HR'.out]; rfl)
      have r0 := HX.out.cell (hrc 0 _ rfl)
      rw [Nat.add_zero, Nat.mul_one] at r0
      obtain ⟨m0, m1, m2, m3, m4, m5, m6, m7, m8, m9⟩ := cells10 c0
      have mf : ∀ i, wr.frozen? ⟨w.heap.size, i, none⟩ = false := fun i => free_at c0
      obtain ⟨z0, z1, z2, z3, z4, z5, z6, z7, z8, z9⟩ := cells10 c2
      have zf : ∀ i, wr.frozen? ⟨w.heap.size + 1 + 1, i, none⟩ = false := fun i => free_at c2
      have i0 : (0 : Int) ≤ (S.length : Int) + (F.length : Int) := by omega
      have i1 : (S.length : Int) + (F.length : Int) < (S.length : Int) + (F.length : Int) + 1 := by omega
      have i2 : ((S.length : Int) + (F.length : Int)).toNat = S.length + F.length := by omega
      clear hrc c0 c2
      go_wp2_with fail
      refine bodyPost_ret (v := .tuple #[machV a' b' c' d' (.slice qs1 S.length ks1) (.slice qf1 F.length kf1) (.slice qh1 H.length kh1) st r' co, .bool true]) (by simp [results, Tryd.results8, go_sem, z0, z1, z2, z3, z4, z5, z6, z7, z8, z9, machV]) rfl ?_
      have n0 : w.heap.size ≤ w.heap.size := Nat.le_refl _
      have n2 : w.heap.size ≤ w.heap.size + 1 + 1 := by omega
      have hs' := HO4.out.turn HT.out (fun b hb hm => by have := (HFN.out b hm).1; have := (HN.out b hb).2; omega)
      have hh' := HH4.out.turn HT.out (fun b hb hm => by have := (HFN.out b hm).2; have := (HH4.out.own b hb).1; omega)
      refine ⟨_, _, _, rfl, (hs'.turn (bs := [w.heap.size, w.heap.size + 1 + 1]) ?_ (fun b hb => by have := (HN.out b hb).1; simp; omega)).mono (by omega), (HO.out.turn (bs := [w.heap.size, w.heap.size + 1 + 1]) ?_ (fun b hb => by have := (HO.out.own b hb).1; simp; omega)).mono (by omega), (hh'.turn (bs := [w.heap.size, w.heap.size + 1 + 1]) ?_ (fun b hb => by have := (hh'.own b hb).1; simp; omega)).mono (by omega), ?_⟩
      · iterate 11 refine Turn.setCell ?_ (.inl (by simp)) _
        exact Turn.refl _ _
      · iterate 11 refine Turn.setCell ?_ (.inl (by simp)) _
        exact Turn.refl _ _
      · iterate 11 refine Turn.setCell ?_ (.inl (by simp)) _
        exact Turn.refl _ _
      · iterate 10 refine Below.setCell ?_ n2 _
        refine Below.setCell ?_ n0 _
        exact HX.out
end Go.Proofs.YtgiopklnielglaaDoor
/- wakes of layer 11. -/
namespace Go.Proofs.YtgiopklnielglaaDoor
open Go.RowKit
set_option maxHeartbeats 4000000
set_option maxRecDepth 100000
theorem small_is {w : World} {b : Nat} : Calls Tryd.prog 18 #[.slice (some ⟨b, 0, none⟩) 2 2] w fun e w' => ∃ p, e = .returned (.agg #[.slice (some ⟨p, 0, none⟩) 1 1, .slice none 0 0, .slice none 0 0]) ∧ w'.heap[p]? = some (.cells #[.int .i64 0, .int .i64 0, .slice (some ⟨b, 0, none⟩) 2 2] 61 (0, 0)) ∧ Ext w w' := by
  go_enter Tryd.func18, Tryd.ntmps18
  go_wp2_with fail
  refine bodyPost_ret (v := .agg #[.slice (some ⟨w.heap.size + 1, 0, none⟩) 1 1, .slice none 0 0, .slice none 0 0]) (by simp [results, Tryd.results18, go_sem]) rfl ⟨_, rfl, ?_, (Ext.alloc _ _).trans (Ext.alloc _ _)⟩
  exact new_block (by simp)
theorem rows_one {w : World} {g : Nat} {x : Fr} (h : w.heap[g]? = some (.cells #[.int .i64 x.fn, .int .i64 x.pc, .int .i64 x.base, .int .u64 x.self] 55 (0, 0))) : RowsP w (.slice (some ⟨g, 0, none⟩) 1 1) 4 ([x].map frC) :=
  rows_of_block h rfl (by intro u hu; simp at hu; rcases hu with rfl | rfl | rfl | rfl <;> rfl)
theorem words_of_block {w : World} {g : Nat} {cs : Array Value} {T : TypeId} {fr : Nat × Nat} {L : List Int} (h : w.heap[g]? = some (.cells cs T fr)) (hc : cs.toList = L.map fun x => Value.int .u64 x) (hl : L.length ≤ 1000000) : RowsP w (.slice (some ⟨g, 0, none⟩) L.length L.length) 1 (L.map wordC) := by
  refine ⟨wordC_rows L, .inr ⟨g, 0, L.length, by rw [List.length_map], by rw [List.length_map]; exact Nat.le_refl _, by unfold maxLen; omega, fun j u hu => ?_⟩⟩
  rw [wordC_flat, ← hc] at hu
  simpa [World.cell?, h] using hu
theorem WordSl.turn {w w' : World} {v : Value} {l : List Int} {bs : List Nat} (h : WordSl w v l) (t : Turn bs w w') (hn : ∀ b, v.ownBlock = some b → b ∉ bs) : WordSl w' v l := by
  obtain ⟨q, c, rfl, h1, h2, hc⟩ := h
  refine ⟨q, c, rfl, h1, h2, fun i x hx => ?_⟩
  obtain ⟨b, off, rfl, hcc⟩ := hc i x hx
  exact ⟨b, off, rfl, t.cell (hn b rfl) hcc⟩
theorem intW4 : intW 4 = 9 := by decide
theorem wrapWm3 : wrapW (-3) = -3 := by decide +kernel
theorem wakes_is (w : World) (hk : FrmLie w) : Calls Tryd.prog 6 #[] w (TrueExt w) := by
  have HK := Lib.hid hk
  clear hk
  go_enter Tryd.func6, Tryd.ntmps6
  go_wp2_with fail
  refine at_alloc1 fun W hE hS b0 => ?_
  refine small_is.mono ?_
  rintro e w1 ⟨p, rfl, hp, hx1⟩
  have hti : TwoIns w1 w.heap.size := by
    intro j u hu
    refine cell_at ((Below.block hx1 w.heap.size (by omega)).trans b0) ?_
    simpa using hu
  have hof : OneFunc w1 p := ⟨w.heap.size, hti, cell_at hp rfl, cell_at hp rfl, cell_at hp rfl⟩
  have HX1 := Lib.hid (hE.trans hx1)
  have HOF := Lib.hid hof
  clear hE hS b0 hp hx1 hti hof
  go_wp2_with fail
  refine at_alloc1 fun W2 hE hS b0 => ?_
  have HX2 := Lib.hid (HX1.out.trans hE)
  refine (start_is (HK.out.ext HX2.out) (HOF.out.ext hE) 0 9 0 0).mono ?_
  rintro e w3 ⟨fb, rfl, hx3, hfb, hfr⟩
  have HX3 := Lib.hid (HX2.out.trans hx3)
  have hfbm : fb < w3.heap.size := (Array.getElem?_eq_some_iff.1 hfr).1
  have HFR := Lib.hid hfr
  have hwm : w.heap.size ≤ w3.heap.size := HX3.out.size
  clear hE hS b0 hx3 hfb hfr HX1 HX2 HOF
  go_wp2_with fail
  refine at_alloc1 fun W3 hE hS b0 => ?_
  have hr := roots_is (h := .slice none 0 0) (S := []) (F := [⟨0, 0, 0, 1⟩]) (RowsP.nil W3 1) (rows_one (x := ⟨0, 0, 0, 1⟩) ((Below.block hE fb (by omega)).trans HFR.out)) (by simp) (by simp) 0 9 0 0 0 1 0
  unfold machV at hr
  refine hr.mono ?_
  clear hr
  rintro e w4 ⟨vr, rfl, hvr, hx4⟩
  have hvo := hvr.own
  have hvr' : WordSl w4 vr [1, 1] := WordSl.of_rows hvr.p
  have HVR := Lib.hid hvr'
  obtain ⟨qv, cv, hv, _⟩ := hvr'
  replace hv : vr = .slice qv 2 cv := hv
  subst hv
  have HQB := Lib.hid (show ∀ b, (Value.slice qv 2 cv).ownBlock = some b → w3.heap.size < b ∧ b < w4.heap.size from fun b hb => ⟨by have := (hvo b hb).1; omega, (hvo b hb).2⟩)
  clear hvo
  have HX4 := Lib.hid (HX3.out.trans (hE.trans hx4))
  have HFR4 := Lib.hid ((Below.block (hE.trans hx4) fb (by omega)).trans HFR.out)
  have hb4 := (Below.block hx4 w3.heap.size (by omega)).trans b0
  have hmb : w3.heap.size < w4.heap.size := by have := hx4.size; omega
  clear hE hS b0 hx4 hvr HX3 HFR
  generalize w3.heap.size = mb at *
  have HM4 := Lib.hid hb4
  obtain ⟨m0, m1, m2, m3, m4, m5, m6, m7, m8, m9⟩ := cells10 hb4
  clear hb4
  go_wp2_with fail
  refine at_alloc1 fun W4 hE hS b0 => ?_
  have hr := with_yes (S := []) (F := [⟨0, 0, 0, 1⟩]) (H := []) (R := [5, 7]) (RowsP.nil W4 1) (rows_one (x := ⟨0, 0, 0, 1⟩) ((Below.block hE fb (by omega)).trans HFR4.out)) (RowsP.nil W4 3) (words_of_block (L := [5, 7]) b0 rfl (by simp)) (by simp) (by simp) (by simp) rfl (fun _ => 5) (by intro i hi; simp at hi; subst hi; rfl) 7 rfl 0 9 0 0 0 1 0 0 9 0 0
  unfold machV at hr
  refine hr.mono ?_
  clear hr
  rintro e w5 ⟨s5, f5, h5, rfl, hs5, hf5, hh5, hx5⟩
  unfold machV
  replace hs5 : RowsP w5 s5 1 [] := hs5.p
  have hfo := hf5.own
  replace hh5 := hh5.p
  replace hf5 : RowsP w5 f5 4 [[.int .i64 0, .int .i64 0, .int .i64 0, .int .u64 5]] := hf5.p
  have HF5 := Lib.hid hf5
  obtain ⟨qs5, cs5, rfl, _, _, _⟩ := hs5.at
  obtain ⟨qf5, cf5, rfl, _, _, hcf5⟩ := hf5.at
  obtain ⟨qh5, ch5, rfl, _, _, _⟩ := hh5.at
  simp only [List.length_nil, List.length_singleton] at *
  obtain ⟨bf5, of5, rfl, hy5⟩ := hcf5 0 _ rfl
  have y5 := hy5 3 _ rfl
  have hbf5 : mb < bf5 ∧ bf5 < w5.heap.size := by have := hfo bf5 rfl; omega
  clear hfo
  have HX5 := Lib.hid (HX4.out.trans (hE.trans hx5))
  have HFR5 := Lib.hid ((Below.block (hE.trans hx5) fb (by omega)).trans HFR4.out)
  have hb5 := (Below.block (hE.trans hx5) mb hmb).trans HM4.out
  have HVR5 := Lib.hid (HVR.out.ext (hE.trans hx5))
  have hmb5 : mb < w5.heap.size := by have := (hE.trans hx5).size; omega
  clear hE hS b0 hx5 hs5 hf5 hh5 hcf5 HX4 HFR4 HM4 HVR hmb m0 m1 m2 m3 m4 m5 m6 m7 m8 m9 hy5
  have HM5 := Lib.hid hb5
  obtain ⟨m0, m1, m2, m3, m4, m5, m6, m7, m8, m9⟩ := cells10 hb5
  clear hb5
  go_wp2_with fail
  refine at_alloc1 fun W6 hE hS b0 => ?_
  have hr := with_no (S := []) (F := [⟨0, 0, 0, 1⟩]) (R := []) (RowsP.nil W6 1) (rows_one (x := ⟨0, 0, 0, 1⟩) ((Below.block hE fb (by omega)).trans HFR5.out)) (RowsP.nil W6 1) (by simp) (by simp) (by simp) (by simp) 0 9 0 0 0 1 0 0 9 0 0 ⟨none, 0, 0, rfl⟩
  unfold machV at hr
  refine hr.mono ?_
  clear hr
  rintro e w7 ⟨rfl, hx7⟩
  have HX7 := Lib.hid (HX5.out.trans (hE.trans hx7))
  have HFR7 := Lib.hid ((Below.block (hE.trans hx7) fb (by omega)).trans HFR5.out)
  have hb7 := (Below.block (hE.trans hx7) mb hmb5).trans HM5.out
  have ht7 := (Below.block hx7 w5.heap.size (by omega)).trans b0
  have HVR7 := Lib.hid (HVR5.out.ext (hE.trans hx7))
  have Y7 := Lib.hid ((hE.trans hx7).cell y5)
  have hmb7 : mb < w7.heap.size := by have := (hE.trans hx7).size; omega
  have hmt7 : mb < w5.heap.size ∧ w5.heap.size < w7.heap.size := by have := hx7.size; omega
  clear hE hS b0 hx7 HX5 HFR5 HM5 HVR5 hmb5 HF5 y5 m0 m1 m2 m3 m4 m5 m6 m7 m8 m9
  generalize w5.heap.size = tb at *
  have HM7 := Lib.hid hb7; have HT7 := Lib.hid ht7
  obtain ⟨m0, m1, m2, m3, m4, m5, m6, m7, m8, m9⟩ := cells10 hb7
  clear hb7 ht7
  go_wp2_with fail
  refine at_alloc1 fun W8 hE hS b0 => ?_
  have hr := throw_none (S := []) (F := [.int .i64 0, .int .i64 0, .int .i64 0, .int .u64 1] :: []) (RowsP.nil W8 1) (rows_one (x := ⟨0, 0, 0, 1⟩) ((Below.block hE fb (by omega)).trans HFR7.out)) (RowsP.nil W8 3) (by simp) (by simp) 0 9 0 0 0 1 0 (-3)
  unfold machV at hr
  refine hr.mono ?_
  clear hr
  rintro e w9 ⟨h9, rfl, hh9, hx9⟩
  unfold machV
  obtain ⟨qh9, ch9, rfl, _, _, _⟩ := hh9.p.at
  rw [List.length_nil]
  have HX9 := Lib.hid (HX7.out.trans (hE.trans hx9))
  have HFR9 := Lib.hid ((Below.block (hE.trans hx9) fb (by omega)).trans HFR7.out)
  have hb9 := (Below.block (hE.trans hx9) mb hmb7).trans HM7.out
  have ht9 := (Below.block (hE.trans hx9) tb hmt7.2).trans HT7.out
  have HVR9 := Lib.hid (HVR7.out.ext (hE.trans hx9))
  have Y9 := Lib.hid ((hE.trans hx9).cell Y7.out)
  have hmb9 : mb < w9.heap.size := by have := (hE.trans hx9).size; omega
  have hmt9 : tb < w9.heap.size := by have := (hE.trans hx9).size; omega
  clear hE hS b0 hx9 HX7 HFR7 HM7 HVR7 hmb7 HT7 Y7 m0 m1 m2 m3 m4 m5 m6 m7 m8 m9
  have HM9 := Lib.hid hb9; have HT9 := Lib.hid ht9
  clear hb9 ht9
  go_upto_region 7 with fail
  refine wp_alloc1 fun W10 hE hS b0 => ?_
  have hb10 := (Below.block hE mb hmb9).trans HM9.out
  obtain ⟨m0, m1, m2, m3, m4, m5, m6, m7, m8, m9⟩ := cells10 hb10
  have mf : ∀ i, W10.frozen? ⟨mb, i, none⟩ = false := fun i => free_at hb10
  have HX10 := Lib.hid (HX9.out.trans hE)
  have HFR10 := Lib.hid ((Below.block hE fb (by omega)).trans HFR9.out)
  have HT10 := Lib.hid ((Below.block hE tb hmt9).trans HT9.out)
  have HVR10 := Lib.hid (HVR9.out.ext hE)
  have Y10 := Lib.hid (hE.cell Y9.out)
  have HU10 := Lib.hid b0
  have HM10 := Lib.hid hb10
  have hmb10 : mb < W10.heap.size := by omega
  have htb10 : tb < W10.heap.size := by omega
  have hub10 : w9.heap.size < W10.heap.size := by omega
  clear hE hS b0 hb10 HX9 HFR9 HM9 HT9 HVR9 Y9
  generalize w9.heap.size = ub at *
  go_upto_region 8 with fail
  refine wp_gen (fun W => W.heap[mb]? = some (.cells #[.int .i64 0, .int .i64 9, .int .i64 0, .int .i64 0, .slice none 0 0, .slice (some ⟨fb, 0, none⟩) 1 1, .slice (some ⟨W10.heap.size, 0, none⟩) 1 1, .int .i64 0, .int .u64 1, .int .i64 0] 34 (0, 0)) ∧
    W.heap[W10.heap.size]? = some (.cells #[.int .i64 1, .int .i64 0, .int .i64 1] 53 (0, 0)) ∧ Turn [mb] W10 W) ?_ ?_
  · refine ⟨?_, new_block (by simp), (((Turn.refl _ _).setCell (.inl (by simp)) _).trans (Turn.of_ext (Ext.alloc _ _)))⟩
    rw [Below.block (Ext.alloc _ _) mb (by simpa using hmb10)]
    exact (Go.Lib.heap_setCell_same HM10.out _).trans rfl
  rintro W11 ⟨hb11, hh11, ht11⟩
  have hfr11 : RowsP W11 (.slice (some ⟨fb, 0, none⟩) 1 1) 4 ([⟨0, 0, 0, 1⟩].map frC) := rows_one (x := ⟨0, 0, 0, 1⟩) (by rw [ht11.block fb (by omega) (by simp; omega)]; exact HFR10.out)
  have hhr : RowsP W11 (.slice (some ⟨W10.heap.size, 0, none⟩) 1 1) 3 ([] ++ [[.int .i64 (((0 : Nat) : Int) + 1), .int .i64 ((0 : Nat) : Int), .int .i64 1]]) := rows_of_block hh11 rfl (by intro u hu; simp at hu; rcases hu with rfl | rfl | rfl <;> rfl)
  have hsz11 := ht11.size
  have hx11 : Ext w W11 := Turn.below (Turn.trans (Turn.of_ext HX10.out) ht11) (Nat.le_refl _) (by intro b hb; simp at hb; subst hb; omega)
  have HX11 := Lib.hid hx11
  have htb11 := (ht11.block tb htb10 (by simp; omega)).trans HT10.out
  have hub11 := (ht11.block ub hub10 (by simp; omega)).trans HU10.out
  have hy11 : W11.cell? ⟨bf5, of5 + 0 * 4 + 3, none⟩ = some (.int .u64 5) := Turn.cell ht11 (by simp; omega) Y10.out
  have HB11 := Lib.hid hb11; have HT11 := Lib.hid htb11; have HU11 := Lib.hid hub11; have HY11 := Lib.hid hy11; have HH11 := Lib.hid hhr; have HF11 := Lib.hid hfr11
  have HV11 := Lib.hid (HVR10.out.turn ht11 (fun b hb => by have := (HQB.out b hb).1; simp; omega))
  clear hb11 htb11 hub11 hy11 hhr hfr11 hh11 hx11 ht11 m0 m1 m2 m3 m4 m5 m6 m7 m8 m9 mf HX10 HFR10 HT10 HVR10 Y10 HU10 HM10
  obtain ⟨m0, m1, m2, m3, m4, m5, m6, m7, m8, m9⟩ := cells10 HB11.out
  go_wp2_with fail
  have hr := throw_yes (S := []) (F := [⟨0, 0, 0, 1⟩].map frC) (H0 := []) (j := 0) (p := 0) (pc := 1) (fc := frC ⟨0, 0, 0, 1⟩) (RowsP.nil W11 1) HF11.out HH11.out rfl (by simp) (by simp) (by simp) (by simp) 0 9 0 0 0 1 0 4
  unfold machV at hr
  refine hr.mono ?_
  clear hr
  rintro e w12 ⟨s12, f12, h12, rfl, hs12, hf12, hh12, hx12⟩
  unfold machV
  have hsw : WordSl w12 s12 [9] := by
    have h := WordSl.of_rows (l := [intW 4]) hs12.p
    rw [intW4] at h; exact h
  obtain ⟨qs, cs, hqs, _⟩ := hs12.len
  replace hqs : s12 = .slice qs 1 cs := hqs
  subst hqs
  obtain ⟨qf, cf, hqf, _⟩ := hf12.len
  replace hqf : f12 = .slice qf 1 cf := hqf
  subst hqf
  obtain ⟨qh, ch, hqh, _⟩ := hh12.len
  replace hqh : h12 = .slice qh 0 ch := hqh
  subst hqh
  obtain ⟨gf, rfl, _, x1, _⟩ := hf12.cell (i := 0) (f := 1) (u := .int .i64 1) rfl rfl
  have xt := (Below.block hx12 tb (by omega)).trans HT11.out
  have xu := (Below.block hx12 ub (by omega)).trans HU11.out
  have xb := (Below.block hx12 mb (by omega)).trans HB11.out
  have xy := hx12.cell HY11.out
  have HX12 := Lib.hid (HX11.out.trans hx12)
  have HV12 := Lib.hid (HV11.out.ext hx12)
  have HS12 := Lib.hid hsw
  have hsz12 := hx12.size
  clear hsw hs12 hf12 hh12 hx12 HX11 HV11 HB11 HT11 HU11 HY11 HH11 HF11 m0 m1 m2 m3 m4 m5 m6 m7 m8 m9
  rw [wrapWm3] at xu
  go_upto_region 9 with fail
  refine wp_alloc1 fun W13 hE hS b0 => ?_
  have zt := (Below.block hE tb (by omega)).trans xt
  have zu := (Below.block hE ub (by omega)).trans xu
  have zb := (Below.block hE mb (by omega)).trans xb
  have zy := hE.cell xy
  have z1 := hE.cell x1
  have HX13 := Lib.hid (HX12.out.trans hE)
  have HV13 := Lib.hid (HV12.out.ext hE)
  have HS13 := Lib.hid (HS12.out.ext hE)
  clear hE hS xt xu xb xy x1 HX12 HV12 HS12
  have ZT := Lib.hid zt; have ZU := Lib.hid zu; have ZB := Lib.hid zb; have Z0 := Lib.hid b0; have ZY := Lib.hid zy; have Z1 := Lib.hid z1
  have hsz13 : mb < W13.heap.size ∧ tb < W13.heap.size ∧ ub < W13.heap.size ∧ w12.heap.size < W13.heap.size := ⟨(Array.getElem?_eq_some_iff.1 zb).1, (Array.getElem?_eq_some_iff.1 zt).1, (Array.getElem?_eq_some_iff.1 zu).1, (Array.getElem?_eq_some_iff.1 b0).1⟩
  obtain ⟨m0, m1, m2, m3, m4, m5, m6, m7, m8, m9⟩ := cells10 zb
  clear zt zu zb b0 zy z1
  go_wp2_with fail
  refine at_alloc1 fun W14 hE hS b0 => ?_
  refine (keep_words (HV13.out.ext hE) (WordSl.of_rows (l := [1, 1]) (words_of_block (L := [1, 1]) b0 rfl (by simp)))).mono ?_
  rintro e w15 ⟨rfl, hx15⟩
  have hx := hE.trans hx15
  have zt := (Below.block hx tb (by omega)).trans ZT.out
  have zu := (Below.block hx ub (by omega)).trans ZU.out
  have z9 := (Below.block hx w12.heap.size (by omega)).trans Z0.out
  have zy := hx.cell ZY.out
  have z1 := hx.cell Z1.out
  have HX15 := Lib.hid (HX13.out.trans hx)
  have HS15 := Lib.hid (HS13.out.ext hx)
  clear hE hS b0 hx15 hx m0 m1 m2 m3 m4 m5 m6 m7 m8 m9 ZT ZU ZB Z0 ZY Z1 HX13 HV13 HS13
  obtain ⟨t0, t1, t2, t3, t4, t5, t6, t7, t8, t9⟩ := cells10 zt
  obtain ⟨u0, u1, u2, u3, u4, u5, u6, u7, u8, u9⟩ := cells10 zu
  obtain ⟨v0, v1, v2, v3, v4, v5, v6, v7, v8, v9⟩ := cells10 z9
  have Z9 := Lib.hid z9
  have Z1 := Lib.hid z1
  simp only [Nat.zero_mul, Nat.add_zero, Nat.zero_add] at zy z1
  have hsz15 : w12.heap.size < w15.heap.size := (Array.getElem?_eq_some_iff.1 z9).1
  clear zt zu z9
  rw [decide_eq_true rfl]
  go_wp2_with fail
  refine at_alloc1 fun W16 hE hS b0 => ?_
  refine (keep_words (HS15.out.ext hE) (WordSl.of_rows (l := [9]) (words_of_block (L := [9]) b0 rfl (by simp)))).mono ?_
  rintro e w17 ⟨rfl, hx17⟩
  have hx := hE.trans hx17
  have z9 := (Below.block hx w12.heap.size (by omega)).trans Z9.out
  have z1' := hx.cell Z1.out
  have HX17 := Lib.hid (HX15.out.trans hx)
  clear hE hS b0 hx17 hx HX15 HS15 Z9 Z1 z1 zy t0 t1 t2 t3 t4 t5 t6 t7 t8 t9 u0 u1 u2 u3 u4 u5 u6 u7 u8 u9 v0 v1 v2 v3 v4 v5 v6 v7 v8 v9
  obtain ⟨v0, v1, v2, v3, v4, v5, v6, v7, v8, v9⟩ := cells10 z9
  clear z9
  simp only [Nat.zero_mul, Nat.zero_add] at z1'
  rw [decide_eq_true rfl]
  go_wp2_with fail
  go_ret
  exact ⟨rfl, HX17.out⟩
end Go.Proofs.YtgiopklnielglaaDoor
/- stockpotrig.Lay: the walk. -/
namespace Go.Proofs.YtgiopklnielglaaDoor
open Go.RowKit Go.Maps Arena
set_option maxHeartbeats 8000000
set_option maxRecDepth 100000
attribute [local go_sem ↓] Go.wp_at_zero Go.wp_at_succ
theorem new_at {w : World} {n : Nat} {x : Int} (hx : x = (n : Int)) (h1 : 1 ≤ n) (h2 : n ≤ 20000) : Calls Tryd.prog 21 #[.int .i64 x] w fun e w' =>
    ∃ p g bm, e = .returned (.tuple #[.pointer (some ⟨p, 0, none⟩), .bool true]) ∧ ArenaAt w' p g bm n (List.replicate n 0) [] ∧ Ext w w' ∧ w.heap.size ≤ p ∧ w.heap.size ≤ g ∧ w.heap.size ≤ bm := by subst hx; exact new_is h1 h2
theorem refnew_at {w : World} {n : Nat} {x : Int} (hx : x = (n : Int)) (h1 : 1 ≤ n) (h2 : n ≤ 20000) : Calls Tryd.prog 22 #[.int .i64 x] w fun e w' =>
    ∃ q gq, e = .returned (.pointer (some ⟨q, 0, none⟩)) ∧ RefAt w' q gq w'.heap.size n (List.replicate n 0) (.slice none 0 0) [] ∧ Ext w w' ∧ w.heap.size ≤ q ∧ w.heap.size ≤ gq := by subst hx; exact refnew_is h1 h2
theorem Both.base {w0 w1 w : World} {p g bm q gq B n : Nat} {ws : List Int} {R : List (Nat × Nat)} (h : Both w1 w p g bm q gq B n ws R) (e : Ext w0 w1) : Both w0 w p g bm q gq B n ws R := by
  have := Below.size e
  obtain ⟨g1, g2, g3⟩ := h.ge
  exact ⟨h.a, h.r, h.lt, ⟨by omega, by omega, by omega⟩, h.size, e.trans h.ext⟩
/-- the program's region is cut -/
theorem Both.cutA {w0 w : World} {p g bm q gq B n : Nat} {ws : List Int} {R R' : List (Nat × Nat)} {k a : Nat} (h : Both w0 w p g bm q gq B n ws R) (hk : 1 ≤ k) (hk2 : k ≤ 9223372036854775807) (hs : scan k 0 R = a) (hfit : a + k ≤ n) (hR : ins (a, k) R = R') (hz : setMany ws a (List.replicate k 0) = ws) :
    Calls Tryd.prog 23 #[.pointer (some ⟨p, 0, none⟩), .int .i64 k] w fun e w' => e = .returned (.tuple #[.int .i64 a, .bool true]) ∧ ArenaAt w' p g bm n ws R' ∧ Turn [g, bm] w w' := by
  have := cut_yes h.a hk hk2 hs hfit hR
  rw [hz] at this
  exact this
theorem refcut_yes {w : World} {q gq B n : Nat} {ws : List Int} {R R' : List (Nat × Nat)} {k a : Nat} (h : ∃ v, RefAt w q gq B n ws v R) (hB : B ≤ w.heap.size) (hk : 1 ≤ k) (hk2 : k ≤ 9223372036854775807) (hs : scan k 0 R = a) (hfit : a + k ≤ n) (hR : ins (a, k) R = R') (hz : setMany ws a (List.replicate k 0) = ws) :
    Calls Tryd.prog 24 #[.pointer (some ⟨q, 0, none⟩), .int .i64 k] w fun e w' => e = .returned (.int .i64 a) ∧ (∃ v, RefAt w' q gq B n ws v R') ∧ Turn [q, gq] w w' := by
  obtain ⟨v, hr⟩ := h
  refine (refcut_is hr hB hk hk2).mono ?_
  subst hs
  rintro e w' (⟨_, h1, h2, h3⟩ | ⟨h1, _⟩)
  · rw [hz, hR] at h2
    exact ⟨h1, h2, h3⟩
  · exact absurd hfit h1
/-- another block of what is new is written -/
theorem Both.other {w0 w w' : World} {p g bm q gq B n : Nat} {ws : List Int} {R : List (Nat × Nat)} (h : Both w0 w p g bm q gq B n ws R) {bs : List Nat} (t : Turn bs w w') (hb : ∀ b ∈ bs, w0.heap.size ≤ b ∧ b < p ∧ b < g ∧ b < bm) : Both w0 w' p g bm q gq B n ws R := by
  obtain ⟨l1, l2, l3, l4, l5, l6⟩ := h.lt
  obtain ⟨v, hr⟩ := h.r
  have hqB := hr.qB
  refine ⟨h.a.turn t (fun hm => ?_) (fun hm => ?_) (fun hm => ?_), ⟨v, hr.turn t (fun hm => ?_) (fun hm => ?_) (fun b hm => ?_)⟩, h.lt, h.ge, Nat.le_trans h.size t.size, Below.trans h.ext (t.below h.ext.size fun b hm => (hb b hm).1)⟩
  · have := hb _ hm; omega
  · have := hb _ hm; omega
  · have := hb _ hm; omega
  · have := hb _ hm; omega
  · have := hb _ hm; omega
  · have := hb _ hm; omega
theorem ztwo {w : World} {p g bm n N : Nat} {R R' : List (Nat × Nat)} {k a : Nat} (h : ArenaAt w p g bm n (List.replicate N 0) R) (hk : 1 ≤ k) (hk2 : k ≤ 9223372036854775807) (hs : scan k 0 R = a) (hfit : a + k ≤ n) (hR : ins (a, k) R = R') :
    Calls Tryd.prog 23 #[.pointer (some ⟨p, 0, none⟩), .int .i64 k] w fun e w' => e = .returned (.tuple #[.int .i64 a, .bool true]) ∧ ArenaAt w' p g bm n (List.replicate N 0) R' ∧ Turn [g, bm] w w' := by
  have := cut_yes h hk hk2 hs hfit hR
  rw [setMany_zero] at this
  exact this
theorem lay_words {w : World} {v : Value} {l : List Int} (hv : WordSl w v l) (hl : l.length ≤ 1000) : Calls Tryd.prog 10 #[v] w fun e w' => ∃ p g bm q gq B, e = .returned (.tuple #[.agg #[.pointer (some ⟨p, 0, none⟩), .pointer (some ⟨q, 0, none⟩)], .int .i64 3, .bool true]) ∧ Both w w' p g bm q gq B (l.length + 10) (rigW l l.length) (rigR (max 1 l.length)) := by
  obtain ⟨qv, cv, rfl, hd1, hd2, hcell⟩ := hv
  have HL := Lib.hid hcell
  unfold maxLen at hd2
  clear hcell
  obtain ⟨m, hm⟩ : ∃ m : Nat, m = max 1 l.length := ⟨_, rfl⟩
  have hmi : max (1 : Int) (l.length : Int) = (m : Int) := by omega
  have hm1 : 1 ≤ m := by omega
  have hm2 : l.length ≤ m := by omega
  have hm3 : m ≤ l.length + 1 := by omega
  rw [← hm]
  have HM := Lib.hid hm
  clear hm
  go_enter Tryd.func10, Tryd.ntmps10
  go_wp2_with fail
  refine at_alloc1 fun W hE hS b0 => ?_
  have HE := Lib.hid hE
  have hBW : w.heap.size < W.heap.size := by omega
  clear hE hS
  generalize hbk : w.heap.size = bk at b0 hBW ⊢
  have HBK := Lib.hid hbk
  clear hbk
  refine (new_at (n := l.length + 10) (by omega) (by omega) (by omega)).mono ?_; rintro e w1 ⟨p, g, bm, rfl, h1, hx1, hp, hg, hbm⟩
  have HX1 := Lib.hid hx1; have H1 := Lib.hid h1
  have hlt1 := h1.lt
  clear h1 hx1
  go_wp2_with fail
  refine (refnew_at (n := l.length + 10) (by omega) (by omega) (by omega)).mono ?_; rintro e w2 ⟨q, gq, rfl, h2, hx2, hq, hgq⟩
  have hsz2 := h2.qB
  have HB := Lib.hid (show Both W w2 p g bm q gq w2.heap.size (l.length + 10) (List.replicate (l.length + 10) 0) [] from ⟨H1.out.ext hx2, ⟨_, h2⟩, by omega, ⟨hp, hg, hbm⟩, Nat.le_refl _, HX1.out.trans hx2⟩)
  clear h2 hx2 hsz2 hlt1 HX1 H1
  generalize w2.heap.size = BB at *
  go_wp2_with fail
  refine (HB.out.cutA (k := 3) (a := 0) (R' := [(0, 3)]) (by omega) (by omega) rfl (by omega) rfl (setMany_zero _ _ _)).mono ?_; rintro e w3 ⟨rfl, hA3, hT3⟩
  have HA3 := Lib.hid hA3; have HT3 := Lib.hid hT3
  clear hA3 hT3
  go_wp2_with fail
  refine (ztwo HA3.out hm1 (by omega) (rig_scan hm1) (by omega) (rig_ins m)).mono ?_; rintro e w4 ⟨rfl, hA4, hT4⟩
  have HA4 := Lib.hid hA4; have HT4 := Lib.hid (HT3.out.trans hT4)
  have HR4 := Lib.hid (HB.out.turnA HT4.out (by simp))
  clear hA4 hT4 HA3 HT3
  go_wp2_with fail
  refine (refcut_yes (k := 3) (a := 0) (R' := [(0, 3)]) HR4.out.1 HR4.out.2.1 (by omega) (by omega) rfl (by omega) rfl (setMany_zero _ _ _)).mono ?_; rintro e w5 ⟨rfl, hR5, hT5⟩
  have HR5 := Lib.hid hR5; have HT5 := Lib.hid hT5
  have HB5 := Lib.hid (Nat.le_trans HR4.out.2.1 hT5.size)
  clear hR5 hT5
  go_wp2_with fail
  refine (refcut_yes (k := m) (a := 3) (R' := rigR m) HR5.out HB5.out hm1 (by omega) (rig_scan hm1) (by omega) (rig_ins m) (setMany_zero _ _ _)).mono ?_; rintro e w6 ⟨rfl, hR6, hT6⟩
  have HC := Lib.hid (show Both W w6 p g bm q gq BB (l.length + 10) (rigW l 0) (rigR m) by
    rw [rigW_zero]
    exact HB.out.mk1 HA4.out HT4.out (by simp) hR6 (HT5.out.trans hT6) (by simp))
  clear hR6 hT6 HR5 HT5 HB5 HR4 HA4 HT4 HB
  go_wp2_with fail
  go_loopw [14] (fun i wr => ∃ j : Nat, j ≤ l.length ∧ i = .int .i64 j ∧ Both W wr p g bm q gq BB (l.length + 10) (rigW l j) (rigR m)) (fun i _ => l.length - (Go.RowKit.intOf i).toNat)
  case atStart => exact ⟨0, by omega, rfl, HC.out⟩
  case round =>
    obtain ⟨j, hj, rfl, hB⟩ := hrel
    have HD := Lib.hid hB
    clear hB HC
    by_cases hlt : j < l.length
    · obtain ⟨b1, o1, rfl, p0⟩ := HL.out j l[j] (List.getElem?_eq_getElem hlt)
      have P0 := HD.out.ext.cell (HE.out.cell p0)
      have hS1 := rigW_step hlt hm2
      have HS1 := Lib.hid hS1
      clear hS1
      generalize l[j] = x at *
      have i1 : (j : Int) < (l.length : Int) := by omega
      have hw3 : (Lit.int .i64 3).wf = true := by decide
      have HWi := Lib.hid (rig_within (show j < m by omega))
      go_wp2_with fail
      refine (setA_said (x := 3) (a := (j : Int)) (v := x) HD.out.a hw3).mono ?_; rintro e w7 ⟨rfl, hA7, hT7⟩
      rw [HWi.out]
      rw [HS1.out] at hA7
      have HA7 := Lib.hid hA7; have HT7 := Lib.hid hT7
      have HR7 := Lib.hid (HD.out.turnA hT7 (by simp))
      have P1 := HR7.out.2.2.cell (HE.out.cell p0)
      clear hA7 hT7
      go_wp2_with fail
      obtain ⟨vR, hr7⟩ := HR7.out.1
      refine (setR_said (x := 3) (a := (j : Int)) (v := x) hr7).mono ?_; rintro e w8 ⟨rfl, hR8, hT8⟩
      rw [HS1.out] at hR8
      have HB8 := Lib.hid (HD.out.mk1 HA7.out HT7.out (by simp) ⟨vR, hR8⟩ hT8 (by simp))
      clear hr7 hR8 hT8
      go_wp2_with fail
      exact ⟨⟨j + 1, by omega, by go_num, HB8.out⟩, by simp [Go.RowKit.intOf]; omega⟩
    · obtain rfl : j = l.length := by omega
      have hrow : wr.heap[bk]? = some (Obj.cells #[Value.pointer none, Value.pointer none] 45 (0, 0)) := by rw [Below.block HD.out.ext bk hBW]; exact b0
      have c0 : wr.cell? ⟨bk, 0, none⟩ = some (.pointer none) := by simp [World.cell?, hrow]
      have c1 : wr.cell? ⟨bk, 1, none⟩ = some (.pointer none) := by simp [World.cell?, hrow]
      have f0 : wr.frozen? ⟨bk, 0, none⟩ = false := by simp [World.frozen?, hrow]
      have f1 : wr.frozen? ⟨bk, 1, none⟩ = false := by simp [World.frozen?, hrow]
      clear b0
      go_wp2_with fail
      have g0 : ((wr.setCell ⟨bk, 0, none⟩ (.pointer (some ⟨p, 0, none⟩))).setCell ⟨bk, 1, none⟩ (.pointer (some ⟨q, 0, none⟩))).heap[bk]? = some (Obj.cells #[.pointer (some ⟨p, 0, none⟩), .pointer (some ⟨q, 0, none⟩)] 45 (0, 0)) := by
        simp [World.setCell, Array.getElem?_modify, hrow]
      have e0 := (show ((wr.setCell ⟨bk, 0, none⟩ (.pointer (some ⟨p, 0, none⟩))).setCell ⟨bk, 1, none⟩ (.pointer (some ⟨q, 0, none⟩))).cell? ⟨bk, 0, none⟩ = some (.pointer (some ⟨p, 0, none⟩)) by simp [World.cell?, g0])
      have e1 := (show ((wr.setCell ⟨bk, 0, none⟩ (.pointer (some ⟨p, 0, none⟩))).setCell ⟨bk, 1, none⟩ (.pointer (some ⟨q, 0, none⟩))).cell? ⟨bk, 1, none⟩ = some (.pointer (some ⟨q, 0, none⟩)) by simp [World.cell?, g0])
      have ht : Turn [bk] wr ((wr.setCell ⟨bk, 0, none⟩ (.pointer (some ⟨p, 0, none⟩))).setCell ⟨bk, 1, none⟩ (.pointer (some ⟨q, 0, none⟩))) := ((Turn.refl _ _).setCell (.inl (by simp)) _).setCell (.inl (by simp)) _
      have HT := Lib.hid ht
      generalize (wr.setCell ⟨bk, 0, none⟩ (.pointer (some ⟨p, 0, none⟩))).setCell ⟨bk, 1, none⟩ (.pointer (some ⟨q, 0, none⟩)) = wz at *
      clear ht g0 hrow
      have hfin : Both w wz p g bm q gq BB (l.length + 10) (rigW l l.length) (rigR m) := (HD.out.base HE.out).other HT.out (by intro b hb; simp at hb; subst hb; exact ⟨Nat.le_of_eq HBK.out, by omega, by omega, by omega⟩)
      refine bodyPost_ret (v := .tuple #[.agg #[.pointer (some ⟨p, 0, none⟩), .pointer (some ⟨q, 0, none⟩)], .int .i64 3, .bool true]) (by simp [results, Tryd.results10, go_sem, e0, e1]) rfl ⟨p, g, bm, q, gq, BB, rfl, hfin⟩
end Go.Proofs.YtgiopklnielglaaDoor
/- (stockpotrig.Two).Same: the walk. -/
namespace Go.Proofs.YtgiopklnielglaaDoor
open Go.RowKit Go.Maps Arena
set_option maxHeartbeats 8000000
set_option maxRecDepth 100000
attribute [local go_sem ↓] Go.wp_at_zero Go.wp_at_succ
theorem rig_free {m : Nat} (h : 1 ≤ m) : freeB (rigR m) 3 = true := by unfold freeB; rw [rig_len]; simp; omega
theorem rig_free0 (m : Nat) : freeB (rigR m) 0 = true := by unfold freeB; rw [rig_len0]; rfl
end Go.Proofs.YtgiopklnielglaaDoor
/- keep.OwnWords. -/
namespace Go.Proofs.YtgiopklnielglaaDoor
open Go.RowKit Go.Maps Arena
set_option maxHeartbeats 8000000
set_option maxRecDepth 100000
theorem own_empty1 (W : World) (T : TypeId) : OwnP (W.alloc (.cells #[] T)) W.heap.size T (.slice (some ⟨W.heap.size, 0, none⟩) 0 0) 1 [] :=
  OwnP.of_form (l := []) (cap := 0) (cur := #[]) (Rows1.nil 1) (Nat.le_refl _) (heap_alloc_new _ _) (Nat.le_refl _) (Nat.zero_le _) rfl rfl
end Go.Proofs.YtgiopklnielglaaDoor
