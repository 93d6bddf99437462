/- From the row's list to what FrameHandlers reads. -/
import Derived.Test.YtfmedddjmcplnaaDoorFrmA
import Derived.OpenShut
namespace Go.Proofs.YtfmedddjmcplnaaDoor
open Go.RowKit Go.ChangeShapes
set_option maxHeartbeats 2000000
set_option maxRecDepth 100000
theorem gRows : Tryd.prog.globalNamed "stockpot/op.rows" = some 3 := by kernel_rfl
theorem gNought : Tryd.prog.globalNamed "stockpot/frame.nought" = some 1 := by kernel_rfl
def rowsL : List (DataW Unit) := match (Rows.laid_stockpot_op_rows : DataW Unit) with
  | .agg l => l
  | _ => []
theorem rows_agg : (Rows.laid_stockpot_op_rows : DataW Unit) = .agg rowsL := rfl
theorem row_int : rowsL[0]? = some (rowD [105, 110, 116] (-4611686018427387904) 4611686018427387903 0 0 0 1) := rfl
theorem row_ret : rowsL[9]? = some (rowD [114, 101, 116] 0 0 0 0 1 0) := rfl
theorem rows_lie {W : World} {l : List (String × DataW Unit)} (h : laidMetH Tryd.prog l W) (hh : (l.filter fun x => x.2.handleName?.isSome) = []) (hm : ("stockpot/op.rows", Rows.laid_stockpot_op_rows) ∈ l)
    {i : Nat} (hi : i < 38) {s : List UInt8} {a b c d e f : Int} (hr : rowsL[i]? = some (rowD s a b c d e f)) : ∀ j u, (rowC s a b c d e f)[j]? = some u → W.cell? ⟨3, i * 7 + j, none⟩ = some u := by
  intro j u hu
  have hj : j < 7 := by have := (List.getElem?_eq_some_iff.1 hu).1; simpa [rowC] using this
  obtain ⟨ps, hl, _⟩ := laidMet_of_H h hh
  obtain ⟨g', t', cs, fuel, p, hg', ht', hvar, hd⟩ := laid_mem hl hm
  obtain rfl := Option.some.inj (gRows.symm.trans hg')
  obtain rfl := Option.some.inj ((show (Tryd.prog.globals[3]?).map (·.type) = some 97 by kernel_rfl).symm.trans ht')
  obtain ⟨xs, m, _, hx, hlen, hxl, hf⟩ := DataW.trod_array Tryd.underlying97 hd
  have hc : Tryd.prog.cellsOf 96 = 7 := by kernel_rfl
  rw [rows_agg] at hx
  have hxr : rowsL = xs.map (·.1) := by
    have := congrArg Prod.fst hx
    simpa using this
  have h1 := hf i hi
  rw [hc] at h1
  have hxi : (xs.map (·.1))[i]? = some (rowD s a b c d e f) := by rw [← hxr]; exact hr
  rw [List.getElem?_map] at hxi
  obtain ⟨y, hy, hy1⟩ := Option.map_eq_some_iff.1 hxi
  rw [hy] at h1
  have h2 := row_cells h1 hy1
  have h3 : ((cs.toList.drop (i * 7)).take 7)[j]? = some u := by rw [h2]; exact hu
  rw [List.getElem?_take_of_lt hj, List.getElem?_drop] at h3
  simp only [World.var?, gRows, Option.bind_some] at hvar
  split at hvar
  · rename_i cs' tt fr hb
    obtain rfl := Option.some.inj hvar
    simpa [World.cell?, hb] using h3
  · cases hvar
theorem nought_lie {W : World} {l : List (String × DataW Unit)} (h : laidMetH Tryd.prog l W) (hh : (l.filter fun x => x.2.handleName?.isSome) = []) (hm : ("stockpot/frame.nought", Rows.laid_stockpot_frame_nought) ∈ l) : W.cell? ⟨1, 0, none⟩ = some (.int .u64 1) := by
  obtain ⟨ps, hl, _⟩ := laidMet_of_H h hh
  obtain ⟨g', t', cs, fuel, p, hg', ht', hvar, hd⟩ := laid_mem hl hm
  obtain rfl := Option.some.inj (gNought.symm.trans hg')
  obtain rfl := Option.some.inj ((show (Tryd.prog.globals[1]?).map (·.type) = some 67 by kernel_rfl).symm.trans ht')
  obtain ⟨xs, m, _, hx, hlen, hxl, hf⟩ := DataW.trod_array Tryd.underlying67 hd
  have hc : Tryd.prog.cellsOf 24 = 1 := by kernel_rfl
  have h1 := hf 0 (by omega)
  rw [hc] at h1
  have hxr : [DataW.lit (.int .u64 1)] = xs.map (·.1) := by
    have := congrArg Prod.fst hx
    simpa [Rows.laid_stockpot_frame_nought] using this
  have hxi : (xs.map (·.1))[0]? = some (.lit (.int .u64 1)) := by rw [← hxr]; rfl
  rw [List.getElem?_map] at hxi
  obtain ⟨y, hy, hy1⟩ := Option.map_eq_some_iff.1 hxi
  rw [hy] at h1
  obtain ⟨n, hn, hyn, _⟩ := DataW.trod_int Tryd.underlying24 h1
  rw [hyn] at hy1
  simp at hy1
  subst hy1
  have h3 : ((cs.toList.drop (0 * 1)).take 1)[0]? = some (.int .u64 1) := by rw [hn]; rfl
  rw [List.getElem?_take_of_lt (by omega), List.getElem?_drop] at h3
  simp only [World.var?, gNought, Option.bind_some] at hvar
  split at hvar
  · rename_i cs' tt fr hb
    obtain rfl := Option.some.inj hvar
    simpa [World.cell?, hb] using h3
  · cases hvar
/-- the tables lie where they were laid -/
def FrmLie (W : World) : Prop := (∀ j u, (rowC [105, 110, 116] (-4611686018427387904) 4611686018427387903 0 0 0 1)[j]? = some u → W.cell? ⟨3, 0 * 7 + j, none⟩ = some u) ∧
  (∀ j u, (rowC [114, 101, 116] 0 0 0 0 1 0)[j]? = some u → W.cell? ⟨3, 9 * 7 + j, none⟩ = some u) ∧ W.cell? ⟨1, 0, none⟩ = some (.int .u64 1)
theorem FrmLie.ext {w w' : World} (h : FrmLie w) (e : Ext w w') : FrmLie w' := ⟨fun j u hu => e.cell (h.1 j u hu), fun j u hu => e.cell (h.2.1 j u hu), e.cell h.2.2⟩
theorem frmLie_of_laid {W : World} {l : List (String × DataW Unit)} (h : laidMetH Tryd.prog l W) (hh : (l.filter fun x => x.2.handleName?.isSome) = [])
    (h1 : ("stockpot/op.rows", Rows.laid_stockpot_op_rows) ∈ l) (h2 : ("stockpot/frame.nought", Rows.laid_stockpot_frame_nought) ∈ l) : FrmLie W :=
  ⟨rows_lie h hh h1 (by omega) row_int, rows_lie h hh h1 (by omega) row_ret, nought_lie h hh h2⟩
def TrueExt (w : World) (e : Ending) (w' : World) : Prop := e = .returned (.bool true) ∧ Ext w w'
end Go.Proofs.YtfmedddjmcplnaaDoor
