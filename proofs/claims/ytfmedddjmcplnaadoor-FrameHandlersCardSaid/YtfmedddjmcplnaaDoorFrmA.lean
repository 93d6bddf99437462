/- What FrameHandlers reads of the program's tables: op.rows (two of its rows), frame.nought. -/
import Derived.Test.YtfmedddjmcplnaaDoorRows
import Derived.Test.YtfmedddjmcplnaaDoorExt
namespace Go.Proofs.YtfmedddjmcplnaaDoor
open Go.RowKit Go.ChangeShapes
set_option maxHeartbeats 2000000
set_option maxRecDepth 100000
/-- a row of op.rows as its datum: its name, its bounds, what it takes and leaves -/
def rowD (s : List UInt8) (a b c d e f : Int) : DataW Unit := .agg [.lit (.string s), .agg [.lit (.int .i64 a), .lit (.int .i64 b)], .agg [.lit (.int .i64 c), .lit (.int .i64 d)], .lit (.int .i64 e), .lit (.int .i64 f)]
def rowC (s : List UInt8) (a b c d e f : Int) : List Value := [.string ⟨s.toArray⟩, .int .i64 a, .int .i64 b, .int .i64 c, .int .i64 d, .int .i64 e, .int .i64 f]
theorem bound_cells {enc : TypeId × Value → Unit} {w : World} {base fuel : Nat} {sp : Nat → Bool} {held : Bool} {cs : List Value} {p : List MemPlace} {a b : Int}
    (h : DataW.trod enc Tryd.prog w base sp held fuel 94 cs = some (.agg [.lit (.int .i64 a), .lit (.int .i64 b)], p)) : cs = [.int .i64 a, .int .i64 b] := by
  obtain ⟨xs, k, _, hx, hlen, hxl, hf⟩ := DataW.trod_struct Tryd.underlying94 h
  have hc : Tryd.prog.cellsOf 94 = 2 := by kernel_rfl
  have ci : Tryd.prog.cellsOf 3 = 1 := by kernel_rfl
  rw [hc] at hlen
  match cs, hlen, xs, hxl with
  | [v0, v1], _, [y0, y1], _ =>
    have g0 := hf 0 _ rfl
    have g1 := hf 1 _ rfl
    simp [ci] at g0 g1 hx
    obtain ⟨a0, e0, x0, _⟩ := DataW.trod_int Tryd.underlying3 g0
    obtain ⟨a1, e1, x1, _⟩ := DataW.trod_int Tryd.underlying3 g1
    obtain ⟨⟨h0, h1⟩, _⟩ := hx
    rw [x0] at h0; rw [x1] at h1
    simp at e0 e1 h0 h1
    rw [e0, e1, h0, h1]
theorem row_cells {enc : TypeId × Value → Unit} {w : World} {base fuel : Nat} {sp : Nat → Bool} {held : Bool} {cs : List Value} {x : DataW Unit × List MemPlace} {s : List UInt8} {a b c d e f : Int}
    (h : DataW.trod enc Tryd.prog w base sp held fuel 96 cs = some x) (hx : x.1 = rowD s a b c d e f) : cs = rowC s a b c d e f := by
  obtain ⟨xs, k, _, rfl, hlen, hxl, hf⟩ := DataW.trod_struct Tryd.underlying96 h
  have hc : Tryd.prog.cellsOf 96 = 7 := by kernel_rfl
  have ci : Tryd.prog.cellsOf 3 = 1 := by kernel_rfl
  have cst : Tryd.prog.cellsOf 9 = 1 := by kernel_rfl
  have cb : Tryd.prog.cellsOf 94 = 2 := by kernel_rfl
  rw [hc] at hlen
  match cs, hlen, xs, hxl with
  | [v0, v1, v2, v3, v4, v5, v6], _, [y0, y1, y2, y3, y4], _ =>
    have g0 := hf 0 _ rfl
    have g1 := hf 1 _ rfl
    have g2 := hf 2 _ rfl
    have g3 := hf 3 _ rfl
    have g4 := hf 4 _ rfl
    simp [ci, cst, cb, rowD] at g0 g1 g2 g3 g4 hx
    obtain ⟨h0, h1, h2, h3, h4⟩ := hx
    obtain ⟨s0, e0, x0, _⟩ := DataW.trod_string Tryd.underlying9 g0
    have e1 := bound_cells (p := y1.2) (by rw [← h1]; exact g1)
    have e2 := bound_cells (p := y2.2) (by rw [← h2]; exact g2)
    obtain ⟨a3, e3, x3, _⟩ := DataW.trod_int Tryd.underlying3 g3
    obtain ⟨a4, e4, x4, _⟩ := DataW.trod_int Tryd.underlying3 g4
    rw [x0] at h0; rw [x3] at h3; rw [x4] at h4
    simp at e0 e1 e2 e3 e4 h0 h3 h4
    obtain ⟨rfl, rfl⟩ := e1
    obtain ⟨rfl, rfl⟩ := e2
    subst e0; subst e3; subst e4; subst h3; subst h4
    unfold rowC
    rw [← h0]
end Go.Proofs.YtfmedddjmcplnaaDoor
