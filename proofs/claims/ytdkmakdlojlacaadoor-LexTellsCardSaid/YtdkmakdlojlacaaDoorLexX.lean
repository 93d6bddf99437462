/- The walks of layer 14's wakes, and of keep.Tokens. -/
import Derived.Test.YtdkmakdlojlacaaDoorLexO
import Derived.Test.YtdkmakdlojlacaaDoorLexK
namespace Go.Proofs.YtdkmakdlojlacaaDoor
open Go.RowKit Lex
def TrueExt (w : World) (e : Ending) (w' : World) : Prop := e = .returned (.bool true) ∧ Ext w w'
theorem flat3 : ∀ (ts : List Tok) (i : Nat) (x : Tok), ts[i]? = some x → (ts.flatMap tokC)[3 * i]? = some (.int .i64 x.1) ∧ (ts.flatMap tokC)[3 * i + 1]? = some (.string (strOf x.2.1)) ∧ (ts.flatMap tokC)[3 * i + 2]? = some (.int .i64 x.2.2)
  | [], _, _, h => by simp at h
  | y :: ts, 0, x, h => by
    simp only [List.getElem?_cons_zero, Option.some.injEq] at h
    subst h
    exact ⟨rfl, rfl, rfl⟩
  | y :: ts, i + 1, x, h => by
    simp only [List.getElem?_cons_succ] at h
    have := flat3 ts i x h
    rw [List.flatMap_cons]
    have e0 : 3 * (i + 1) = 3 * i + 3 := by omega
    have e1 : 3 * (i + 1) + 1 = (3 * i + 1) + 3 := by omega
    have e2 : 3 * (i + 1) + 2 = (3 * i + 2) + 3 := by omega
    rw [e1, e2, e0]
    exact this
/-- what a row of tokens is good for -/
theorem TokRow.shape {w : World} {base : Nat} {v : Value} {ts : List Tok} (h : TokRow w base v ts) (hne : ts ≠ []) : ∃ g c, v = .slice (some ⟨g, 0, none⟩) ts.length c ∧ base ≤ g ∧ ts.length ≤ c ∧ c ≤ maxLen ∧
    ∀ (i : Nat) (x : Tok), ts[i]? = some x → w.cell? ⟨g, 3 * i, none⟩ = some (.int .i64 x.1) ∧ w.cell? ⟨g, 3 * i + 1, none⟩ = some (.string (strOf x.2.1)) ∧ w.cell? ⟨g, 3 * i + 2, none⟩ = some (.int .i64 x.2.2) := by
  rcases h.2 with ⟨h1, h2⟩ | ⟨g, cap, cur, h1, hb, hg, h2, h3, h4, h5⟩
  · exact absurd (List.length_eq_zero_iff.1 h2) hne
  · refine ⟨g, cap, h1, hb, h2, h3, fun i x hx => ?_⟩
    subst h1
    have hi : i < ts.length := (List.getElem?_eq_some_iff.1 hx).1
    have hf := flat3 ts i x hx
    have c0 := World.ownsRow.cellAt h (3 * i) (by omega)
    have c1 := World.ownsRow.cellAt h (3 * i + 1) (by omega)
    have c2 := World.ownsRow.cellAt h (3 * i + 2) (by omega)
    rw [c0, c1, c2]
    exact hf
/-- Tokens, with the answer as the caller wants it -/
theorem tokens_is {s : ByteArray} {w : World} {E A : Nat} {ts : List Tok} (hs : s.size ≤ maxLen) (hw : LexLie w) (h : tokensRes s.data.toList = (E, A, ts)) :
    Calls Tryd.prog 10 #[.string s] w fun e w' => ∃ v, e = .returned (.tuple #[v, .agg #[.int .i64 E, .int .i64 A]]) ∧ Ext w w' ∧ TokRow w' w.heap.size v ts := by
  have := tokens_any s w hs hw
  unfold TokensAns at this
  rw [h] at this
  exact this
theorem quote_is {s : ByteArray} {w : World} {t : ByteArray} {ok : Bool} (hs : s.size ≤ maxLen) (h1 : strOf ((quoteOf s.data.toList).getD []) = t) (h2 : (quoteOf s.data.toList).isSome = ok) :
    Calls Tryd.prog 12 #[.string s] w fun e w' => e = .returned (.tuple #[.string t, .bool ok]) ∧ Ext w w' := by
  subst h1; subst h2; exact quote_any s w hs
theorem isName_is {s : ByteArray} {w : World} {b : Bool} (hs : s.size ≤ maxLen) (hw : LexLie w) (h : isKind s.data.toList 1 = b) :
    Calls Tryd.prog 15 #[.string s] w fun e w' => e = .returned (.bool b) ∧ w = w' := by
  subst h; exact isName_any s w hs hw.1
theorem isCon_is {s : ByteArray} {w : World} {b : Bool} (hs : s.size ≤ maxLen) (hw : LexLie w) (h : isKind s.data.toList 2 = b) :
    Calls Tryd.prog 17 #[.string s] w fun e w' => e = .returned (.bool b) ∧ w = w' := by
  subst h; exact isCon_any s w hs hw.1
def toks1 : List Tok := [(5, [108, 101, 116], 0), (1, [120, 95, 49], 4), (6, [61], 8), (4, [97, 10], 10), (6, [58, 58], 20), (2, [78, 105, 108], 22), (6, [45, 62], 25), (6, [95], 27)]
set_option maxHeartbeats 4000000
set_option maxRecDepth 100000
theorem lex_wakes (w : World) (hw : LexLie w) : Calls Tryd.prog 9 #[] w (TrueExt w) := by
  go_enter Tryd.func9, Tryd.ntmps9
  go_wp2_with fail
  refine (tokens_is (E := 0) (A := 0) (ts := toks1) (by decide +kernel) hw (by decide +kernel)).mono ?_; rintro e w1 ⟨v1, rfl, hx1, hr1⟩
  obtain ⟨g1, c1, rfl, hg1, hc1, hm1, hcell1⟩ := hr1.shape (by decide)
  have H1 := Lib.hid hcell1
  clear hcell1 hr1
  have hl1 := hw.ext (hx1.trans (Ext.alloc w1 (.cells #[.int .i64 0, .int .i64 0] 26)))
  go_wp2_with fail
  refine (tokens_is (E := 11) (A := 2) (ts := []) (by decide +kernel) hl1 (by decide +kernel)).mono ?_; rintro e w2 ⟨v2, rfl, hx2, hr2⟩
  obtain ⟨_, _, rfl, _, _⟩ := hr2.len
  have hl2 := hl1.ext (hx2.trans (Ext.alloc w2 (.cells #[.int .i64 11, .int .i64 2] 26)))
  clear hr2
  go_wp2_with fail
  refine (tokens_is (E := 11) (A := 0) (ts := []) (by decide +kernel) hl2 (by decide +kernel)).mono ?_; rintro e w3 ⟨v3, rfl, hx3, hr3⟩
  obtain ⟨_, _, rfl, _, _⟩ := hr3.len
  have hl3 := hl2.ext (hx3.trans (Ext.alloc w3 (.cells #[.int .i64 11, .int .i64 0] 26)))
  clear hr3
  go_wp2_with fail
  refine (tokens_is (E := 11) (A := 2) (ts := []) (by decide +kernel) hl3 (by decide +kernel)).mono ?_; rintro e w4 ⟨v4, rfl, hx4, hr4⟩
  obtain ⟨_, _, rfl, _, _⟩ := hr4.len
  have hl4 := hl3.ext (hx4.trans (Ext.alloc w4 (.cells #[.int .i64 11, .int .i64 2] 26)))
  clear hr4
  go_wp2_with fail
  refine (quote_is (t := ⟨#[34, 97, 92, 34, 92, 110, 34]⟩) (ok := true) (by decide +kernel) (by decide +kernel) (by decide +kernel)).mono ?_; rintro e w5 ⟨rfl, hx5⟩
  go_wp2_with fail
  refine (quote_is (t := ⟨#[]⟩) (ok := false) (by decide +kernel) (by decide +kernel) (by decide +kernel)).mono ?_; rintro e w6 ⟨rfl, hx6⟩
  have hl6 := (hl4.ext hx5).ext hx6
  have x4 := hx5.trans hx6
  have x3 := hx4.trans ((Ext.alloc _ _).trans x4)
  have x2 := hx3.trans ((Ext.alloc _ _).trans x3)
  have x1 := hx2.trans ((Ext.alloc _ _).trans x2)
  have x0 := hx1.trans ((Ext.alloc _ _).trans x1)
  have f1 := (own2 x1).1
  obtain ⟨f20, f21⟩ := own2 x2
  obtain ⟨f30, f31⟩ := own2 x3
  obtain ⟨f40, f41⟩ := own2 x4
  have xt := (Ext.alloc w1 (.cells #[.int .i64 0, .int .i64 0] 26)).trans x1
  have t10 : w6.cell? ⟨g1, 3, none⟩ = some (.int .i64 1) := xt.cell (H1.out 1 _ rfl).1
  have t11 : w6.cell? ⟨g1, 4, none⟩ = some (.string ⟨#[120, 95, 49]⟩) := xt.cell (H1.out 1 _ rfl).2.1
  have t12 : w6.cell? ⟨g1, 5, none⟩ = some (.int .i64 4) := xt.cell (H1.out 1 _ rfl).2.2
  have t30 : w6.cell? ⟨g1, 9, none⟩ = some (.int .i64 4) := xt.cell (H1.out 3 _ rfl).1
  have t31 : w6.cell? ⟨g1, 10, none⟩ = some (.string ⟨#[97, 10]⟩) := xt.cell (H1.out 3 _ rfl).2.1
  have t32 : w6.cell? ⟨g1, 11, none⟩ = some (.int .i64 10) := xt.cell (H1.out 3 _ rfl).2.2
  have t50 : w6.cell? ⟨g1, 15, none⟩ = some (.int .i64 2) := xt.cell (H1.out 5 _ rfl).1
  have t61 : w6.cell? ⟨g1, 19, none⟩ = some (.string ⟨#[45, 62]⟩) := xt.cell (H1.out 6 _ rfl).2.1
  have t70 : w6.cell? ⟨g1, 21, none⟩ = some (.int .i64 6) := xt.cell (H1.out 7 _ rfl).1
  have t71 : w6.cell? ⟨g1, 22, none⟩ = some (.string ⟨#[95]⟩) := xt.cell (H1.out 7 _ rfl).2.1
  have t72 : w6.cell? ⟨g1, 23, none⟩ = some (.int .i64 27) := xt.cell (H1.out 7 _ rfl).2.2
  have hlen : toks1.length = 8 := rfl
  have HX := Lib.hid x0; have HW := Lib.hid hl6
  clear x0 x1 x2 x3 x4 xt hx1 hx2 hx3 hx4 hx5 hx6 hl1 hl2 hl3 hl4 hl6
  go_wp2_with fail
  refine (isName_is (b := true) (by decide +kernel) HW.out (by decide +kernel)).mono ?_; rintro e w' ⟨rfl, rfl⟩
  go_wp2_with fail
  refine (isName_is (b := false) (by decide +kernel) HW.out (by decide +kernel)).mono ?_; rintro e w' ⟨rfl, rfl⟩
  go_wp2_with fail
  refine (isCon_is (b := true) (by decide +kernel) HW.out (by decide +kernel)).mono ?_; rintro e w' ⟨rfl, rfl⟩
  go_wp2_with fail
  refine (isCon_is (b := false) (by decide +kernel) HW.out (by decide +kernel)).mono ?_; rintro e w' ⟨rfl, rfl⟩
  go_wp2
  go_ret
  exact ⟨rfl, HX.out⟩
end Go.Proofs.YtdkmakdlojlacaaDoor
