/- Proved here: the contracts and laws of Ext, FrmA, ArenaP, Turn, Pairs, Words, Shelf, ArenaW, ArenaC, ArenaD, ArenaX, FrmB of this claim, each beneath its own remark; conditions: those that each theorem names. -/
import Derived.Test.YtgiopklnielglaaDoorRows
import Derived.Test.YtgiopklnielglaaDoorProg
import Derived.WalkKit
import Derived.WalkSpells
import Derived.WalkLawsBesides
import Derived.ChangeSame
import Derived.Lib.LaidTab
import Derived.Lib.Hide
import Derived.Lib.AppendIntMem
import Derived.Lib.QuietBelow
import Derived.BigQuiet
import Derived.RowKit
import Derived.Maps.Own
import Derived.Maps.OwnSet
import Derived.Lib.SlKeysI
import Derived.Lib.BufferMore
import Derived.Deep.OwnRows
import Derived.Deep.QuietTactic
import Derived.Laws.StructEq
import Derived.Maps.OwnOps
import Derived.Lib.SliceRun
import Derived.Shelf.SlIterI.Nil
import Derived.Shelf.SortM.Plain
import Derived.Shelf.SortM.SortNone
import Derived.Shelf.SlicesE.Clone
import Derived.Shelf.SlicesG.SearchI
import Derived.Ground.GgzProg
import Derived.Ground.SlgmProg
import Derived.Ground.SlgnProg
import Derived.Shelf.AbstractIn
import Derived.OpenShut
/- 'Ext': a later world in which all that was there is as it was. And a row's last step over it (HOWTO extra-small 9). -/
namespace Go.Proofs.YtgiopklnielglaaDoor
open Go.RowKit Go.WideShapes Go.ChangeShapes

/-- all that was there is as it was -/
def Ext (w w' : World) : Prop := Below w.heap.size w w'
theorem Ext.refl (w : World) : Ext w w := Below.refl _ _
theorem Ext.below {w w' : World} (h : Ext w w') : Below w.heap.size w w' := h
theorem Ext.size {w w' : World} (h : Ext w w') : w.heap.size ≤ w'.heap.size := Below.size h
theorem Ext.trans {a b c : World} (h : Ext a b) (k : Ext b c) : Ext a c := Below.trans h (Below.mono k h.size)
theorem Ext.alloc (w : World) (o : Obj) : Ext w (w.alloc o) := Below.alloc (Below.refl _ _) (Nat.le_refl _) o
theorem Ext.drew (w : World) : Ext w w.drew := Below.drew (Below.refl _ _)
theorem Ext.drewN (w : World) (n : Nat) : Ext w (w.drewN n) := below_drewN (Below.refl _ _) n
theorem Ext.grow (w : World) (k : Nat) (os : Array Obj) : Ext w (Go.Sort.grow (w.drewN k) os) := Go.Lib.below_grow _ _ (Nat.le_refl _) k os
theorem Ext.cell {w w' : World} (h : Ext w w') {a : Addr} {v : Value} (hc : w.cell? a = some v) : w'.cell? a = some v := by
  have hl : a.block < w.heap.size := by
    rcases Nat.lt_or_ge a.block w.heap.size with h | h
    · exact h
    · simp [World.cell?, Array.getElem?_eq_none h] at hc
  rw [Below.cell h hl]; exact hc
theorem Ext.frozen {w w' : World} (h : Ext w w') {a : Addr} {v : Value} (hc : w.cell? a = some v) : w'.frozen? a = w.frozen? a := by
  have hl : a.block < w.heap.size := by
    rcases Nat.lt_or_ge a.block w.heap.size with h | h
    · exact h
    · simp [World.cell?, Array.getElem?_eq_none h] at hc
  exact Below.frozen h hl
theorem Ext.var {w w' : World} (h : Ext w w') {P : Program} {n : String} {g : Nat} {cs : Array Value} (hg : P.globalNamed n = some g) (hv : w.var? P n = some cs) : w'.var? P n = some cs := by
  have hl : g < w.heap.size := by
    rcases Nat.lt_or_ge g w.heap.size with h | h
    · exact h
    · simp [World.var?, hg, Array.getElem?_eq_none h] at hv
  exact var?_below h hg hl hv
theorem Ext.tab {w w' : World} (h : Ext w w') {P : Program} {n : String} {g : Nat} {k : IntKind} {zs : List Int} (hg : P.globalNamed n = some g) (hv : Lib.TabIs P w n k zs) : Lib.TabIs P w' n k zs := Ext.var h hg hv

section
variable {H : Type} {enc : TypeId × Value → H} {P : Program}
theorem post_of_below {f : Func} {s : ChangeSpec} {apart fresh handsOn again : Bool} {W W' : World} {args : Array Value} {v : Value} {ds gs : List (DataW H)} {before pa pv : List MemPlace}
    (hW : DataW.Whole enc P f.params.toList s.vars apart W args.toList ds gs before)
    (hres : ∀ (b : Nat) (sp : Nat → Bool) (hd : Bool), DataW.TrodAll enc P W' b sp hd f.resultTypes.toList (v.resultList f.resultTypes.size) (s.fn H (ds ++ gs)).results [])
    (hargs : ∀ sp : Nat → Bool, (∀ p ∈ before, sp p.block = true) → DataW.TrodAll enc P W' 0 sp true f.params.toList args.toList (s.fn H (ds ++ gs)).args pa)
    (hvars : ∀ sp : Nat → Bool, (∀ p ∈ before, sp p.block = true) → DataW.TrodVars enc P W' sp s.vars (s.fn H (ds ++ gs)).vars pv)
    (hps : before = pa ++ pv) (hb : Below W.heap.size W W')
    (hok : ∀ (j : Nat) (t : TypeId) (r : Value), f.resultTypes[j]? = some t → (v.resultList f.resultTypes.size)[j]? = some r → Value.okWide P W' .any 0 t r) :
    s.post enc P f apart fresh handsOn again W args v W' := by
  have hlt : ∀ p ∈ before, p.block < W.heap.size := fun p hp => hW.lt p hp
  have hold : ∀ p ∈ before, (fun b => decide (b < W.heap.size)) p.block = true := fun p hp => by simpa using hlt p hp
  refine ⟨ds, gs, before, [], pa, pv, hW, hres _ _ _, hargs _ hold, hvars _ hold, World.keptBut_mono (fun p hp => ⟨hp, ?_⟩) (hb.frame (· ∈ before)), fun _ => ?_⟩
  · rw [hps, List.mem_append] at hp
    exact Or.inr hp
  · obtain ⟨_, _, _, _, _, hz, hn⟩ := hW
    refine ⟨hok, _, _, ([] ++ pa) ++ pv, ⟨[] ++ pa, pv, trodAll_append (hargs _ (fun _ _ => rfl)) (hres _ _ _), hvars _ (fun _ _ => rfl), rfl, ?_, ?_⟩, ?_⟩
    · intro b off hp
      have hin : MemPlace.cell b off ∈ before := by rw [hps]; simpa using hp
      rw [hb.frozen (hlt _ hin)]
      exact hz b off hin
    · intro ha
      have := hn ha
      rw [hps] at this
      simpa using this
    · intro p hp _
      rw [hps]
      simpa using hp
end

/-- what a row's list says of one of its variables -/
theorem laid_mem {P : Program} {w : World} {n : String} {d : DataW Unit} : ∀ {l : List (String × DataW Unit)} {ps : List MemPlace}, DataW.LaidVars P w l ps → (n, d) ∈ l →
    ∃ g t cs fuel p, P.globalNamed n = some g ∧ (P.globals[g]?).map (·.type) = some t ∧ w.var? P n = some cs ∧ DataW.trod (fun _ => ()) P w 0 (fun _ => true) false fuel t cs.toList = some (d, p)
  | [], _, _, hm => by cases hm
  | (n', d') :: r, ps, h, hm => by
    obtain ⟨g, t, cs, fuel, p, q, h1, h2, h3, h4, h5, _⟩ := h
    rcases List.mem_cons.1 hm with e | e
    · obtain ⟨rfl, rfl⟩ := Prod.mk.inj e
      exact ⟨g, t, cs, fuel, p, h1, h2, h3, h4⟩
    · exact laid_mem h5 e
theorem tabIs_of_mem {P : Program} {W : World} {name : String} {k : IntKind} {zs : List Int} {l : List (String × DataW Unit)} {g : Nat} {t e : TypeId} {n : Nat}
    (hg : P.globalNamed name = some g) (hty : (P.globals[g]?).map (·.type) = some t) (ht : P.underlying t = some (.array n e)) (he : P.underlying e = some (.int k)) (hce : P.cellsOf e = 1) (hct : P.cellsOf t = n)
    (h : laidMet P l W) (hm : (name, Lib.tabData k zs) ∈ l) : Lib.TabIs P W name k zs := by
  obtain ⟨ps, hl, _⟩ := h
  obtain ⟨g', t', cs, fuel, p, hg', ht', hvar, hd⟩ := laid_mem hl hm
  obtain rfl := Option.some.inj (hg.symm.trans hg')
  obtain rfl := Option.some.inj (hty.symm.trans ht')
  unfold Lib.TabIs
  rw [hvar, ← Lib.cells_of_tab ht he hce hct hd]
/-- a table of texts as a row lists it -/
def strsData {H : Type} (ls : List (List UInt8)) : DataW H := .agg (ls.map fun l => .lit (.string l))
theorem cells_of_strs {H : Type} {enc : TypeId × Value → H} {P : Program} {w : World} {base : Nat} {sp : Nat → Bool} {held : Bool} {fuel : Nat} {t e : TypeId} {n : Nat} {cs : List Value} {ls : List (List UInt8)} {p : List MemPlace}
    (ht : P.underlying t = some (.array n e)) (he : P.underlying e = some .string) (hce : P.cellsOf e = 1) (hct : P.cellsOf t = n)
    (h : DataW.trod enc P w base sp held fuel t cs = some (strsData ls, p)) : cs = ls.map fun l => Value.string ⟨l.toArray⟩ := by
  cases fuel with
  | zero => simp [DataW.trod] at h
  | succ fuel =>
    simp only [DataW.trod, ht, hce, hct, Nat.mul_one] at h
    split at h
    · rename_i hl
      obtain ⟨xs, hm, hx⟩ := Option.map_eq_some_iff.1 h
      have hxs : xs.map (·.1) = ls.map fun l => (DataW.lit (.string l) : DataW H) := by
        have := congrArg Prod.fst hx
        simpa [strsData] using this
      have hxl : xs.length = n := by simpa using Lib.mapM_length hm
      have hzl : ls.length = n := by
        have := congrArg List.length hxs
        simp at this
        omega
      apply List.ext_getElem?
      intro i
      by_cases hi : i < n
      · obtain ⟨b, hb, hf⟩ := Lib.mapM_at hm i i (by simp [hi])
        obtain ⟨s, hc, hbs⟩ := DataW.trod_string he hf
        have h1 : cs[i]? = some (.string s) := by
          have := congrArg (·[0]?) hc
          simpa [List.getElem?_take, List.getElem?_drop] using this
        have h2 : (xs.map (·.1))[i]? = some (DataW.lit (.string s.data.toList) : DataW H) := by simp [hb, hbs]
        rw [hxs] at h2
        simp only [List.getElem?_map, Option.map_eq_some_iff, DataW.lit.injEq, Lit.string.injEq] at h2
        obtain ⟨l', hl', he'⟩ := h2
        rw [h1, List.getElem?_map, hl', he']
        rfl
      · rw [List.getElem?_eq_none (by omega), List.getElem?_eq_none (by simp; omega)]
    · cases h
theorem strsAre_of_mem {P : Program} {W : World} {name : String} {ls : List (List UInt8)} {l : List (String × DataW Unit)} {g : Nat} {t e : TypeId} {n : Nat}
    (hg : P.globalNamed name = some g) (hty : (P.globals[g]?).map (·.type) = some t) (ht : P.underlying t = some (.array n e)) (he : P.underlying e = some .string) (hce : P.cellsOf e = 1) (hct : P.cellsOf t = n)
    (h : laidMet P l W) (hm : (name, strsData ls) ∈ l) : ∃ tt fr, W.heap[g]? = some (.cells (ls.map fun l => Value.string ⟨l.toArray⟩).toArray tt fr) := by
  obtain ⟨ps, hl, _⟩ := h
  obtain ⟨g', t', cs, fuel, p, hg', ht', hvar, hd⟩ := laid_mem hl hm
  obtain rfl := Option.some.inj (hg.symm.trans hg')
  obtain rfl := Option.some.inj (hty.symm.trans ht')
  have e1 := cells_of_strs ht he hce hct hd
  simp only [World.var?, hg, Option.bind_some] at hvar
  split at hvar
  · rename_i cs' tt fr hh
    obtain rfl := Option.some.inj hvar
    refine ⟨tt, fr, ?_⟩
    rw [hh, ← e1]
  · cases hvar
theorem laidMet_of_H {P : Program} {W : World} {l : List (String × DataW Unit)} (h : laidMetH P l W) (hh : (l.filter fun x => x.2.handleName?.isSome) = []) : laidMet P l W := by
  unfold laidMetH at h; rw [hh] at h; exact h
/-- the worlds behind w: some draws, some blocks -/
theorem Ext.regrown (w : World) (d : Nat) (os : Array Obj) : Ext w (Go.Sort.grow (redrawn w d) os) := below_regrown w d os
theorem quiet_same {P : Program} {f : FuncId} {args : Array Value} {w : World} {d : Nat} {os : Array Obj} {v : Value}
    (h : Calls P f args (Go.Sort.grow (redrawn w d) os) fun e w' => e = .returned v ∧ Go.Sort.grow (redrawn w d) os = w') : Calls P f args (Go.Sort.grow (redrawn w d) os) fun e w'' => e = .returned v ∧ ∃ p : Regrown, w'' = Go.Sort.grow (redrawn w p.d) p.os :=
  h.mono fun _ _ ⟨he, hw⟩ => ⟨he, ⟨d, os⟩, hw.symm⟩
theorem quiet_ext {P : Program} {f : FuncId} {args : Array Value} {w : World} {d : Nat} {os : Array Obj} {v : Value}
    (h : Calls P f args (Go.Sort.grow (redrawn w d) os) fun e w' => e = .returned v ∧ Ext (Go.Sort.grow (redrawn w d) os) w') : Calls P f args (Go.Sort.grow (redrawn w d) os) fun e w'' => e = .returned v ∧ ∃ p : Regrown, w'' = Go.Sort.grow (redrawn w p.d) p.os :=
  Calls.regrown_of h
end Go.Proofs.YtgiopklnielglaaDoor
/- What FrameHandlers reads of the program's tables: op.rows (two of its rows), frame.nought. -/
namespace Go.Proofs.YtgiopklnielglaaDoor
open Go.RowKit Go.ChangeShapes
set_option maxHeartbeats 2000000
set_option maxRecDepth 100000
/-- a row of op.rows as its datum: its name, its bounds, what it takes and leaves -/
def rowD (s : List UInt8) (a b c d e f : Int) : DataW Unit := .agg [.lit (.string s), .agg [.lit (.int .i64 a), .lit (.int .i64 b)], .agg [.lit (.int .i64 c), .lit (.int .i64 d)], .lit (.int .i64 e), .lit (.int .i64 f)]
def rowC (s : List UInt8) (a b c d e f : Int) : List Value := [.string ⟨s.toArray⟩, .int .i64 a, .int .i64 b, .int .i64 c, .int .i64 d, .int .i64 e, .int .i64 f]
theorem bound_cells {enc : TypeId × Value → Unit} {w : World} {base fuel : Nat} {sp : Nat → Bool} {held : Bool} {cs : List Value} {p : List MemPlace} {a b : Int}
    (h : DataW.trod enc Tryd.prog w base sp held fuel 125 cs = some (.agg [.lit (.int .i64 a), .lit (.int .i64 b)], p)) : cs = [.int .i64 a, .int .i64 b] := by
  obtain ⟨xs, k, _, hx, hlen, hxl, hf⟩ := DataW.trod_struct Tryd.underlying125 h
  have hc : Tryd.prog.cellsOf 125 = 2 := by kernel_rfl
  have ci : Tryd.prog.cellsOf 3 = 1 := by kernel_rfl
  rw [hc] at hlen
  match cs, hlen, xs, hxl with
  | [v0, v1], _, [y0, y1], _ =>
    have g0 := hf 0 _ rfl
    have g1 := hf 1 _ rfl
    simp [ci] at g0 g1 hx
    obtain ⟨a0, e0, x0, _⟩ := DataW.trod_int Tryd.underlying3 g0
    obtain ⟨a1, e1, x1, _⟩ := DataW.trod_int Tryd.underlying3 g1
    obtain ⟨⟨h0, h1⟩, _⟩ := hx
    rw [x0] at h0; rw [x1] at h1
    simp at e0 e1 h0 h1
    rw [e0, e1, h0, h1]
theorem row_cells {enc : TypeId × Value → Unit} {w : World} {base fuel : Nat} {sp : Nat → Bool} {held : Bool} {cs : List Value} {x : DataW Unit × List MemPlace} {s : List UInt8} {a b c d e f : Int}
    (h : DataW.trod enc Tryd.prog w base sp held fuel 127 cs = some x) (hx : x.1 = rowD s a b c d e f) : cs = rowC s a b c d e f := by
  obtain ⟨xs, k, _, rfl, hlen, hxl, hf⟩ := DataW.trod_struct Tryd.underlying127 h
  have hc : Tryd.prog.cellsOf 127 = 7 := by kernel_rfl
  have ci : Tryd.prog.cellsOf 3 = 1 := by kernel_rfl
  have cst : Tryd.prog.cellsOf 9 = 1 := by kernel_rfl
  have cb : Tryd.prog.cellsOf 125 = 2 := by kernel_rfl
  rw [hc] at hlen
  match cs, hlen, xs, hxl with
  | [v0, v1, v2, v3, v4, v5, v6], _, [y0, y1, y2, y3, y4], _ =>
    have g0 := hf 0 _ rfl
    have g1 := hf 1 _ rfl
    have g2 := hf 2 _ rfl
    have g3 := hf 3 _ rfl
    have g4 := hf 4 _ rfl
    simp [ci, cst, cb, rowD] at g0 g1 g2 g3 g4 hx
    obtain ⟨h0, h1, h2, h3, h4⟩ := hx
    obtain ⟨s0, e0, x0, _⟩ := DataW.trod_string Tryd.underlying9 g0
    have e1 := bound_cells (p := y1.2) (by rw [← h1]; exact g1)
    have e2 := bound_cells (p := y2.2) (by rw [← h2]; exact g2)
    obtain ⟨a3, e3, x3, _⟩ := DataW.trod_int Tryd.underlying3 g3
    obtain ⟨a4, e4, x4, _⟩ := DataW.trod_int Tryd.underlying3 g4
    rw [x0] at h0; rw [x3] at h3; rw [x4] at h4
    simp at e0 e1 e2 e3 e4 h0 h3 h4
    obtain ⟨rfl, rfl⟩ := e1
    obtain ⟨rfl, rfl⟩ := e2
    subst e0; subst e3; subst e4; subst h3; subst h4
    unfold rowC
    rw [← h0]
end Go.Proofs.YtgiopklnielglaaDoor
/- Plain: an arena's regions, as a rising list of places and sizes. No program in sight. -/
namespace Go.Proofs.YtgiopklnielglaaDoor
open Go.RowKit Go.Maps
namespace Arena
/-- regions: each with its size, rising, apart, within n words -/
def Good (n : Nat) (R : List (Nat × Nat)) : Prop := R.Pairwise (fun a b => a.1 + a.2 ≤ b.1) ∧ ∀ r ∈ R, 1 ≤ r.2 ∧ r.1 + r.2 ≤ n
/-- the map that holds them -/
def regD (R : List (Nat × Nat)) : DataW Unit := .map (R.map fun r => (Lit.int .i64 r.1, DataW.lit (.int .i64 r.2)))
def lenAt (R : List (Nat × Nat)) (k : Int) : Nat := match R.find? (fun r => decide ((r.1 : Int) = k)) with | some r => r.2 | none => 0
/-- the least place ahead of which no region with room lies -/
def scan (k : Nat) : Nat → List (Nat × Nat) → Nat
  | at_, [] => at_
  | at_, r :: R => if at_ + k ≤ r.1 then at_ else scan k (r.1 + r.2) R
def cutAt (n : Nat) (R : List (Nat × Nat)) (k : Nat) : Option Nat := if scan k 0 R + k ≤ n then some (scan k 0 R) else none
def ins (x : Nat × Nat) : List (Nat × Nat) → List (Nat × Nat)
  | [] => [x]
  | y :: R => if x.1 < y.1 then x :: y :: R else y :: ins x R
def drop (k : Int) (R : List (Nat × Nat)) : List (Nat × Nat) := R.filter fun r => !decide ((r.1 : Int) = k)

theorem sameKey_int (a : Nat) (k : Int) : (Lit.int .i64 a).sameKey (.int .i64 k) = decide ((a : Int) = k) := by simp [Lit.sameKey]
theorem regD_atKey (R : List (Nat × Nat)) (k : Int) : (regD R).atKey (.int .i64 k) (.lit (.int .i64 0)) = .lit (.int .i64 (lenAt R k)) := by
  unfold regD lenAt DataW.atKey
  simp only [List.find?_map]
  have : ((fun p : Lit × DataW Unit => p.1.sameKey (.int .i64 k)) ∘ fun r : Nat × Nat => (Lit.int .i64 r.1, DataW.lit (.int .i64 r.2))) = fun r => decide ((r.1 : Int) = k) := by
    funext r; exact sameKey_int r.1 k
  rw [this]
  cases R.find? (fun r => decide ((r.1 : Int) = k)) <;> rfl
theorem regD_del (R : List (Nat × Nat)) (k : Int) : (regD R).del (.int .i64 k) = regD (drop k R) := by
  unfold regD drop DataW.del
  simp only [List.filter_map]
  have : ((fun p : Lit × DataW Unit => !p.1.sameKey (.int .i64 k)) ∘ fun r : Nat × Nat => (Lit.int .i64 r.1, DataW.lit (.int .i64 r.2))) = fun r => !decide ((r.1 : Int) = k) := by
    funext r; simp [sameKey_int]
  rw [this]
theorem regD_insert (x : Nat × Nat) : ∀ R : List (Nat × Nat), DataW.insert (Lit.int .i64 x.1, DataW.lit (.int .i64 x.2)) (R.map fun r => (Lit.int .i64 r.1, (DataW.lit (.int .i64 r.2) : DataW Unit))) = (ins x R).map fun r => (Lit.int .i64 r.1, DataW.lit (.int .i64 r.2)) := by
  intro R
  induction R with
  | nil => rfl
  | cons y R ih =>
    simp only [List.map_cons, DataW.insert, ins, Lit.before]
    by_cases h : x.1 < y.1
    · have h2 : ((x.1 : Int) < (y.1 : Int)) := by omega
      simp [h, h2]
    · have h2 : ¬ ((x.1 : Int) < (y.1 : Int)) := by omega
      simp only [h, h2, decide_false, Bool.false_eq_true, if_false, List.map_cons]
      rw [ih]
theorem regD_put {R : List (Nat × Nat)} {x : Nat × Nat} (h : ∀ r ∈ R, r.1 ≠ x.1) : (regD R).put (.int .i64 x.1) (.lit (.int .i64 x.2)) = regD (ins x R) := by
  have hd : drop x.1 R = R := by
    unfold drop
    refine List.filter_eq_self.2 fun r hr => ?_
    have := h r hr
    simp; omega
  have he := regD_del R x.1
  rw [hd] at he
  unfold regD DataW.del at he
  injection he with he
  unfold regD DataW.put
  simp only
  rw [he, regD_insert]
theorem regD_keys (R : List (Nat × Nat)) : intKeys (regD R) = R.map fun r => (r.1 : Int) := by
  show (R.map _).map _ = _
  rw [List.map_map]
  rfl
theorem regD_size (R : List (Nat × Nat)) : Maps.size (regD R) = R.length := by
  unfold regD; rw [Maps.size_eq, List.length_map]

/-! ### laws of the places -/
theorem good_nil (n : Nat) : Good n [] := ⟨List.Pairwise.nil, fun r h => by cases h⟩
theorem good_ne {n : Nat} {R : List (Nat × Nat)} (hg : Good n R) {i j : Nat} (hij : i < j) (hj : j < R.length) : (R[i]'(by omega)).1 + (R[i]'(by omega)).2 ≤ R[j].1 :=
  List.pairwise_iff_getElem.1 hg.1 i j (by omega) hj hij
theorem good_tail {n : Nat} {r : Nat × Nat} {R : List (Nat × Nat)} (h : Good n (r :: R)) : Good n R := ⟨(List.pairwise_cons.1 h.1).2, fun x hx => h.2 x (.tail _ hx)⟩
theorem scan_apart {n k : Nat} : ∀ (R : List (Nat × Nat)) (at_ : Nat), Good n R → (∀ r ∈ R, at_ ≤ r.1) → at_ ≤ scan k at_ R ∧ ∀ r ∈ R, scan k at_ R + k ≤ r.1 ∨ r.1 + r.2 ≤ scan k at_ R := by
  intro R
  induction R with
  | nil => intro a _ _; exact ⟨Nat.le_refl _, fun r h => by cases h⟩
  | cons x R ih =>
    intro a hg ha
    have hx := List.pairwise_cons.1 hg.1
    unfold scan
    split
    · rename_i hk
      refine ⟨Nat.le_refl _, fun r hr => ?_⟩
      rcases List.mem_cons.1 hr with rfl | hr
      · exact .inl hk
      · have := hx.1 r hr; exact .inl (by omega)
    · obtain ⟨h1, h2⟩ := ih (x.1 + x.2) (good_tail hg) (fun r hr => hx.1 r hr)
      have hax := ha x (.head _)
      refine ⟨by omega, fun r hr => ?_⟩
      rcases List.mem_cons.1 hr with rfl | hr
      · exact .inr h1
      · exact h2 r hr
theorem scan_free {n k : Nat} {R : List (Nat × Nat)} (hg : Good n R) : ∀ r ∈ R, scan k 0 R + k ≤ r.1 ∨ r.1 + r.2 ≤ scan k 0 R := (scan_apart R 0 hg fun _ _ => Nat.zero_le _).2
theorem scan_ne {n k : Nat} {R : List (Nat × Nat)} (hg : Good n R) (hk : 1 ≤ k) : ∀ r ∈ R, r.1 ≠ scan k 0 R := by
  intro r hr
  have h1 := (hg.2 r hr).1
  rcases scan_free (k := k) hg r hr with h | h <;> omega
theorem scan_le {n k : Nat} : ∀ (R : List (Nat × Nat)) (a : Nat), Good n R → a ≤ n → scan k a R ≤ n := by
  intro R
  induction R with
  | nil => intro a _ h; exact h
  | cons x R ih =>
    intro a hg ha
    unfold scan
    split
    · exact ha
    · exact ih _ (good_tail hg) (hg.2 x (.head _)).2
theorem mem_ins {x r : Nat × Nat} : ∀ {R : List (Nat × Nat)}, r ∈ ins x R ↔ r = x ∨ r ∈ R := by
  intro R
  induction R with
  | nil => simp [ins]
  | cons y R ih =>
    unfold ins
    split
    · simp
    · simp only [List.mem_cons, ih]
      constructor
      · rintro (h | h | h)
        · exact .inr (.inl h)
        · exact .inl h
        · exact .inr (.inr h)
      · rintro (h | h | h)
        · exact .inr (.inl h)
        · exact .inl h
        · exact .inr (.inr h)
theorem length_ins (x : Nat × Nat) : ∀ R : List (Nat × Nat), (ins x R).length = R.length + 1 := by
  intro R
  induction R with
  | nil => rfl
  | cons y R ih =>
    unfold ins
    split
    · rfl
    · simp [ih]
theorem good_ins {n : Nat} {x : Nat × Nat} (h1 : 1 ≤ x.2) (h2 : x.1 + x.2 ≤ n) : ∀ {R : List (Nat × Nat)}, Good n R → (∀ r ∈ R, x.1 + x.2 ≤ r.1 ∨ r.1 + r.2 ≤ x.1) → Good n (ins x R) := by
  intro R
  induction R with
  | nil =>
    intro _ _
    refine ⟨List.pairwise_singleton _ _, fun r hr => ?_⟩
    obtain rfl := List.mem_singleton.1 hr
    exact ⟨h1, h2⟩
  | cons y R ih =>
    intro hg hx
    have hy := List.pairwise_cons.1 hg.1
    have hy1 := (hg.2 y (.head _)).1
    refine ⟨?_, fun r hr => ?_⟩
    · unfold ins
      split
      · rename_i hlt
        have hxy : x.1 + x.2 ≤ y.1 := by rcases hx y (.head _) with h | h <;> omega
        refine List.pairwise_cons.2 ⟨fun r hr => ?_, hg.1⟩
        rcases List.mem_cons.1 hr with rfl | hr
        · exact hxy
        · have := hy.1 r hr; omega
      · rename_i hlt
        have hxy : y.1 + y.2 ≤ x.1 := by rcases hx y (.head _) with h | h <;> omega
        refine List.pairwise_cons.2 ⟨fun r hr => ?_, (ih (good_tail hg) fun r hr => hx r (.tail _ hr)).1⟩
        rcases mem_ins.1 hr with rfl | hr
        · exact hxy
        · exact hy.1 r hr
    · rcases mem_ins.1 hr with rfl | hr
      · exact ⟨h1, h2⟩
      · exact hg.2 r hr
theorem good_cut {n k : Nat} {R : List (Nat × Nat)} (hg : Good n R) (hk : 1 ≤ k) (hn : scan k 0 R + k ≤ n) : Good n (ins (scan k 0 R, k) R) := good_ins hk hn hg (scan_free hg)
theorem good_drop {n : Nat} {R : List (Nat × Nat)} (k : Int) (hg : Good n R) : Good n (drop k R) := ⟨hg.1.sublist List.filter_sublist, fun r hr => hg.2 r (List.mem_filter.1 hr).1⟩
theorem lenAt_some {R : List (Nat × Nat)} {k : Int} (h : lenAt R k ≠ 0) : ∃ r ∈ R, (r.1 : Int) = k ∧ lenAt R k = r.2 := by
  unfold lenAt at *
  cases hf : R.find? (fun r => decide ((r.1 : Int) = k)) with
  | none => rw [hf] at h; exact absurd rfl h
  | some r =>
    have h1 := List.mem_of_find?_eq_some hf
    have h2 := List.find?_some hf
    exact ⟨r, h1, by simpa using h2, rfl⟩
theorem lenAt_mem {n : Nat} {r : Nat × Nat} : ∀ {R : List (Nat × Nat)}, Good n R → r ∈ R → lenAt R r.1 = r.2 := by
  intro R
  induction R with
  | nil => intro _ h; cases h
  | cons y R ih =>
    intro hg hr
    have hy := List.pairwise_cons.1 hg.1
    have hy1 := (hg.2 y (.head _)).1
    unfold lenAt
    rw [List.find?_cons]
    rcases List.mem_cons.1 hr with rfl | hr
    · simp
    · have := hy.1 r hr
      have hne : decide ((y.1 : Int) = (r.1 : Int)) = false := by simp; omega
      rw [hne]
      exact ih (good_tail hg) hr
theorem good_length {n : Nat} : ∀ (R : List (Nat × Nat)) (a : Nat), Good n R → (∀ r ∈ R, a ≤ r.1) → R ≠ [] → a + R.length ≤ n := by
  intro R
  induction R with
  | nil => intro a _ _ h; exact absurd rfl h
  | cons y R ih =>
    intro a hg ha _
    have hy := List.pairwise_cons.1 hg.1
    have hy1 := hg.2 y (.head _)
    have hay := ha y (.head _)
    by_cases hR : R = []
    · subst hR; simp; omega
    · have := ih (y.1 + y.2) (good_tail hg) (fun r hr => hy.1 r hr) hR
      simp only [List.length_cons]; omega
theorem good_len {n : Nat} {R : List (Nat × Nat)} (hg : Good n R) : R.length ≤ n := by
  by_cases h : R = []
  · subst h; exact Nat.zero_le _
  · have := good_length R 0 hg (fun _ _ => Nat.zero_le _) h; omega
/-- what is sorted out of the keys is the places, rising -/
theorem keys_sorted {n : Nat} {R : List (Nat × Nat)} {ss : List Int} (hg : Good n R) (h : ss.Perm (intKeys (regD R))) : ss.mergeSort (fun x y => decide (x ≤ y)) = R.map fun r => (r.1 : Int) := by
  rw [regD_keys] at h
  have hs : (R.map fun r => (r.1 : Int)).Pairwise (fun a b => a ≤ b) := by
    rw [List.pairwise_map]
    exact hg.1.imp fun {a b} hab => by omega
  have h1 : (ss.mergeSort (fun x y => decide (x ≤ y))).Pairwise (fun a b => a ≤ b) := by
    have := List.pairwise_mergeSort (le := fun x y : Int => decide (x ≤ y)) (fun a b c h1 h2 => by simp at *; omega) (fun a b => by simp; omega) ss
    exact this.imp fun {a b} h => by simpa using h
  exact List.Perm.eq_of_pairwise (fun a b _ _ h1 h2 => by omega) h1 hs ((List.mergeSort_perm ss _).trans h)
end Arena
end Go.Proofs.YtgiopklnielglaaDoor
/- A world that has grown, and turned in some of its blocks alone. -/
namespace Go.Proofs.YtgiopklnielglaaDoor
open Go.RowKit
/-- w' is w grown, turned at most in the blocks of a list -/
structure Turn (bs : List Nat) (w w' : World) : Prop where
  os : w'.os = w.os
  tape : w'.tape = w.tape
  output : w'.output = w.output
  size : w.heap.size ≤ w'.heap.size
  block : ∀ k, k < w.heap.size → k ∉ bs → w'.heap[k]? = w.heap[k]?
theorem Turn.refl (bs : List Nat) (w : World) : Turn bs w w := ⟨rfl, rfl, rfl, Nat.le_refl _, fun _ _ _ => rfl⟩
theorem Turn.trans {bs : List Nat} {a b c : World} (h : Turn bs a b) (k : Turn bs b c) : Turn bs a c :=
  ⟨k.os.trans h.os, k.tape.trans h.tape, k.output.trans h.output, Nat.le_trans h.size k.size, fun i hi hb => (k.block i (Nat.lt_of_lt_of_le hi h.size) hb).trans (h.block i hi hb)⟩
theorem Turn.mono {bs cs : List Nat} {w w' : World} (h : Turn bs w w') (hs : ∀ b ∈ bs, b ∈ cs) : Turn cs w w' :=
  ⟨h.os, h.tape, h.output, h.size, fun i hi hb => h.block i hi fun hm => hb (hs i hm)⟩
theorem Turn.of_ext {bs : List Nat} {w w' : World} (h : Ext w w') : Turn bs w w' := ⟨Below.os h, Below.tape h, Below.output h, Below.size h, fun i hi _ => Below.block h i hi⟩
theorem Turn.ext {w w' : World} (h : Turn [] w w') : Ext w w' := ⟨h.os, h.tape, h.output, h.size, fun i hi => h.block i hi (by simp)⟩
theorem Turn.of_grown {w w' : World} {row : Option Nat} {bs : List Nat} (h : w.grownBy w' row) (hr : ∀ b, row = some b → b ∈ bs ∨ w.heap.size ≤ b) : Turn bs w w' :=
  ⟨h.os, h.tape, h.output, h.size, fun i hi hb => h.block i hi fun e => by rcases hr i e.symm with h | h; exact hb h; omega⟩
theorem Turn.setCell {bs : List Nat} {w w' : World} (h : Turn bs w w') {a : Addr} (ha : a.block ∈ bs ∨ w.heap.size ≤ a.block) (u : Value) : Turn bs w (w'.setCell a u) := by
  refine ⟨h.os, h.tape, h.output, by simpa [World.setCell] using h.size, fun i hi hb => ?_⟩
  rw [Below.heap_setCell _ _ _ _ (by rintro rfl; rcases ha with h | h; exact hb h; omega)]
  exact h.block i hi hb
theorem Turn.below {B : Nat} {bs : List Nat} {w w' : World} (h : Turn bs w w') (hB : B ≤ w.heap.size) (hb : ∀ b ∈ bs, B ≤ b) : Below B w w' :=
  ⟨h.os, h.tape, h.output, h.size, fun i hi => h.block i (by omega) fun hm => by have := hb i hm; omega⟩
theorem Turn.cell {bs : List Nat} {w w' : World} (h : Turn bs w w') {a : Addr} {v : Value} (ha : a.block ∉ bs) (hc : w.cell? a = some v) : w'.cell? a = some v := by
  have hl : a.block < w.heap.size := by
    by_cases hl : a.block < w.heap.size
    · exact hl
    · have : w.heap[a.block]? = none := Array.getElem?_eq_none (by omega)
      simp [World.cell?, this] at hc
  rw [World.cell?_of_block (w := w) (h.block a.block hl ha)]
  exact hc
end Go.Proofs.YtgiopklnielglaaDoor
/- Slices of pairs; the walk of keep.Pairs. -/
namespace Go.Proofs.YtgiopklnielglaaDoor
open Go.RowKit Go.Maps
set_option maxHeartbeats 2000000
set_option maxRecDepth 100000
theorem info_pair : (Tryd.prog.info? 96).map (fun i => (i.zero, i.size, i.bytes)) = some (some (.agg #[.int .i64 0, .int .i64 0]), 2, 16) := by kernel_rfl
def pairC (r : Nat × Nat) : List Value := [.int .i64 r.1, .int .i64 r.2]
/-- a slice of pairs of the call's own -/
def PairRow (w : World) (base : Nat) (v : Value) (R : List (Nat × Nat)) : Prop := w.ownsRow base 96 2 v R.length (R.flatMap pairC)
theorem PairRow.nil (w : World) (base : Nat) : PairRow w base (.slice none 0 0) [] := World.ownsRow_nil _ _ _ _
theorem PairRow.alloc {w : World} {base : Nat} {v : Value} {R : List (Nat × Nat)} (h : PairRow w base v R) (o : Obj) : PairRow (w.alloc o) base v R := World.ownsRow.alloc h o
theorem PairRow.len {w : World} {base : Nat} {v : Value} {R : List (Nat × Nat)} (h : PairRow w base v R) : ∃ a c, v = .slice a R.length c ∧ R.length ≤ c ∧ c ≤ maxLen := by
  rcases h.2 with ⟨h1, h2⟩ | ⟨g, cap, cur, h1, _, _, h2, h3, _⟩
  · exact ⟨none, 0, by rw [h1, h2], by omega, Nat.zero_le _⟩
  · exact ⟨_, cap, h1, h2, h3⟩
theorem PairRow.own {w : World} {base : Nat} {v : Value} {R : List (Nat × Nat)} (h : PairRow w base v R) : ∀ b, v.ownBlock = some b → base ≤ b := by
  intro b hb
  rcases h.2 with ⟨h1, _⟩ | ⟨g, cap, cur, h1, hb1, _⟩
  · subst h1; simp [Value.ownBlock] at hb
  · subst h1; simp only [Value.ownBlock, Option.some.injEq] at hb; omega
theorem PairRow.mono {w : World} {base base' : Nat} {v : Value} {R : List (Nat × Nat)} (h : PairRow w base v R) (hb : base' ≤ base) : PairRow w base' v R := by
  refine ⟨h.1, ?_⟩
  rcases h.2 with h1 | ⟨g, cap, cur, h1, hb1, hg, h2⟩
  · exact .inl h1
  · exact .inr ⟨g, cap, cur, h1, by omega, hg, h2⟩
theorem PairRow.turn {w w' : World} {base : Nat} {bs : List Nat} {v : Value} {R : List (Nat × Nat)} (h : PairRow w base v R) (t : Turn bs w w') (hb : ∀ b ∈ bs, b < base) : PairRow w' base v R := by
  refine ⟨h.1, ?_⟩
  rcases h.2 with h1 | ⟨g, cap, cur, h1, hb1, hg, h2⟩
  · exact .inl h1
  · exact .inr ⟨g, cap, cur, h1, hb1, by rw [t.block g (Array.getElem?_eq_some_iff.1 hg).1 (fun hm => by have := hb g hm; omega)]; exact hg, h2⟩
theorem cell_pair {w : World} {a b : Value} {T : TypeId} : ∀ j u, [a, b][j]? = some u → (w.alloc (.cells #[a, b] T)).cell? ((⟨w.heap.size, 0, none⟩ : Addr).add j) = some u := by
  intro j u h
  have hb : (w.alloc (.cells #[a, b] T)).heap[w.heap.size]? = some (.cells #[a, b] T (0, 0)) := heap_alloc_new _ _
  match j, h with
  | 0, h => simp at h; subst h; simp [Addr.add]
  | 1, h => simp at h; subst h; simp [Addr.add]
  | j + 2, h => simp at h
theorem wpList_append_pair {ops : Array Oper} {rest : List Oper} {o : Oper} {a : Act} {Q : Exit → Act → World → Prop} {w : World} (hgd : o.guard = none) (s x : Operand)
    (ho : o.op = .call { callee := .builtin .append, args := #[s, x], argTypes := #[92, 92] })
    (base : Nat) (v : Value) (R : List (Nat × Nat)) (hs : a.eval s = v) (hown : PairRow w base v R) (r1 r2 : Nat) (g : Nat) (hx : a.eval x = .slice (some ⟨g, 0, none⟩) 1 1) (hgs : w.heap.size = g)
    (hlen : R.length + 1 ≤ 1099511627776) (hbase : base ≤ w.heap.size)
    (h : ∀ v' w', PairRow w' base v' (R ++ [(r1, r2)]) → (w.alloc (.cells #[.int .i64 r1, .int .i64 r2] 96)).grownBy w' v.ownBlock → wpList Tryd.prog ops Q rest (a.put o.dst v') w') :
    wpList Tryd.prog ops Q (o :: rest) a (w.alloc (.cells #[.int .i64 r1, .int .i64 r2] 96)) := by
  subst hgs
  obtain ⟨i0, hi, hz0, hz1, hz2⟩ := info_parts info_pair
  refine wpList_append_own (P := Tryd.prog) (w := w.alloc (.cells #[.int .i64 r1, .int .i64 r2] 96)) hgd s x 92 ho base 96 i0 _ 2 16 Tryd.underlying92 hi hz0 hz1 hz2 rfl (by decide) v R.length (R.flatMap pairC) hs (World.ownsRow.alloc hown _)
    ⟨w.heap.size, 0, none⟩ 1 1 (pairC (r1, r2)) hx rfl cell_pair ?_ (by unfold maxLen; omega) (by omega) (by simp; omega) ?_
  · intro u hu; simp [pairC] at hu; rcases hu with rfl | rfl <;> rfl
  · intro v' w' hown' hgrow _
    refine h v' w' ?_ hgrow
    unfold PairRow
    rw [List.length_append, List.flatMap_append]
    simpa using hown'
/-- a slice that reads as pairs, wherever it lies -/
def PairSl (w : World) (v : Value) (l : List (Nat × Nat)) : Prop := ∃ q c, v = .slice q l.length c ∧ l.length ≤ c ∧ c ≤ maxLen ∧ ∀ (i : Nat) (x : Nat × Nat), l[i]? = some x → ∃ b off, q = some ⟨b, off, none⟩ ∧ w.cell? ⟨b, off + i * 2, none⟩ = some (.int .i64 x.1) ∧ w.cell? ⟨b, off + i * 2 + 1, none⟩ = some (.int .i64 x.2)
theorem PairSl.ext {w w' : World} {v : Value} {l : List (Nat × Nat)} (h : PairSl w v l) (e : Ext w w') : PairSl w' v l := by
  obtain ⟨q, c, hv, h1, h2, hc⟩ := h
  exact ⟨q, c, hv, h1, h2, fun i x hx => by obtain ⟨b, off, hq, hc1, hc2⟩ := hc i x hx; exact ⟨b, off, hq, e.cell hc1, e.cell hc2⟩⟩
theorem flat2 : ∀ (l : List (Nat × Nat)) (i : Nat) (x : Nat × Nat), l[i]? = some x → (l.flatMap pairC)[i * 2]? = some (.int .i64 x.1) ∧ (l.flatMap pairC)[i * 2 + 1]? = some (.int .i64 x.2) := by
  intro l
  induction l with
  | nil => intro i x h; simp at h
  | cons y l ih =>
    intro i x h
    cases i with
    | zero => simp at h; subst h; simp [pairC]
    | succ i =>
      have h2 := ih i x (by simpa using h)
      rw [List.flatMap_cons]
      have e0 : (i + 1) * 2 = (pairC y).length + i * 2 := by simp [pairC]; omega
      have e1 : (i + 1) * 2 + 1 = (pairC y).length + (i * 2 + 1) := by simp [pairC]; omega
      rw [e0, show (pairC y).length + i * 2 + 1 = (pairC y).length + (i * 2 + 1) by omega, List.getElem?_append_right (by omega), List.getElem?_append_right (by omega)]
      simpa using h2
theorem PairRow.sl {w : World} {base : Nat} {v : Value} {l : List (Nat × Nat)} (h : PairRow w base v l) : PairSl w v l := by
  rcases h.2 with ⟨h1, h2⟩ | ⟨g, cap, cur, h1, hb, hg, h2, h3, h4, h5⟩
  · refine ⟨none, 0, by rw [h1, h2], by omega, Nat.zero_le _, fun i x hx => ?_⟩
    have := (List.getElem?_eq_some_iff.1 hx).1
    omega
  · refine ⟨_, cap, h1, h2, h3, fun i x hx => ⟨g, 0, rfl, ?_⟩⟩
    subst h1
    have hi : i < l.length := (List.getElem?_eq_some_iff.1 hx).1
    have hf := flat2 l i x hx
    rw [Nat.zero_add, World.ownsRow.cellAt h (i * 2) (by omega), World.ownsRow.cellAt h (i * 2 + 1) (by omega)]
    exact hf
theorem run_part2 (xs : Array Value) (i : Nat) (v : Value) (h : xs[i]? = some v) (w : World) : (part 3 xs i).run Tryd.prog w = .ok v w := by
  have hA : ∀ w, (isAgg 3).run Tryd.prog w = .ok false w := fun w => by kernel_rfl
  simp [part, hA, h]
theorem run_equal_pair' (dd : Nat) (a b c d : Int) (w : World) : (Op.equalIn (dd + 1 + 1) 96 (.agg #[.int .i64 a, .int .i64 b]) (.agg #[.int .i64 c, .int .i64 d])).run Tryd.prog w = .ok ((a == c) && (b == d)) w := by
  have hS : ∀ w, (sizeOf 3).run Tryd.prog w = .ok 1 w := fun w => by kernel_rfl
  have h0 : ∀ (x y : Value) w, (part 3 #[x, y] 0).run Tryd.prog w = .ok x w := fun x y w => run_part2 _ 0 x rfl w
  have h1 : ∀ (x y : Value) w, (part 3 #[x, y] 1).run Tryd.prog w = .ok y w := fun x y w => run_part2 _ 1 y rfl w
  have he : ∀ (x y : Int) w, (Op.equalIn (dd + 1) 3 (.int .i64 x) (.int .i64 y)).run Tryd.prog w = .ok (x == y) w := fun x y w => run_equalIn_int w dd 3 .i64 .i64 x y Tryd.underlying3
  rw [Op.equalIn]
  simp only [Sem.run_bind, run_underlying Tryd.underlying96, Result.andThen_ok, hS]
  simp [Std.Legacy.Range.forIn_eq_forIn_range', List.range', h0, h1, he]
  by_cases e1 : a = c <;> by_cases e2 : b = d <;> simp [e1, e2]
theorem run_equal_pair (a b c d : Int) (w : World) : (Op.equalIn 10000 96 (.agg #[.int .i64 a, .int .i64 b]) (.agg #[.int .i64 c, .int .i64 d])).run Tryd.prog w = .ok ((a == c) && (b == d)) w := run_equal_pair' 9998 a b c d w
end Go.Proofs.YtgiopklnielglaaDoor
/- Slices of words; the walk of keep.Words. -/
namespace Go.Proofs.YtgiopklnielglaaDoor
open Go.RowKit Go.Maps
set_option maxHeartbeats 2000000
set_option maxRecDepth 100000
theorem info_u64 : (Tryd.prog.info? 32).map (fun i => (i.zero, i.size, i.bytes)) = some (some (.int .u64 0), 1, 8) := by kernel_rfl
/-- a slice that reads as words, wherever it lies -/
def WordSl (w : World) (v : Value) (l : List Int) : Prop := ∃ q c, v = .slice q l.length c ∧ l.length ≤ c ∧ c ≤ maxLen ∧ ∀ (i : Nat) (x : Int), l[i]? = some x → ∃ b off, q = some ⟨b, off, none⟩ ∧ w.cell? ⟨b, off + i, none⟩ = some (.int .u64 x)
theorem WordSl.ext {w w' : World} {v : Value} {l : List Int} (h : WordSl w v l) (e : Ext w w') : WordSl w' v l := by
  obtain ⟨q, c, hv, h1, h2, hc⟩ := h
  exact ⟨q, c, hv, h1, h2, fun i x hx => by obtain ⟨b, off, hq, hcc⟩ := hc i x hx; exact ⟨b, off, hq, e.cell hcc⟩⟩
theorem WordSl.of_row {w : World} {base : Nat} {v : Value} {l : List Int} (h : w.ownsRow base 32 1 v l.length (l.map fun x => Value.int .u64 x)) : WordSl w v l := by
  rcases h.2 with ⟨h1, h2⟩ | ⟨g, cap, cur, h1, hb, hg, h2, h3, h4, h5⟩
  · refine ⟨none, 0, by rw [h1, h2], by omega, Nat.zero_le _, fun i x hx => ?_⟩
    have := (List.getElem?_eq_some_iff.1 hx).1
    omega
  · refine ⟨_, cap, h1, h2, h3, fun i x hx => ⟨g, 0, rfl, ?_⟩⟩
    subst h1
    have hi : i < l.length := (List.getElem?_eq_some_iff.1 hx).1
    rw [Nat.zero_add, World.ownsRow.cellAt h i (by omega), List.getElem?_map, hx]
    rfl
theorem keep_words {w : World} {va vb : Value} {a b : List Int} (ha : WordSl w va a) (hb : WordSl w vb b) : Calls Tryd.prog 17 #[va, vb] w fun e w' => e = .returned (.bool (decide (a = b))) ∧ Ext w w' := by
  obtain ⟨qa, ca, rfl, la1, la2, hca⟩ := ha
  obtain ⟨qb, cb, rfl, lb1, lb2, hcb⟩ := hb
  unfold maxLen at la2 lb2
  by_cases hl : a.length = b.length
  · have HA := Lib.hid hca; have HB := Lib.hid hcb
    have HL := Lib.hid hl.symm
    rw [← hl] at lb1 ⊢
    clear hca hcb hl
    go_enter Tryd.func17, Tryd.ntmps17
    go_wp2
    go_loopw [5] (fun i wr => ∃ k : Nat, k ≤ a.length ∧ i = .int .i64 k ∧ a.take k = b.take k ∧ Ext w wr) (fun i _ => a.length - (Go.RowKit.intOf i).toNat)
    case atStart => exact ⟨0, by omega, rfl, rfl, Ext.refl _⟩
    case round =>
      obtain ⟨k, hk, rfl, htk, hx⟩ := hrel
      have HT := Lib.hid htk
      clear htk
      by_cases hlt : k < a.length
      · have hltb : k < b.length := by rw [HL.out]; exact hlt
        obtain ⟨b1, o1, rfl, p0⟩ := HA.out k a[k] (List.getElem?_eq_getElem hlt)
        obtain ⟨b2, o2, rfl, q0⟩ := HB.out k b[k] (List.getElem?_eq_getElem hltb)
        have P0 := hx.cell p0; have Q0 := hx.cell q0
        clear p0 q0
        have HX := Lib.hid (show a[k] = b[k] → a.take (k + 1) = b.take (k + 1) by intro e; rw [List.take_succ_eq_append_getElem hlt, List.take_succ_eq_append_getElem hltb, e, HT.out])
        have HY := Lib.hid (show a[k] ≠ b[k] → decide (a = b) = false by intro e; exact decide_eq_false (fun h => e (by subst h; rfl)))
        generalize a[k] = x at *
        generalize b[k] = y at *
        have i1 : (k : Int) < (a.length : Int) := by omega
        by_cases hxy : x = y
        · subst hxy
          go_wp2
          go_big_quiet (fail)
          go_wp2
          exact ⟨⟨k + 1, by omega, by go_num, HX.out (by first | trivial | rfl), hx.trans (Ext.drewN _ _)⟩, by simp [Go.RowKit.intOf]; omega⟩
        · have hres := HY.out hxy
          have bne : (x == y) = false := beq_false_of_ne hxy
          have HRS := Lib.hid hres
          clear hres
          go_wp2
          go_big_quiet (fail)
          go_wp2
          go_ret
          rw [HRS.out]
          exact ⟨rfl, hx.trans (Ext.drewN _ _)⟩
      · obtain rfl : k = a.length := by omega
        have hab : a = b := by
          have := HT.out
          rw [List.take_length, ← HL.out, List.take_length] at this
          exact this
        have HAB := Lib.hid (decide_eq_true hab)
        clear hab
        go_wp2
        go_ret
        rw [HAB.out]
        exact ⟨rfl, hx⟩
  · have bl : ((a.length : Int) == (b.length : Int)) = false := beq_false_of_ne (by omega)
    have hab : decide (a = b) = false := decide_eq_false (fun e => hl (by rw [e]))
    rw [hab]
    clear hca hcb hab hl
    go_enter Tryd.func17, Tryd.ntmps17
    go_wp2
    go_ret
    exact ⟨rfl, Ext.refl _⟩
end Go.Proofs.YtgiopklnielglaaDoor
/-
  DERIVED: THE SHELF's CONTRACTS AT THIS DUMP, IN PLAIN WORDS (tools/lay-plain.mjs out of 'TrydShelf.lean', which tools/lay-shelf.mjs wrote): THE SAME DECLARATIONS UNDER THE SAME NAMES: 'import', 'namespace', 'open', 'def', 'theorem' AND NOTHING ELSE: no command of the shelf's: FOR A HAND-IN. Each laying: the table of numbers ('.._ren') and one theorem, a field a fact of the dump's own or the kernel's comparison; each contract: ONE APPLICATION.
-/
namespace Go.Proofs
open Go.Shelf
def Tryd.keysA_ren : Go.Shelf.Ren := ⟨fun | 7 => 54 | 10 => 66 | n => n, fun | 23 => 89 | 26 => 3 | 3 => 3 | 28 => 113 | 0 => 0 | 27 => 112 | 33 => 122 | 4 => 4 | n => n, fun | n => n⟩
theorem Tryd.keysA : Go.Proofs.SlLaysZI.n7 Tryd.prog Tryd.keysA_ren := {
  mixed := by kernel_rfl
  f7 := ⟨Tryd.f54.name, by decide, Tryd.func54.trans (congrArg some (by kernel_rfl))⟩
  f10 := ⟨Tryd.f66.name, by decide, Tryd.func66.trans (congrArg some (by kernel_rfl))⟩
  t0 := Tryd.underlying0
  a0 := Tryd.isAgg0
  z0 := Tryd.sizeOf0
  v0 := Tryd.zeroValue0
  t4 := Tryd.underlying4
  a4 := Tryd.isAgg4
  z4 := Tryd.sizeOf4
  v4 := Tryd.zeroValue4
  t23 := Tryd.underlying89
  a23 := Tryd.isAgg89
  z23 := Tryd.sizeOf89
  v23 := Tryd.zeroValue89
  t26 := Tryd.underlying3
  a26 := Tryd.isAgg3
  z26 := Tryd.sizeOf3
  v26 := Tryd.zeroValue3
  t27 := Tryd.underlying112
  a27 := Tryd.isAgg112
  z27 := Tryd.sizeOf112
  v27 := Tryd.zeroValue112
  t28 := Tryd.underlying113
  a28 := Tryd.isAgg113
  z28 := Tryd.sizeOf113
  v28 := Tryd.zeroValue113
  t33 := Tryd.underlying122
  a33 := Tryd.isAgg122
  z33 := Tryd.sizeOf122
  v33 := Tryd.zeroValue122 }
def Tryd.sortedA_ren : Go.Shelf.Ren := ⟨fun | 6 => 53 | 8 => 64 | 9 => 65 | 11 => 73 | 13 => 75 | 12 => 74 | 23 => 85 | 24 => 86 | 14 => 77 | 15 => 78 | 16 => 79 | 17 => 80 | 18 => 81 | 19 => 82 | 20 => 62 | 21 => 83 | 22 => 84 | 25 => 87 | 26 => 88 | 27 => 89 | 28 => 90 | 29 => 91 | 30 => 72 | 31 => 92 | n => n, fun | 26 => 3 | 28 => 113 | 24 => 62 | 0 => 0 | 3 => 3 | 37 => 86 | 48 => 155 | 50 => 32 | 4 => 4 | 40 => 149 | 39 => 148 | 45 => 73 | 5 => 5 | 9 => 9 | 51 => 157 | 55 => 161 | 57 => 163 | 58 => 164 | 33 => 122 | n => n, fun | n => n⟩
theorem Tryd.sortedA : Go.Proofs.SlLaysZI.n6 Tryd.prog Tryd.sortedA_ren := {
  mixed := by kernel_rfl
  f6 := ⟨Tryd.f53.name, by decide, Tryd.func53.trans (congrArg some (by kernel_rfl))⟩
  f8 := ⟨Tryd.f64.name, by decide, Tryd.func64.trans (congrArg some (by kernel_rfl))⟩
  f11 := ⟨Tryd.f73.name, by decide, Tryd.func73.trans (congrArg some (by kernel_rfl))⟩
  t0 := Tryd.underlying0
  a0 := Tryd.isAgg0
  z0 := Tryd.sizeOf0
  v0 := Tryd.zeroValue0
  t24 := Tryd.underlying62
  a24 := Tryd.isAgg62
  z24 := Tryd.sizeOf62
  v24 := Tryd.zeroValue62
  t26 := Tryd.underlying3
  a26 := Tryd.isAgg3
  z26 := Tryd.sizeOf3
  v26 := Tryd.zeroValue3
  t28 := Tryd.underlying113
  a28 := Tryd.isAgg113
  z28 := Tryd.sizeOf113
  v28 := Tryd.zeroValue113
  i26 := by kernel_rfl }
def Tryd.sortA_ren : Go.Shelf.Ren := ⟨fun | 5 => 65 | 8 => 75 | 7 => 74 | 19 => 85 | 20 => 86 | 10 => 77 | 11 => 78 | 12 => 79 | 13 => 80 | 14 => 81 | 15 => 82 | 16 => 62 | 17 => 83 | 18 => 84 | 30 => 87 | 31 => 88 | 32 => 89 | 33 => 90 | 34 => 91 | 35 => 72 | 40 => 92 | n => n, fun | 23 => 62 | 25 => 3 | 3 => 3 | 32 => 86 | 22 => 62 | 0 => 0 | 44 => 155 | 46 => 32 | 4 => 4 | 36 => 149 | 35 => 148 | 41 => 73 | 5 => 5 | 9 => 9 | 53 => 157 | 57 => 161 | 63 => 163 | 64 => 164 | n => n, fun | n => n⟩
theorem Tryd.sortA : Go.Proofs.SlLaysM.n5 Tryd.prog Tryd.sortA_ren := {
  mixed := by kernel_rfl
  f5 := ⟨Tryd.f65.name, by decide, Tryd.func65.trans (congrArg some (by kernel_rfl))⟩
  f7 := ⟨Tryd.f74.name, by decide, Tryd.func74.trans (congrArg some (by kernel_rfl))⟩
  f8 := Tryd.func75.trans (congrArg some (by kernel_rfl))
  f10 := ⟨Tryd.f77.name, by decide, Tryd.func77.trans (congrArg some (by kernel_rfl))⟩
  f11 := ⟨Tryd.f78.name, by decide, Tryd.func78.trans (congrArg some (by kernel_rfl))⟩
  f12 := ⟨Tryd.f79.name, by decide, Tryd.func79.trans (congrArg some (by kernel_rfl))⟩
  f13 := ⟨Tryd.f80.name, by decide, Tryd.func80.trans (congrArg some (by kernel_rfl))⟩
  f14 := ⟨Tryd.f81.name, by decide, Tryd.func81.trans (congrArg some (by kernel_rfl))⟩
  f15 := ⟨Tryd.f82.name, by decide, Tryd.func82.trans (congrArg some (by kernel_rfl))⟩
  f16 := ⟨Tryd.f62.name, by decide, Tryd.func62.trans (congrArg some (by kernel_rfl))⟩
  f17 := ⟨Tryd.f83.name, by decide, Tryd.func83.trans (congrArg some (by kernel_rfl))⟩
  f18 := ⟨Tryd.f84.name, by decide, Tryd.func84.trans (congrArg some (by kernel_rfl))⟩
  f19 := Tryd.func85.trans (congrArg some (by kernel_rfl))
  f20 := Tryd.func86.trans (congrArg some (by kernel_rfl))
  f30 := ⟨Tryd.f87.name, by decide, Tryd.func87.trans (congrArg some (by kernel_rfl))⟩
  f31 := Tryd.func88.trans (congrArg some (by kernel_rfl))
  f32 := Tryd.func89.trans (congrArg some (by kernel_rfl))
  f33 := ⟨Tryd.f90.name, by decide, Tryd.func90.trans (congrArg some (by kernel_rfl))⟩
  f34 := ⟨Tryd.f91.name, by decide, Tryd.func91.trans (congrArg some (by kernel_rfl))⟩
  f35 := ⟨Tryd.f72.name, by decide, Tryd.func72.trans (congrArg some (by kernel_rfl))⟩
  f40 := ⟨Tryd.f92.name, by decide, Tryd.func92.trans (congrArg some (by kernel_rfl))⟩
  t0 := Tryd.underlying0
  a0 := Tryd.isAgg0
  z0 := Tryd.sizeOf0
  v0 := Tryd.zeroValue0
  t3 := Tryd.underlying3
  a3 := Tryd.isAgg3
  z3 := Tryd.sizeOf3
  v3 := Tryd.zeroValue3
  t4 := Tryd.underlying4
  a4 := Tryd.isAgg4
  z4 := Tryd.sizeOf4
  v4 := Tryd.zeroValue4
  t5 := Tryd.underlying5
  a5 := Tryd.isAgg5
  z5 := Tryd.sizeOf5
  v5 := Tryd.zeroValue5
  t9 := Tryd.underlying9
  a9 := Tryd.isAgg9
  z9 := Tryd.sizeOf9
  v9 := Tryd.zeroValue9
  t22 := Tryd.underlying62
  a22 := Tryd.isAgg62
  z22 := Tryd.sizeOf62
  v22 := Tryd.zeroValue62
  t23 := Tryd.underlying62
  a23 := Tryd.isAgg62
  z23 := Tryd.sizeOf62
  v23 := Tryd.zeroValue62
  t25 := Tryd.underlying3
  a25 := Tryd.isAgg3
  z25 := Tryd.sizeOf3
  v25 := Tryd.zeroValue3
  t32 := Tryd.underlying86
  a32 := Tryd.isAgg86
  z32 := Tryd.sizeOf86
  v32 := Tryd.zeroValue86
  t35 := Tryd.underlying148
  a35 := Tryd.isAgg148
  z35 := Tryd.sizeOf148
  v35 := Tryd.zeroValue148
  t36 := Tryd.underlying149
  a36 := Tryd.isAgg149
  z36 := Tryd.sizeOf149
  v36 := Tryd.zeroValue149
  t41 := Tryd.underlying73
  a41 := Tryd.isAgg73
  z41 := Tryd.sizeOf73
  v41 := Tryd.zeroValue73
  t44 := Tryd.underlying155
  a44 := Tryd.isAgg155
  z44 := Tryd.sizeOf155
  v44 := Tryd.zeroValue155
  t46 := Tryd.underlying32
  a46 := Tryd.isAgg32
  z46 := Tryd.sizeOf32
  v46 := Tryd.zeroValue32
  t53 := Tryd.underlying157
  a53 := Tryd.isAgg157
  z53 := Tryd.sizeOf157
  v53 := Tryd.zeroValue157
  t57 := Tryd.underlying161
  a57 := Tryd.isAgg161
  z57 := Tryd.sizeOf161
  v57 := Tryd.zeroValue161
  t63 := Tryd.underlying163
  a63 := Tryd.isAgg163
  z63 := Tryd.sizeOf163
  v63 := Tryd.zeroValue163
  t64 := Tryd.underlying164
  a64 := Tryd.isAgg164
  z64 := Tryd.sizeOf164
  v64 := Tryd.zeroValue164 }
def Tryd.cloneA_ren : Go.Shelf.Ren := ⟨fun | 41 => 19 | n => n, fun | 22 => 29 | 23 => 32 | 4 => 4 | n => n, fun | n => n⟩
theorem Tryd.cloneA : Go.Proofs.SlLaysE0.n41 Tryd.prog Tryd.cloneA_ren := {
  mixed := by kernel_rfl
  f41 := ⟨Tryd.f19.name, by decide, Tryd.func19.trans (congrArg some (by kernel_rfl))⟩
  t4 := Tryd.underlying4
  a4 := Tryd.isAgg4
  z4 := Tryd.sizeOf4
  v4 := Tryd.zeroValue4
  t22 := Tryd.underlying29
  a22 := Tryd.isAgg29
  z22 := Tryd.sizeOf29
  v22 := Tryd.zeroValue29 }
def Tryd.searchA_ren : Go.Shelf.Ren := ⟨fun | 49 => 50 | 59 => 62 | 60 => 63 | 68 => 72 | n => n, fun | 22 => 62 | 23 => 3 | 3 => 3 | 4 => 4 | 51 => 86 | 0 => 0 | n => n, fun | n => n⟩
theorem Tryd.searchA : Go.Proofs.SlLaysN.n49 Tryd.prog Tryd.searchA_ren := {
  mixed := by kernel_rfl
  f49 := ⟨Tryd.f50.name, by decide, Tryd.func50.trans (congrArg some (by kernel_rfl))⟩
  f59 := ⟨Tryd.f62.name, by decide, Tryd.func62.trans (congrArg some (by kernel_rfl))⟩
  f60 := ⟨Tryd.f63.name, by decide, Tryd.func63.trans (congrArg some (by kernel_rfl))⟩
  f68 := ⟨Tryd.f72.name, by decide, Tryd.func72.trans (congrArg some (by kernel_rfl))⟩
  t0 := Tryd.underlying0
  a0 := Tryd.isAgg0
  z0 := Tryd.sizeOf0
  v0 := Tryd.zeroValue0
  t3 := Tryd.underlying3
  a3 := Tryd.isAgg3
  z3 := Tryd.sizeOf3
  v3 := Tryd.zeroValue3
  t4 := Tryd.underlying4
  a4 := Tryd.isAgg4
  z4 := Tryd.sizeOf4
  v4 := Tryd.zeroValue4
  t22 := Tryd.underlying62
  a22 := Tryd.isAgg62
  z22 := Tryd.sizeOf62
  v22 := Tryd.zeroValue62
  t23 := Tryd.underlying3
  a23 := Tryd.isAgg3
  z23 := Tryd.sizeOf3
  v23 := Tryd.zeroValue3
  t51 := Tryd.underlying86
  a51 := Tryd.isAgg86
  z51 := Tryd.sizeOf86
  v51 := Tryd.zeroValue86 }
end Go.Proofs
/- An arena in memory; its small functions. -/
namespace Go.Proofs.YtgiopklnielglaaDoor
open Go.RowKit Go.Maps Arena
set_option maxHeartbeats 1000000
/-- an arena's three blocks: its own row, its words, its map -/
structure ArenaAt (w : World) (p g bm n : Nat) (ws : List Int) (R : List (Nat × Nat)) : Prop where
  row : w.heap[p]? = some (.cells #[.slice (some ⟨g, 0, none⟩) n n, .map (some bm)] 91 (0, 0))
  words : w.heap[g]? = some (.cells (ws.map fun x => Value.int .u64 x).toArray 32 (0, 0))
  len : ws.length = n
  regs : w.ownsMap Tryd.prog 3 (plainElem Tryd.prog 3) bm R.length (regD R)
  good : Arena.Good n R
  pg : p ≠ g
  pm : p ≠ bm
  gm : g ≠ bm
  least : n ≤ 20000
theorem ArenaAt.lt {w : World} {p g bm n : Nat} {ws : List Int} {R : List (Nat × Nat)} (h : ArenaAt w p g bm n ws R) : p < w.heap.size ∧ g < w.heap.size ∧ bm < w.heap.size :=
  ⟨(Array.getElem?_eq_some_iff.1 h.row).1, (Array.getElem?_eq_some_iff.1 h.words).1, h.regs.lt⟩
theorem ArenaAt.turn {w w' : World} {p g bm n : Nat} {ws : List Int} {R : List (Nat × Nat)} {bs : List Nat} (h : ArenaAt w p g bm n ws R) (t : Turn bs w w') (hp : p ∉ bs) (hg : g ∉ bs) (hm : bm ∉ bs) : ArenaAt w' p g bm n ws R := by
  obtain ⟨lp, lg, lm⟩ := h.lt
  refine ⟨by rw [t.block p lp hp]; exact h.row, by rw [t.block g lg hg]; exact h.words, h.len, ?_, h.good, h.pg, h.pm, h.gm, h.least⟩
  obtain ⟨es, clock, hb, hr⟩ := h.regs
  exact ⟨es, clock, by rw [t.block bm lm hm]; exact hb, hr⟩
theorem ArenaAt.ext {w w' : World} {p g bm n : Nat} {ws : List Int} {R : List (Nat × Nat)} (h : ArenaAt w p g bm n ws R) (e : Ext w w') : ArenaAt w' p g bm n ws R :=
  h.turn (Turn.of_ext (bs := []) e) (by simp) (by simp) (by simp)
theorem ArenaAt.cells {w : World} {p g bm n : Nat} {ws : List Int} {R : List (Nat × Nat)} (h : ArenaAt w p g bm n ws R) :
    w.cell? ⟨p, 0, none⟩ = some (.slice (some ⟨g, 0, none⟩) n n) ∧ w.cell? ⟨p, 1, none⟩ = some (.map (some bm)) := by
  constructor <;> simp [World.cell?, h.row]
/-- a map's bound is its size -/
theorem owns_size {P : Program} {k e : TypeId} {w : World} {b n : Nat} {R : List (Nat × Nat)} (h : w.ownsMap P k (plainElem P e) b n (regD R)) : w.ownsMap P k (plainElem P e) b R.length (regD R) := by
  obtain ⟨es, clock, hb, F, hs, hD⟩ := h
  refine ⟨es, clock, hb, F, ?_, hD⟩
  have h1 : Maps.size (regD R) = es.size := by rw [hD, Maps.size_eq, length_sorted]; simp
  rw [regD_size] at h1
  omega
theorem int_law : Keyed Tryd.prog 3 := int_keyed Tryd.underlying3
theorem int_zero (w : World) : (zeroValue 3).run Tryd.prog w = .ok (.int .i64 0) w := by kernel_rfl

theorem key_int {k : Int} (hw : (Lit.int .i64 k).wf = true) : keyOf Tryd.prog 3 (.int .i64 k) = some (.int .i64 k) := keyOf_int_mk Tryd.underlying3 hw
theorem at_len {R : List (Nat × Nat)} {k c : Int} (h : (regD R).atKey (.int .i64 k) (.lit (.int .i64 0)) = .lit (.int .i64 c)) : c = lenAt R k := by
  rw [regD_atKey] at h
  injection h with h
  injection h with _ h
  exact h.symm
theorem region_no {w : World} {p g bm n : Nat} {ws : List Int} {R : List (Nat × Nat)} {k : Int} (h : ArenaAt w p g bm n ws R) (hw : (Lit.int .i64 k).wf = true) (h0 : lenAt R k = 0) :
    Calls Tryd.prog 40 #[.pointer (some ⟨p, 0, none⟩), .int .i64 k] w fun e w' => e = .returned (.slice none 0 0) ∧ w = w' := by
  obtain ⟨c0, c1⟩ := h.cells
  have HM := Lib.hid h.regs
  have H0 := Lib.hid h0
  clear h h0
  go_enter Tryd.func40, Tryd.ntmps40
  go_wp2_with (at_lookup; refine wpList_lookup_own_int _ rfl _ _ 89 rfl 3 3 .i64 int_law Tryd.underlying89 Tryd.underlying3 (int_zero _) bm R.length _ rfl HM.out _ _ rfl (key_int hw) ?_; intro c hat hwc; obtain rfl : c = 0 := by have := at_len hat; rw [H0.out] at this; exact this)
  go_ret
  exact ⟨rfl, rfl⟩
theorem region_yes {w : World} {p g bm n : Nat} {ws : List Int} {R : List (Nat × Nat)} {r : Nat × Nat} (h : ArenaAt w p g bm n ws R) (hr : r ∈ R) :
    Calls Tryd.prog 40 #[.pointer (some ⟨p, 0, none⟩), .int .i64 r.1] w fun e w' => e = .returned (.slice (some ⟨g, r.1, none⟩) r.2 (n - r.1)) ∧ w = w' := by
  obtain ⟨c0, c1⟩ := h.cells
  have HM := Lib.hid h.regs
  have H0 := Lib.hid (lenAt_mem h.good hr)
  have hn := h.least
  obtain ⟨h1, h2⟩ := h.good.2 r hr
  have hw : (Lit.int .i64 (r.1 : Int)).wf = true := WalkArith.wf_i64 (by omega)
  have b0 : ((r.2 : Int) == 0) = false := beq_false_of_ne (by omega)
  clear h
  go_enter Tryd.func40, Tryd.ntmps40
  go_wp2_with (at_lookup; refine wpList_lookup_own_int _ rfl _ _ 89 rfl 3 3 .i64 int_law Tryd.underlying89 Tryd.underlying3 (int_zero _) bm R.length _ rfl HM.out _ _ rfl (key_int hw) ?_; intro c hat hwc; obtain rfl : c = (r.2 : Int) := by have := at_len hat; rw [H0.out] at this; exact this)
  go_ret
  exact ⟨by simp, rfl⟩
theorem ArenaAt.word {w : World} {p g bm n : Nat} {ws : List Int} {R : List (Nat × Nat)} (h : ArenaAt w p g bm n ws R) {i : Nat} (hi : i < n) : w.cell? ⟨g, i, none⟩ = some (.int .u64 (ws.getD i 0)) ∧ w.frozen? ⟨g, i, none⟩ = false := by
  have hl := h.len
  constructor
  · simp [World.cell?, h.words, List.getElem?_eq_getElem (show i < ws.length by omega)]
  · simp [World.frozen?, h.words]
theorem ArenaAt.store {w : World} {p g bm n : Nat} {ws : List Int} {R : List (Nat × Nat)} (h : ArenaAt w p g bm n ws R) (i : Nat) (v : Int) : ArenaAt (w.setCell ⟨g, i, none⟩ (.int .u64 v)) p g bm n (ws.set i v) R := by
  refine ⟨?_, ?_, by simpa using h.len, h.regs.setCell (fun e => h.gm e.symm) _, h.good, h.pg, h.pm, h.gm, h.least⟩
  · rw [Below.heap_setCell _ _ _ _ h.pg]; exact h.row
  · rw [Lib.heap_setCell_same h.words]
    simp
theorem get_no {w : World} {p g bm n : Nat} {ws : List Int} {R : List (Nat × Nat)} {k a : Int} (h : ArenaAt w p g bm n ws R) (hw : (Lit.int .i64 k).wf = true) (h0 : lenAt R k = 0) :
    Calls Tryd.prog 76 #[.pointer (some ⟨p, 0, none⟩), .int .i64 k, .int .i64 a] w fun e w' => e = .returned (.tuple #[.int .u64 0, .bool false]) ∧ w = w' := by
  by_cases ha : a < 0
  · have b1 : decide (a < 0) = true := decide_eq_true ha
    go_enter Tryd.func76, Tryd.ntmps76
    go_wp2_with fail
    refine (region_no h hw h0).mono ?_; rintro e w' ⟨rfl, rfl⟩
    go_wp2
    go_ret2
    exact ⟨rfl, rfl⟩
  · have b1 : decide (a < 0) = false := decide_eq_false ha
    have b2 : decide ((0 : Int) ≤ a) = true := decide_eq_true (by omega)
    go_enter Tryd.func76, Tryd.ntmps76
    go_wp2_with fail
    refine (region_no h hw h0).mono ?_; rintro e w' ⟨rfl, rfl⟩
    go_wp2
    go_ret2
    exact ⟨rfl, rfl⟩
theorem get_out {w : World} {p g bm n : Nat} {ws : List Int} {R : List (Nat × Nat)} {r : Nat × Nat} {a : Int} (h : ArenaAt w p g bm n ws R) (hr : r ∈ R) (ha : a < 0 ∨ (r.2 : Int) ≤ a) :
    Calls Tryd.prog 76 #[.pointer (some ⟨p, 0, none⟩), .int .i64 r.1, .int .i64 a] w fun e w' => e = .returned (.tuple #[.int .u64 0, .bool false]) ∧ w = w' := by
  by_cases ha0 : a < 0
  · have b1 : decide (a < 0) = true := decide_eq_true ha0
    go_enter Tryd.func76, Tryd.ntmps76
    go_wp2_with fail
    refine (region_yes h hr).mono ?_; rintro e w' ⟨rfl, rfl⟩
    go_wp2
    go_ret2
    exact ⟨rfl, rfl⟩
  · have b1 : decide (a < 0) = false := decide_eq_false ha0
    have b2 : decide ((r.2 : Int) ≤ a) = true := decide_eq_true (by omega)
    go_enter Tryd.func76, Tryd.ntmps76
    go_wp2_with fail
    refine (region_yes h hr).mono ?_; rintro e w' ⟨rfl, rfl⟩
    go_wp2
    go_ret2
    exact ⟨rfl, rfl⟩
theorem get_yes {w : World} {p g bm n : Nat} {ws : List Int} {R : List (Nat × Nat)} {r : Nat × Nat} {a : Nat} (h : ArenaAt w p g bm n ws R) (hr : r ∈ R) (ha : a < r.2) :
    Calls Tryd.prog 76 #[.pointer (some ⟨p, 0, none⟩), .int .i64 r.1, .int .i64 a] w fun e w' => e = .returned (.tuple #[.int .u64 (ws.getD (r.1 + a) 0), .bool true]) ∧ w = w' := by
  obtain ⟨h1, h2⟩ := h.good.2 r hr
  have hn := h.least
  obtain ⟨hc, _⟩ := h.word (i := r.1 + a) (by omega)
  have b1 : decide ((a : Int) < 0) = false := decide_eq_false (by omega)
  have b2 : decide ((r.2 : Int) ≤ (a : Int)) = false := decide_eq_false (by omega)
  have HRG := Lib.hid (region_yes h hr)
  generalize ws.getD (r.1 + a) 0 = v at *
  clear h
  go_enter Tryd.func76, Tryd.ntmps76
  go_wp2_with fail
  refine HRG.out.mono ?_; rintro e w' ⟨rfl, rfl⟩
  go_wp2
  go_ret2
  exact ⟨rfl, rfl⟩
theorem set_no {w : World} {p g bm n : Nat} {ws : List Int} {R : List (Nat × Nat)} {k a v : Int} (h : ArenaAt w p g bm n ws R) (hw : (Lit.int .i64 k).wf = true) (h0 : lenAt R k = 0) :
    Calls Tryd.prog 25 #[.pointer (some ⟨p, 0, none⟩), .int .i64 k, .int .i64 a, .int .u64 v] w fun e w' => e = .returned (.bool false) ∧ w = w' := by
  by_cases ha : a < 0
  · have b1 : decide (a < 0) = true := decide_eq_true ha
    go_enter Tryd.func25, Tryd.ntmps25
    go_wp2_with fail
    refine (region_no h hw h0).mono ?_; rintro e w' ⟨rfl, rfl⟩
    go_wp2
    go_ret
    exact ⟨rfl, rfl⟩
  · have b1 : decide (a < 0) = false := decide_eq_false ha
    have b2 : decide ((0 : Int) ≤ a) = true := decide_eq_true (by omega)
    go_enter Tryd.func25, Tryd.ntmps25
    go_wp2_with fail
    refine (region_no h hw h0).mono ?_; rintro e w' ⟨rfl, rfl⟩
    go_wp2
    go_ret
    exact ⟨rfl, rfl⟩
theorem set_out {w : World} {p g bm n : Nat} {ws : List Int} {R : List (Nat × Nat)} {r : Nat × Nat} {a v : Int} (h : ArenaAt w p g bm n ws R) (hr : r ∈ R) (ha : a < 0 ∨ (r.2 : Int) ≤ a) :
    Calls Tryd.prog 25 #[.pointer (some ⟨p, 0, none⟩), .int .i64 r.1, .int .i64 a, .int .u64 v] w fun e w' => e = .returned (.bool false) ∧ w = w' := by
  by_cases ha0 : a < 0
  · have b1 : decide (a < 0) = true := decide_eq_true ha0
    go_enter Tryd.func25, Tryd.ntmps25
    go_wp2_with fail
    refine (region_yes h hr).mono ?_; rintro e w' ⟨rfl, rfl⟩
    go_wp2
    go_ret
    exact ⟨rfl, rfl⟩
  · have b1 : decide (a < 0) = false := decide_eq_false ha0
    have b2 : decide ((r.2 : Int) ≤ a) = true := decide_eq_true (by omega)
    go_enter Tryd.func25, Tryd.ntmps25
    go_wp2_with fail
    refine (region_yes h hr).mono ?_; rintro e w' ⟨rfl, rfl⟩
    go_wp2
    go_ret
    exact ⟨rfl, rfl⟩
theorem set_yes {w : World} {p g bm n : Nat} {ws : List Int} {R : List (Nat × Nat)} {r : Nat × Nat} {a : Nat} {v : Int} (h : ArenaAt w p g bm n ws R) (hr : r ∈ R) (ha : a < r.2) :
    Calls Tryd.prog 25 #[.pointer (some ⟨p, 0, none⟩), .int .i64 r.1, .int .i64 a, .int .u64 v] w fun e w' => e = .returned (.bool true) ∧ ArenaAt w' p g bm n (ws.set (r.1 + a) v) R ∧ Turn [g] w w' := by
  obtain ⟨h1, h2⟩ := h.good.2 r hr
  have hn := h.least
  obtain ⟨hc, hf⟩ := h.word (i := r.1 + a) (by omega)
  have b1 : decide ((a : Int) < 0) = false := decide_eq_false (by omega)
  have b2 : decide ((r.2 : Int) ≤ (a : Int)) = false := decide_eq_false (by omega)
  have HRG := Lib.hid (region_yes h hr)
  have HST := Lib.hid (h.store (r.1 + a) v)
  generalize ws.getD (r.1 + a) 0 = u at *
  clear h
  go_enter Tryd.func25, Tryd.ntmps25
  go_wp2_with fail
  refine HRG.out.mono ?_; rintro e w' ⟨rfl, rfl⟩
  go_wp2
  go_ret
  exact ⟨rfl, HST.out, (Turn.refl _ _).setCell (.inl (by simp)) _⟩
theorem look_len {w : World} {p g bm n : Nat} {ws : List Int} {R : List (Nat × Nat)} {k : Int} (h : ArenaAt w p g bm n ws R) (hw : (Lit.int .i64 k).wf = true) :
    (Instr.lookup 89 (.map (some bm)) (.int .i64 k) false).run Tryd.prog w = .ok (.int .i64 (lenAt R k)) w := by
  obtain ⟨c, hrun, hat, _⟩ := h.regs.lookup_int int_law Tryd.underlying89 Tryd.underlying3 (int_zero _) (key_int hw)
  rw [← at_len hat]
  exact hrun
theorem drop_length {R : List (Nat × Nat)} (k : Int) : (Arena.drop k R).length ≤ R.length := List.length_filter_le _ _
/-- slices.Sort's two contracts at this dump, at the fence that asks nothing. -/
theorem sorts_in (m : Nat) : AnyZI.SortsIn Tryd.prog Tryd.sortedA_ren Fence.wide m :=
  ⟨fun blk off cap ss W hH hblk hsz => callsIn_wide.2 (AnyM.slices_Sort_int Tryd.sortA blk off cap ss W hH hblk hsz),
   fun p cap W => callsIn_wide.2 (AnyM.slices_Sort_int_none Tryd.sortA p cap W)⟩
set_option maxHeartbeats 2000000 in
theorem bases_is {w : World} {p g bm n : Nat} {ws : List Int} {R : List (Nat × Nat)} (h : ArenaAt w p g bm n ws R) :
    Calls Tryd.prog 39 #[.pointer (some ⟨p, 0, none⟩)] w fun e w' => ∃ v, e = .returned v ∧ w'.ownsRow w.heap.size 3 1 v R.length (R.map fun r => Value.int .i64 r.1) ∧ Ext w w' := by
  obtain ⟨c0, c1⟩ := h.cells
  have hown := h.regs
  have hbl := hown.lt
  have hsz : Maps.size (regD R) ≤ 20000 := by rw [regD_size]; exact Nat.le_trans (good_len h.good) h.least
  have hmax : Maps.size (regD R) ≤ maxLen := by unfold maxLen; omega
  have hbytes : Maps.size (regD R) * 8 ≤ 140737488355328 := by omega
  have HG := Lib.hid h.good
  clear h
  refine (callsIn_wide (n := 6)).1 ?_
  have hseq : SeqGives Fence.wide 2 Tryd.prog 66 #[.pointer (some ⟨w.heap.size, 0, none⟩)] encZ (fun ss => ss.Perm (intKeys (regD R))) (Maps.size (regD R)) (w.alloc (.cells #[.map (some bm)] 89)) :=
    AnyZI.keys_gives (ρ := Tryd.keysA_ren) { Tryd.keysA with } Fence.wide _ trivial rfl (by omega) w.heap.size bm R.length (regD R) _ (by simp) (by simp) (by
      obtain ⟨es, clock, hb, Ft, hs, hD⟩ := hown
      exact ⟨es, clock, (Below.heap_alloc _ _ bm hbl).trans hb, Ft, hs, hD⟩)
  have cK : ∀ mb W, CallsIn Fence.wide 5 Tryd.prog 54 #[.map mb] W fun e w' => e = .returned (.func (.func 66) #[] #[.pointer (some ⟨W.heap.size, 0, none⟩)]) ∧ w' = W.alloc (.cells #[.map mb] 89) := fun mb W => AnyZI.keys_in Tryd.keysA Fence.wide 5 trivial rfl mb W
  have cS := AnyZI.sorted_in Tryd.sortedA Fence.wide 5 trivial trivial trivial trivial rfl (by omega) (sorts_in _) (enters_of Tryd.func65 (by kernel_rfl) rfl) 66 #[.pointer (some ⟨w.heap.size, 0, none⟩)] trivial (enters_of Tryd.func66 (by kernel_rfl) rfl) _ _ hmax hbytes _ hseq
  change CallsIn _ _ Tryd.prog 53 _ _ _ at cS
  have hfK : Fence.wide.fn 54 := trivial
  have hfS : Fence.wide.fn 53 := trivial
  refine callsIn_of_wp Tryd.func39 rfl trivial ?_ rfl
  simp only [Tryd.ntmps39, List.size_toArray, List.length_cons, List.length_nil, Nat.reduceAdd, Nat.reduceSub, Array.replicate_succ, Array.replicate_zero, List.push_toArray, List.append_toArray, List.nil_append, List.cons_append]
  gi_wp2_with (first
    | (gi_at_call 54; refine (cK _ _).mono ?_; rintro e w' ⟨rfl, rfl⟩)
    | (gi_at_call 53; refine cS.mono ?_; rintro e w' ⟨v, ss, rfl, hS, hrow, hnil, hb⟩))
  go_ret
  have hsorted := keys_sorted HG.out hS
  have hlen : ss.length = R.length := by rw [hS.length_eq, regD_keys, List.length_map]
  rw [hsorted, List.map_map, hlen] at hrow
  exact ⟨v, rfl, ownsRow_base_a hrow (by simp), ((Below.refl _ w).alloc (Nat.le_refl _) _).trans (hb.mono (by simp))⟩
end Go.Proofs.YtgiopklnielglaaDoor
/- The walk of an arena's Cut. -/
namespace Go.Proofs.YtgiopklnielglaaDoor
open Go.RowKit Go.Maps Arena
set_option maxHeartbeats 2000000
set_option maxRecDepth 100000
/-- what a row of places is good for -/
theorem row_any {w : World} {base : Nat} {v : Value} {R : List (Nat × Nat)} (h : w.ownsRow base 3 1 v R.length (R.map fun r => Value.int .i64 r.1)) : ∃ q c, v = .slice q R.length c ∧ R.length ≤ c ∧ c ≤ maxLen ∧
    ∀ (i : Nat) (x : Nat × Nat), R[i]? = some x → ∃ s, q = some ⟨s, 0, none⟩ ∧ w.cell? ⟨s, i, none⟩ = some (.int .i64 x.1) := by
  rcases h.2 with ⟨h1, h2⟩ | ⟨g, cap, cur, h1, hb, hg, h2, h3, h4, h5⟩
  · refine ⟨none, 0, by rw [h1, h2], by omega, Nat.zero_le _, fun i x hx => ?_⟩
    have := (List.getElem?_eq_some_iff.1 hx).1
    omega
  · refine ⟨_, cap, h1, h2, h3, fun i x hx => ⟨g, rfl, ?_⟩⟩
    subst h1
    have hi : i < R.length := (List.getElem?_eq_some_iff.1 hx).1
    rw [World.ownsRow.cellAt h i (by omega), List.getElem?_map, hx]
    rfl
/-- words from a place on set to others -/
def setMany (ws : List Int) (o : Nat) : List Int → List Int
  | [] => ws
  | v :: vs => setMany (ws.set o v) (o + 1) vs
theorem setMany_length (vs : List Int) : ∀ (ws : List Int) (o : Nat), (setMany ws o vs).length = ws.length := by
  induction vs with
  | nil => intro ws o; rfl
  | cons v vs ih => intro ws o; rw [setMany, ih, List.length_set]
theorem ArenaAt.stores {p g bm n : Nat} {R : List (Nat × Nat)} (vs : List Int) : ∀ {w : World} {ws : List Int} (o : Nat), ArenaAt w p g bm n ws R → ArenaAt (w.setCells g o (vs.map fun x => Value.int .u64 x)) p g bm n (setMany ws o vs) R ∧ Turn [g] w (w.setCells g o (vs.map fun x => Value.int .u64 x)) := by
  induction vs with
  | nil => intro w ws o h; exact ⟨h, Turn.refl _ _⟩
  | cons v vs ih =>
    intro w ws o h
    obtain ⟨h1, h2⟩ := ih (o + 1) (h.store o v)
    exact ⟨h1, ((Turn.refl [g] w).setCell (.inl (by simp)) _).trans h2⟩
theorem ArenaAt.cutRow {w w1 : World} {p g bm n : Nat} {ws : List Int} {R : List (Nat × Nat)} {k : Nat} (h : ArenaAt w p g bm n ws R) (hk : 1 ≤ k) (hn : scan k 0 R + k ≤ n)
    (ho : w1.ownsMap Tryd.prog 3 (plainElem Tryd.prog 3) bm (R.length + 1) ((regD R).put (.int .i64 (scan k 0 R)) (.lit (.int .i64 k)))) (hg : w.grownBy w1 (some bm)) :
    ArenaAt w1 p g bm n ws (ins (scan k 0 R, k) R) ∧ Turn [bm] w w1 := by
  have ht : Turn [bm] w w1 := Turn.of_grown hg (fun b hb => .inl (by cases hb; exact .head _))
  obtain ⟨lp, lg, lm⟩ := h.lt
  rw [regD_put (x := (scan k 0 R, k)) (scan_ne h.good hk)] at ho
  refine ⟨⟨?_, ?_, h.len, owns_size ho, good_cut h.good hk hn, h.pg, h.pm, h.gm, h.least⟩, ht⟩
  · rw [ht.block p lp (by simp; exact h.pm)]; exact h.row
  · rw [ht.block g lg (by simp; exact h.gm)]; exact h.words
theorem scan_round {k a : Nat} {r : Nat × Nat} {R : List (Nat × Nat)} : (a + k ≤ r.1 → scan k a (r :: R) = a) ∧ (¬ a + k ≤ r.1 → scan k a (r :: R) = scan k (r.1 + r.2) R) := by
  constructor <;> intro h <;> simp [scan, h]
theorem clear_run {w : World} {p g bm n a k : Nat} {ws : List Int} {R : List (Nat × Nat)} (h : ArenaAt w p g bm n ws R) (hk : 1 ≤ k) (hfit : a + k ≤ n) (ty : TypeId) :
    (Builtin.clear_ #[29] ty #[.slice (some ⟨g, a, none⟩) k (n - a)]).run Tryd.prog w = .ok (.tuple #[]) (w.setCells g a ((List.replicate k 0).map fun x => Value.int .u64 x)) := by
  rw [List.map_replicate]
  exact Lib.run_clear_slice w 29 32 ty (.int .u64 0) Tryd.underlying29 (fun _ => by kernel_rfl) rfl rfl g a k (n - a) hk
    (fun j hj => by rw [(h.word (i := a + j) (by omega)).1]; rfl) (fun j hj => (h.word (i := a + j) (by omega)).2)
theorem cut_small {w : World} {p : Nat} {k : Int} (hk : k < 1) : Calls Tryd.prog 23 #[.pointer (some ⟨p, 0, none⟩), .int .i64 k] w fun e w' => e = .returned (.tuple #[.int .i64 0, .bool false]) ∧ w = w' := by
  go_enter Tryd.func23, Tryd.ntmps23
  go_wp2
  go_ret2
  exact ⟨rfl, rfl⟩
theorem cut_is {w : World} {p g bm n : Nat} {ws : List Int} {R : List (Nat × Nat)} {k : Nat} (h : ArenaAt w p g bm n ws R) (hk : 1 ≤ k) (hk2 : k ≤ 9223372036854775807) :
    Calls Tryd.prog 23 #[.pointer (some ⟨p, 0, none⟩), .int .i64 k] w fun e w' =>
      (scan k 0 R + k ≤ n ∧ e = .returned (.tuple #[.int .i64 (scan k 0 R), .bool true]) ∧ ArenaAt w' p g bm n (setMany ws (scan k 0 R) (List.replicate k 0)) (ins (scan k 0 R, k) R) ∧ Turn [g, bm] w w') ∨
      (¬ scan k 0 R + k ≤ n ∧ e = .returned (.tuple #[.int .i64 0, .bool false]) ∧ Ext w w') := by
  have hn := h.least
  have HA := Lib.hid h
  clear h
  go_enter Tryd.func23, Tryd.ntmps23
  go_wp2_with fail
  refine (bases_is HA.out).mono ?_; rintro e w1 ⟨v, rfl, hrow, hx⟩
  obtain ⟨q, c, rfl, hc1, hc2, hcell⟩ := row_any hrow
  have h1 := HA.out.ext hx
  obtain ⟨c0, c1⟩ := h1.cells
  have HX := Lib.hid hx; have H1 := Lib.hid h1; have HC := Lib.hid hcell
  have hle := scan_le (k := k) R 0 h1.good (Nat.zero_le _)
  clear hx h1 hcell hrow
  unfold maxLen at hc2
  go_wp2_with fail
  go_loop [6, 18] (fun at_ i => ∃ j a : Nat, j ≤ R.length ∧ i = .int .i64 j ∧ at_ = .int .i64 a ∧ a ≤ n ∧ scan k 0 R = scan k a (R.drop j)) (fun _ i => R.length - (Go.RowKit.intOf i).toNat)
  case atStart => exact ⟨0, 0, by omega, rfl, rfl, Nat.zero_le _, rfl⟩
  case round =>
    obtain ⟨j, a, hj, rfl, rfl, ha, hsc⟩ := hrel
    by_cases hlt : j < R.length
    · have hxj : R[j]? = some R[j] := List.getElem?_eq_getElem hlt
      have hd : R.drop j = R[j] :: R.drop (j + 1) := List.drop_eq_getElem_cons hlt
      have hmem : R[j] ∈ R := List.getElem_mem hlt
      obtain ⟨s, rfl, hcj⟩ := HC.out j _ hxj
      have hb := H1.out.good.2 R[j] hmem
      have hlk := look_len (k := (R[j].1 : Int)) H1.out (WalkArith.wf_i64 (by omega))
      rw [lenAt_mem H1.out.good hmem] at hlk
      rw [hd] at hsc
      generalize R[j] = x at *
      obtain ⟨xb, xl⟩ := x
      dsimp only at hcj hb hlk
      obtain ⟨hb1, hb2⟩ := hb
      have i1 : (j : Int) < (R.length : Int) := by omega
      clear hxj hd hmem
      by_cases hroom : a + k ≤ xb
      · have g1 : (k : Int) ≤ (xb : Int) - (a : Int) := by omega
        have hs2 : scan k 0 R = a := hsc.trans ((scan_round (r := (xb, xl)) (R := R.drop (j + 1))).1 hroom)
        have HS := Lib.hid hs2
        clear hsc hs2 hlk
        by_cases hfit : a + k ≤ n
        · have f1 : ¬ ((n : Int) - (a : Int) < (k : Int)) := by omega
          have hwa : (Lit.int .i64 (a : Int)).wf = true := WalkArith.wf_i64 (by omega)
          have hwk : (Lit.int .i64 (k : Int)).wf = true := WalkArith.wf_i64 (by omega)
          have hfit2 : scan k 0 R + k ≤ n := by rw [HS.out]; exact hfit
          have HF := Lib.hid hfit2
          have hrl := good_len H1.out.good
          have HM := Lib.hid H1.out.regs
          clear hfit2
          go_wp2_with (at_mapUpdate; refine wpList_mapUpdate_own _ rfl _ _ _ 89 rfl 3 3 int_law Tryd.underlying89 _ bm R.length _ rfl HM.out (by unfold maxLen; omega) _ _ _ rfl rfl (key_int hwa) _ [] (plainElem_int Tryd.underlying3 hwk) ?_; intro w2 hown2 hgrow2; have hcr := ArenaAt.cutRow (k := k) H1.out hk HF.out (by rw [HS.out]; exact hown2) hgrow2; obtain ⟨d0, d1⟩ := hcr.1.cells; have HCR := Lib.hid hcr; clear hcr; have hcl := fun ty => clear_run (k := k) (a := a) HCR.out.1 hk hfit ty)
          go_ret2
          obtain ⟨s1, s2⟩ := HCR.out.1.stores (List.replicate k 0) a
          rw [List.map_replicate] at s1 s2
          refine .inl ⟨HF.out, by rw [HS.out]; rfl, by rw [HS.out] at s1 ⊢; exact s1, ?_⟩
          exact ((Turn.of_ext (bs := [g, bm]) HX.out).trans (Turn.mono (cs := [g, bm]) HCR.out.2 (by simp))).trans (Turn.mono (cs := [g, bm]) s2 (by simp))
        · have f1 : decide ((n : Int) - (a : Int) < (k : Int)) = true := decide_eq_true (by omega)
          have hfit2 : ¬ scan k 0 R + k ≤ n := by rw [HS.out]; exact hfit
          have HF := Lib.hid hfit2
          clear hfit2 hfit
          go_wp2_with fail
          go_ret2
          exact .inr ⟨by have := HF.out; omega, rfl, HX.out⟩
      · have g1 : ¬ ((k : Int) ≤ (xb : Int) - (a : Int)) := by omega
        have hs2 : scan k 0 R = scan k (xb + xl) (R.drop (j + 1)) := hsc.trans ((scan_round (r := (xb, xl)) (R := R.drop (j + 1))).2 hroom)
        have HS := Lib.hid hs2
        clear hsc hs2
        go_wp2_with fail
        exact ⟨⟨j + 1, xb + xl, by omega, by go_num, by go_num, by omega, HS.out⟩, by simp [Go.RowKit.intOf]; omega⟩
    · obtain rfl : j = R.length := by omega
      have hs2 : scan k 0 R = a := by rw [hsc, List.drop_eq_nil_of_le (Nat.le_refl _)]; rfl
      have HS := Lib.hid hs2
      clear hsc hs2
      by_cases hfit : a + k ≤ n
      · have f1 : ¬ ((n : Int) - (a : Int) < (k : Int)) := by omega
        have hwa : (Lit.int .i64 (a : Int)).wf = true := WalkArith.wf_i64 (by omega)
        have hwk : (Lit.int .i64 (k : Int)).wf = true := WalkArith.wf_i64 (by omega)
        have hfit2 : scan k 0 R + k ≤ n := by rw [HS.out]; exact hfit
        have HF := Lib.hid hfit2
        have hrl := good_len H1.out.good
        have HM := Lib.hid H1.out.regs
        clear hfit2
        go_wp2_with (at_mapUpdate; refine wpList_mapUpdate_own _ rfl _ _ _ 89 rfl 3 3 int_law Tryd.underlying89 _ bm R.length _ rfl HM.out (by unfold maxLen; omega) _ _ _ rfl rfl (key_int hwa) _ [] (plainElem_int Tryd.underlying3 hwk) ?_; intro w2 hown2 hgrow2; have hcr := ArenaAt.cutRow (k := k) H1.out hk HF.out (by rw [HS.out]; exact hown2) hgrow2; obtain ⟨d0, d1⟩ := hcr.1.cells; have HCR := Lib.hid hcr; clear hcr; have hcl := fun ty => clear_run (k := k) (a := a) HCR.out.1 hk hfit ty)
        go_ret2
        obtain ⟨s1, s2⟩ := HCR.out.1.stores (List.replicate k 0) a
        rw [List.map_replicate] at s1 s2
        refine .inl ⟨HF.out, by rw [HS.out]; rfl, by rw [HS.out] at s1 ⊢; exact s1, ?_⟩
        exact ((Turn.of_ext (bs := [g, bm]) HX.out).trans (Turn.mono (cs := [g, bm]) HCR.out.2 (by simp))).trans (Turn.mono (cs := [g, bm]) s2 (by simp))
      · have f1 : decide ((n : Int) - (a : Int) < (k : Int)) = true := decide_eq_true (by omega)
        have hfit2 : ¬ scan k 0 R + k ≤ n := by rw [HS.out]; exact hfit
        have HF := Lib.hid hfit2
        clear hfit2 hfit
        go_wp2_with fail
        go_ret2
        exact .inr ⟨by have := HF.out; omega, rfl, HX.out⟩
end Go.Proofs.YtgiopklnielglaaDoor
/- The walks of an arena's New, Words, Regions. -/
namespace Go.Proofs.YtgiopklnielglaaDoor
open Go.RowKit Go.Maps Arena
set_option maxHeartbeats 2000000
set_option maxRecDepth 100000
theorem new_no {w : World} {n : Int} (hn : n < 1 ∨ 20000 < n) : Calls Tryd.prog 21 #[.int .i64 n] w fun e w' => e = .returned (.tuple #[.pointer none, .bool false]) ∧ w = w' := by
  by_cases h1 : n < 1
  · have b1 : decide (n < 1) = true := decide_eq_true h1
    go_enter Tryd.func21, Tryd.ntmps21
    go_wp2
    go_ret2
    exact ⟨rfl, rfl⟩
  · have b1 : decide (n < 1) = false := decide_eq_false h1
    have b2 : decide (20000 < n) = true := decide_eq_true (by omega)
    go_enter Tryd.func21, Tryd.ntmps21
    go_wp2
    go_ret2
    exact ⟨rfl, rfl⟩
theorem made_zeros (n : Nat) : madeCells #[Value.int .u64 0] n = ((List.replicate n (0 : Int)).map fun x => Value.int .u64 x).toArray := by
  apply Array.ext
  · simp [madeCells]
  · intro i h1 h2
    simp [madeCells, Nat.mod_one]
theorem arena_new (w : World) {n : Nat} (h2 : n ≤ 20000) : ArenaAt (((w.alloc (.cells (madeCells #[Value.int .u64 0] n) 32)).alloc (.map #[] 0)).alloc (.cells #[.slice (some ⟨w.heap.size, 0, none⟩) n n, .map (some (w.heap.size + 1))] 91)) (w.heap.size + 1 + 1) w.heap.size (w.heap.size + 1) n (List.replicate n 0) [] := by
  have e1 : (w.alloc (.cells (madeCells #[Value.int .u64 0] n) 32)).heap.size = w.heap.size + 1 := by simp
  have e2 : ((w.alloc (.cells (madeCells #[Value.int .u64 0] n) 32)).alloc (.map #[] 0)).heap.size = w.heap.size + 1 + 1 := by simp
  refine ⟨?_, ?_, by simp, ?_, good_nil n, by omega, by omega, by omega, h2⟩
  · have := heap_alloc_new ((w.alloc (.cells (madeCells #[Value.int .u64 0] n) 32)).alloc (.map #[] 0)) (.cells #[.slice (some ⟨w.heap.size, 0, none⟩) n n, .map (some (w.heap.size + 1))] 91)
    rw [e2] at this
    exact this
  · rw [Below.heap_alloc _ _ _ (by rw [e2]; omega), Below.heap_alloc _ _ _ (by rw [e1]; omega), ← made_zeros]
    exact heap_alloc_new w _
  · have := (World.ownsMap_made (H := Unit) (w.alloc (.cells (madeCells #[Value.int .u64 0] n) 32)) Tryd.prog 3 (plainElem Tryd.prog 3)).alloc (.cells #[.slice (some ⟨w.heap.size, 0, none⟩) n n, .map (some (w.heap.size + 1))] 91)
    rw [e1] at this
    exact this
theorem new_is {w : World} {n : Nat} (h1 : 1 ≤ n) (h2 : n ≤ 20000) : Calls Tryd.prog 21 #[.int .i64 n] w fun e w' =>
    ∃ p g bm, e = .returned (.tuple #[.pointer (some ⟨p, 0, none⟩), .bool true]) ∧ ArenaAt w' p g bm n (List.replicate n 0) [] ∧ Ext w w' ∧ w.heap.size ≤ p ∧ w.heap.size ≤ g ∧ w.heap.size ≤ bm := by
  have b1 : decide ((n : Int) < 1) = false := decide_eq_false (by omega)
  have b2 : decide (20000 < (n : Int)) = false := decide_eq_false (by omega)
  have hmk := run_make_row' (P := Tryd.prog) 29 32 (.int .u64 0) 8 Tryd.underlying29 info_u64 rfl .i64 .i64 n (by omega) (by omega)
  have hmm := @run_makeMap Tryd.prog
  go_enter Tryd.func21, Tryd.ntmps21
  go_wp2
  go_ret2
  exact ⟨w.heap.size + 1 + 1, w.heap.size, w.heap.size + 1, rfl, arena_new w h2, ((Ext.alloc _ _).trans (Ext.alloc _ _)).trans (Ext.alloc _ _), by omega, by omega, by omega⟩
theorem words_no {w : World} {p g bm n : Nat} {ws : List Int} {R : List (Nat × Nat)} {k : Int} (h : ArenaAt w p g bm n ws R) (hw : (Lit.int .i64 k).wf = true) (h0 : lenAt R k = 0) :
    Calls Tryd.prog 68 #[.pointer (some ⟨p, 0, none⟩), .int .i64 k] w fun e w' => e = .returned (.tuple #[.slice none 0 0, .bool false]) ∧ w = w' := by
  have hcl : ∀ W, Calls Tryd.prog 19 #[.slice none 0 0] W fun e w' => e = .returned (.slice none 0 0) ∧ w' = W := fun W => AnyE.slices_Clone_nil Tryd.cloneA 0 0 W
  go_enter Tryd.func68, Tryd.ntmps68
  go_wp2_with fail
  refine (region_no h hw h0).mono ?_; rintro e w' ⟨rfl, rfl⟩
  go_wp2_with fail
  refine (hcl _).mono ?_; rintro e w' ⟨rfl, rfl⟩
  go_wp2
  go_ret2
  exact ⟨rfl, rfl⟩
theorem words_yes {w : World} {p g bm n : Nat} {ws : List Int} {R : List (Nat × Nat)} {r : Nat × Nat} (h : ArenaAt w p g bm n ws R) (hr : r ∈ R) :
    Calls Tryd.prog 68 #[.pointer (some ⟨p, 0, none⟩), .int .i64 r.1] w fun e w' => ∃ v, e = .returned (.tuple #[v, .bool true]) ∧ w'.ownsRow w.heap.size 32 1 v r.2 (((ws.drop r.1).take r.2).map fun x => Value.int .u64 x) ∧ Ext w w' := by
  obtain ⟨h1, h2⟩ := h.good.2 r hr
  have hn := h.least
  have hl := h.len
  obtain ⟨i0, hi, hz0, hz1, hz2⟩ := info_parts info_u64
  have hcl : Calls Tryd.prog 19 #[.slice (some ⟨g, r.1, none⟩) r.2 (n - r.1)] w fun e w' => ∃ v', e = .returned v' ∧ w'.ownsRow w.heap.size 32 1 v' r.2 (((ws.drop r.1).take r.2).map fun x => Value.int .u64 x) ∧ v' ≠ .slice none 0 0 ∧ Below w.heap.size w w' :=
    AnyE.slices_Clone Tryd.cloneA i0 (.int .u64 0) 1 8 hi hz0 hz1 hz2 rfl (by decide) (fun W => by kernel_rfl) g r.1 r.2 (n - r.1) (((ws.drop r.1).take r.2).map fun x => Value.int .u64 x) w
      (by rw [List.length_map, List.length_take, List.length_drop]; omega) (by unfold maxLen; omega) (by omega)
      (fun j u hj => by
        rw [List.getElem?_map] at hj
        obtain ⟨x, hx, rfl⟩ := Option.map_eq_some_iff.1 hj
        have hjl : j < ((ws.drop r.1).take r.2).length := (List.getElem?_eq_some_iff.1 hx).1
        rw [List.length_take, List.length_drop] at hjl
        rw [List.getElem?_take_of_lt (by omega), List.getElem?_drop] at hx
        rw [(h.word (i := r.1 + j) (by omega)).1, List.getD_eq_getElem?_getD, hx]; rfl)
      (fun u hu => by obtain ⟨x, _, rfl⟩ := List.mem_map.1 hu; rfl)
  have HCL := Lib.hid hcl
  have HRG := Lib.hid (region_yes h hr)
  have i1 : (0 : Int) < (r.2 : Int) := by omega
  clear hcl h hi hz0 hz1 hz2
  go_enter Tryd.func68, Tryd.ntmps68
  go_wp2_with fail
  refine HRG.out.mono ?_; rintro e w' ⟨rfl, rfl⟩
  go_wp2_with fail
  refine HCL.out.mono ?_; rintro e w1 ⟨v, rfl, hrow, _, hx⟩
  go_wp2
  go_ret2
  exact ⟨v, by simp; omega, hrow, hx⟩
end Go.Proofs.YtgiopklnielglaaDoor
/- The walk of the arena's wakes. -/
namespace Go.Proofs.YtgiopklnielglaaDoor
open Go.RowKit Go.Maps Arena
set_option maxHeartbeats 4000000
set_option maxRecDepth 100000
def TrueExt (w : World) (e : Ending) (w' : World) : Prop := e = .returned (.bool true) ∧ Ext w w'
theorem cut_yes {w : World} {p g bm n : Nat} {ws : List Int} {R R' : List (Nat × Nat)} {k at_ : Nat} (h : ArenaAt w p g bm n ws R) (hk : 1 ≤ k) (hk2 : k ≤ 9223372036854775807) (hs : scan k 0 R = at_) (hfit : at_ + k ≤ n) (hR : ins (at_, k) R = R') :
    Calls Tryd.prog 23 #[.pointer (some ⟨p, 0, none⟩), .int .i64 k] w fun e w' => e = .returned (.tuple #[.int .i64 at_, .bool true]) ∧ ArenaAt w' p g bm n (setMany ws at_ (List.replicate k 0)) R' ∧ Turn [g, bm] w w' := by
  subst hs; subst hR
  refine (cut_is h hk hk2).mono ?_
  rintro e w' (⟨_, h1, h2, h3⟩ | ⟨h1, _⟩)
  · exact ⟨h1, h2, h3⟩
  · exact absurd hfit h1
theorem cut_no {w : World} {p g bm n : Nat} {ws : List Int} {R : List (Nat × Nat)} {k : Nat} (h : ArenaAt w p g bm n ws R) (hk : 1 ≤ k) (hk2 : k ≤ 9223372036854775807) (hfit : ¬ scan k 0 R + k ≤ n) :
    Calls Tryd.prog 23 #[.pointer (some ⟨p, 0, none⟩), .int .i64 k] w fun e w' => e = .returned (.tuple #[.int .i64 0, .bool false]) ∧ ArenaAt w' p g bm n ws R ∧ Turn [] w w' := by
  refine (cut_is h hk hk2).mono ?_
  rintro e w' (⟨h1, _⟩ | ⟨_, h1, h2⟩)
  · exact absurd h1 hfit
  · exact ⟨h1, h.ext h2, Turn.of_ext h2⟩
theorem word_lit (w : World) (l : List Int) (hl : l.length ≤ 1000) (T : TypeId) : WordSl (w.alloc (.cells (l.map fun x => Value.int .u64 x).toArray T)) (.slice (some ⟨w.heap.size, 0, none⟩) l.length l.length) l := by
  refine ⟨_, _, rfl, Nat.le_refl _, by unfold maxLen; omega, fun i x hx => ⟨w.heap.size, 0, rfl, ?_⟩⟩
  have hb := heap_alloc_new w (.cells (l.map fun x => Value.int .u64 x).toArray T)
  simp only [World.cell?, hb, Nat.zero_add]
  simp [hx]
theorem pair_lit (w : World) (l : List (Nat × Nat)) (hl : l.length ≤ 1000) (T : TypeId) : PairSl (w.alloc (.cells (l.flatMap pairC).toArray T)) (.slice (some ⟨w.heap.size, 0, none⟩) l.length l.length) l := by
  refine ⟨_, _, rfl, Nat.le_refl _, by unfold maxLen; omega, fun i x hx => ⟨w.heap.size, 0, rfl, ?_⟩⟩
  have hb := heap_alloc_new w (.cells (l.flatMap pairC).toArray T)
  have hf := flat2 l i x hx
  constructor
  · simp only [World.cell?, hb, Nat.zero_add]
    simp [hf.1]
  · simp only [World.cell?, hb, Nat.zero_add]
    simp [hf.2]
end Go.Proofs.YtgiopklnielglaaDoor
/- From the row's list to what FrameHandlers reads. -/
namespace Go.Proofs.YtgiopklnielglaaDoor
open Go.RowKit Go.ChangeShapes
set_option maxHeartbeats 2000000
set_option maxRecDepth 100000
theorem gRows : Tryd.prog.globalNamed "stockpot/op.rows" = some 1 := by kernel_rfl
theorem gNought : Tryd.prog.globalNamed "stockpot/frame.nought" = some 0 := by kernel_rfl
def rowsL : List (DataW Unit) := match (Rows.laid_stockpot_op_rows : DataW Unit) with
  | .agg l => l
  | _ => []
theorem rows_agg : (Rows.laid_stockpot_op_rows : DataW Unit) = .agg rowsL := rfl
theorem row_int : rowsL[0]? = some (rowD [105, 110, 116] (-4611686018427387904) 4611686018427387903 0 0 0 1) := rfl
theorem row_ret : rowsL[9]? = some (rowD [114, 101, 116] 0 0 0 0 1 0) := rfl
theorem rows_lie {W : World} {l : List (String × DataW Unit)} (h : laidMetH Tryd.prog l W) (hh : (l.filter fun x => x.2.handleName?.isSome) = []) (hm : ("stockpot/op.rows", Rows.laid_stockpot_op_rows) ∈ l)
    {i : Nat} (hi : i < 38) {s : List UInt8} {a b c d e f : Int} (hr : rowsL[i]? = some (rowD s a b c d e f)) : ∀ j u, (rowC s a b c d e f)[j]? = some u → W.cell? ⟨1, i * 7 + j, none⟩ = some u := by
  intro j u hu
  have hj : j < 7 := by have := (List.getElem?_eq_some_iff.1 hu).1; simpa [rowC] using this
  obtain ⟨ps, hl, _⟩ := laidMet_of_H h hh
  obtain ⟨g', t', cs, fuel, p, hg', ht', hvar, hd⟩ := laid_mem hl hm
  obtain rfl := Option.some.inj (gRows.symm.trans hg')
  obtain rfl := Option.some.inj ((show (Tryd.prog.globals[1]?).map (·.type) = some 128 by kernel_rfl).symm.trans ht')
  obtain ⟨xs, m, _, hx, hlen, hxl, hf⟩ := DataW.trod_array Tryd.underlying128 hd
  have hc : Tryd.prog.cellsOf 127 = 7 := by kernel_rfl
  rw [rows_agg] at hx
  have hxr : rowsL = xs.map (·.1) := by
    have := congrArg Prod.fst hx
    simpa using this
  have h1 := hf i hi
  rw [hc] at h1
  have hxi : (xs.map (·.1))[i]? = some (rowD s a b c d e f) := by rw [← hxr]; exact hr
  rw [List.getElem?_map] at hxi
  obtain ⟨y, hy, hy1⟩ := Option.map_eq_some_iff.1 hxi
  rw [hy] at h1
  have h2 := row_cells h1 hy1
  have h3 : ((cs.toList.drop (i * 7)).take 7)[j]? = some u := by rw [h2]; exact hu
  rw [List.getElem?_take_of_lt hj, List.getElem?_drop] at h3
  simp only [World.var?, gRows, Option.bind_some] at hvar
  split at hvar
  · rename_i cs' tt fr hb
    obtain rfl := Option.some.inj hvar
    simpa [World.cell?, hb] using h3
  · cases hvar
theorem nought_lie {W : World} {l : List (String × DataW Unit)} (h : laidMetH Tryd.prog l W) (hh : (l.filter fun x => x.2.handleName?.isSome) = []) (hm : ("stockpot/frame.nought", Rows.laid_stockpot_frame_nought) ∈ l) : W.cell? ⟨0, 0, none⟩ = some (.int .u64 1) := by
  obtain ⟨ps, hl, _⟩ := laidMet_of_H h hh
  obtain ⟨g', t', cs, fuel, p, hg', ht', hvar, hd⟩ := laid_mem hl hm
  obtain rfl := Option.some.inj (gNought.symm.trans hg')
  obtain rfl := Option.some.inj ((show (Tryd.prog.globals[0]?).map (·.type) = some 77 by kernel_rfl).symm.trans ht')
  obtain ⟨xs, m, _, hx, hlen, hxl, hf⟩ := DataW.trod_array Tryd.underlying77 hd
  have hc : Tryd.prog.cellsOf 32 = 1 := by kernel_rfl
  have h1 := hf 0 (by omega)
  rw [hc] at h1
  have hxr : [DataW.lit (.int .u64 1)] = xs.map (·.1) := by
    have := congrArg Prod.fst hx
    simpa [Rows.laid_stockpot_frame_nought] using this
  have hxi : (xs.map (·.1))[0]? = some (.lit (.int .u64 1)) := by rw [← hxr]; rfl
  rw [List.getElem?_map] at hxi
  obtain ⟨y, hy, hy1⟩ := Option.map_eq_some_iff.1 hxi
  rw [hy] at h1
  obtain ⟨n, hn, hyn, _⟩ := DataW.trod_int Tryd.underlying32 h1
  rw [hyn] at hy1
  simp at hy1
  subst hy1
  have h3 : ((cs.toList.drop (0 * 1)).take 1)[0]? = some (.int .u64 1) := by rw [hn]; rfl
  rw [List.getElem?_take_of_lt (by omega), List.getElem?_drop] at h3
  simp only [World.var?, gNought, Option.bind_some] at hvar
  split at hvar
  · rename_i cs' tt fr hb
    obtain rfl := Option.some.inj hvar
    simpa [World.cell?, hb] using h3
  · cases hvar
/-- the tables lie where they were laid -/
def FrmLie (W : World) : Prop := (∀ j u, (rowC [105, 110, 116] (-4611686018427387904) 4611686018427387903 0 0 0 1)[j]? = some u → W.cell? ⟨1, 0 * 7 + j, none⟩ = some u) ∧
  (∀ j u, (rowC [114, 101, 116] 0 0 0 0 1 0)[j]? = some u → W.cell? ⟨1, 9 * 7 + j, none⟩ = some u) ∧ W.cell? ⟨0, 0, none⟩ = some (.int .u64 1)
theorem FrmLie.ext {w w' : World} (h : FrmLie w) (e : Ext w w') : FrmLie w' := ⟨fun j u hu => e.cell (h.1 j u hu), fun j u hu => e.cell (h.2.1 j u hu), e.cell h.2.2⟩
theorem frmLie_of_laid {W : World} {l : List (String × DataW Unit)} (h : laidMetH Tryd.prog l W) (hh : (l.filter fun x => x.2.handleName?.isSome) = [])
    (h1 : ("stockpot/op.rows", Rows.laid_stockpot_op_rows) ∈ l) (h2 : ("stockpot/frame.nought", Rows.laid_stockpot_frame_nought) ∈ l) : FrmLie W :=
  ⟨rows_lie h hh h1 (by omega) row_int, rows_lie h hh h1 (by omega) row_ret, nought_lie h hh h2⟩
end Go.Proofs.YtgiopklnielglaaDoor
