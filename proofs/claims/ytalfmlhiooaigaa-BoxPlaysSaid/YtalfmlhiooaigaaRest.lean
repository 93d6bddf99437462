/- A function with a select in it, for 'Calls': pieces of its code one behind the other ('Rest'); a piece without a communication by the ordinary walk, a select by the machine's own step. -/
import Derived.WalkKit
import Derived.Conc.LoneCalls
import Derived.Conc.LoneSelectN
namespace Go.Proofs.Ytalfmlhiooaigaa
open Go Go.Conc
section
variable {P : Program} {f : FuncId} {fn : Func} {R : Ending → World → Prop}
def baseF (f : FuncId) : Frame := { (default : Frame) with fn := f, kind := .normal }
/-- from here, with these items left, the function comes to an ending of which R holds -/
def Rest (P : Program) (f : FuncId) (R : Ending → World → Prop) (k : List Item) (a : Act) (w : World) : Prop :=
  ∀ cs, ∃ e w' fr, R e w' ∧ Comes P (lone ((baseF f).at a k) cs w) (lone fr cs w') e ∧ fr.fn = f ∧ fr.leaving P w' e
theorem Rest.step {k k' : List Item} {a a' : Act} {w w' : World} (h : ∀ cs, Steps P (lone ((baseF f).at a k) cs w) (lone ((baseF f).at a' k') cs w')) (g : Rest P f R k' a' w') : Rest P f R k a w := fun cs => by
  obtain ⟨e, w2, fr, hR, hc, hf, hl⟩ := g cs
  exact ⟨e, w2, fr, hR, Comes.of_steps (h cs) hc, hf, hl⟩
theorem calls_of_rest {c : Code} {args : Array Value} {w : World} (hf : P.funcs[f]? = some fn) (hb : fn.body = some c)
    (h : Rest P f R [.code c] { tmps := args ++ Array.replicate (fn.ntmps - args.size) undef, defers := [] } w) : Calls P f args w R := by
  intro cs
  have henter : Frame.enter P f args .normal = (baseF f).at { tmps := args ++ Array.replicate (fn.ntmps - args.size) undef, defers := [] } [.code c] := by
    simp [Frame.enter, Frame.at, hf, hb, baseF]
  rw [henter]
  exact h cs
/-- what a piece of code is asked for, with these items behind it -/
def restPost (P : Program) (f : FuncId) (fn : Func) (R : Ending → World → Prop) (k : List Item) : Exit → Act → World → Prop
  | .normal, a, w => Rest P f R k a w
  | .exit id, a, w => ∃ k', exitTo id k = some k' ∧ Rest P f R k' a w
  | .goto _, _, _ => False
  | e, a, w => bodyPost P fn R e a w
theorem restPost_ret {k : List Item} {a : Act} {w : World} (h : bodyPost P fn R .ret a w) : restPost P f fn R k .ret a w := h
theorem Rest.nil {a : Act} {w : World} (hf : P.funcs[f]? = some fn) (h : bodyPost P fn R .normal a w) : Rest P f R [] a w := fun cs => by
  obtain ⟨hd, v, hr, hR⟩ := h
  exact ⟨.returned v, w, _, hR, (Steps.one step_end : Steps P _ _), rfl, rfl, hd, rfl, fn, hf, hr⟩
theorem Rest.arrives {k : List Item} {m : List Item} {a : Act} {w : World} (hf : P.funcs[f]? = some fn)
    (h : ∀ cs, ∃ e a' w', restPost P f fn R k e a' w' ∧ Arrives P (lone ((baseF f).at a m) cs w) (baseF f) k cs e a' w') : Rest P f R m a w := fun cs => by
  obtain ⟨e, a', w', hq, harr⟩ := h cs
  cases e with
  | normal =>
    obtain ⟨e, w2, fr, hR, hc, hf2, hl⟩ := hq cs
    exact ⟨e, w2, fr, hR, Comes.of_steps harr hc, hf2, hl⟩
  | exit id =>
    obtain ⟨k', hk, hr⟩ := hq
    obtain ⟨e, w2, fr, hR, hc, hf2, hl⟩ := hr cs
    exact ⟨e, w2, fr, hR, Comes.of_steps (harr k' hk) hc, hf2, hl⟩
  | goto l => exact hq.elim
  | ret =>
    obtain ⟨hd, v, hr, hR⟩ := hq
    obtain ⟨todo, hs⟩ := harr
    exact ⟨.returned v, w', _, hR, hs, rfl, rfl, hd, rfl, fn, hf, hr⟩
  | panic chain =>
    obtain ⟨hd, hR⟩ := hq
    obtain ⟨todo, hs⟩ := harr
    exact ⟨.panicked chain, w', _, hR, hs, rfl, rfl, hd, fn, hf⟩
  | outgrown => exact ⟨.outgrown, w', baseF f, hq, harr.resolve_left (by simp [baseF]), rfl, trivial⟩
/-- a piece by the ordinary walk -/
theorem Rest.code {c : Code} {k : List Item} {a : Act} {w : World} (hf : P.funcs[f]? = some fn) (h : c.wp P (restPost P f fn R k) a w) : Rest P f R (.code c :: k) a w :=
  Rest.arrives (k := k) hf fun cs => h (baseF f) k cs
/-- the last piece -/
theorem Rest.last {c : Code} {a : Act} {w : World} (hf : P.funcs[f]? = some fn) (h : c.wp P (bodyPost P fn R) a w) : Rest P f R [.code c] a w :=
  Rest.code hf (wp_mono h fun e a w hq => by
    cases e with
    | normal => exact Rest.nil hf hq
    | exit id => exact hq.elim
    | goto l => exact hq.elim
    | ret => exact hq
    | panic c => exact hq
    | outgrown => exact hq)
/-- operations that are left of a region -/
theorem Rest.ops {ops : Array Oper} {l : List Nat} {k : List Item} {a : Act} {w : World} (hf : P.funcs[f]? = some fn) (h : wpOps P ops (restPost P f fn R k) l a w) : Rest P f R (.inRegion ops l :: k) a w :=
  Rest.arrives (k := k) hf fun cs => wp_ops l a w h (baseF f) k cs
theorem Rest.opsL {ops : Array Oper} (k0 : Nat) {l : List Oper} {k : List Item} {a : Act} {w : World} (hf : P.funcs[f]? = some fn) (hl : ops.toList.drop k0 = l) (h : wpList P ops (restPost P f fn R k) l a w) : Rest P f R (.inRegion ops (List.range' k0 l.length) :: k) a w :=
  Rest.ops hf (by rw [wpOps_eq_wpList l k0 (fun j => by rw [← hl, List.getElem?_drop]; simp)]; exact h)
theorem Rest.seq {x y : Code} {k : List Item} {a : Act} {w : World} (h : Rest P f R (.code x :: .code y :: k) a w) : Rest P f R (.code (.seq x y) :: k) a w := Rest.step (fun _ => .one step_seq) h
theorem Rest.block {id : Nat} {c : Code} {k : List Item} {a : Act} {w : World} (h : Rest P f R (.code c :: .inBlock id :: k) a w) : Rest P f R (.code (.block id c) :: k) a w := Rest.step (fun _ => .one step_block) h
theorem Rest.inBlock {id : Nat} {k : List Item} {a : Act} {w : World} (h : Rest P f R k a w) : Rest P f R (.inBlock id :: k) a w := Rest.step (fun _ => .one step_inBlock) h
theorem Rest.cond {c : Operand} {x y : Code} {t : Bool} {k : List Item} {a : Act} {w : World} (hc : a.eval c = .bool t) (h : Rest P f R (.code (if t then x else y) :: k) a w) : Rest P f R (.code (.cond c x y) :: k) a w := Rest.step (fun _ => .one (step_cond hc)) h
theorem Rest.region {id : Nat} {ops : Array Oper} {k : List Item} {a : Act} {w : World} (h : Rest P f R (.inRegion ops (List.range ops.size) :: k) a w) : Rest P f R (.code (.region id ops false) :: k) a w := Rest.step (fun _ => .one step_region) h
theorem finish_base (a : Act) (ops : Array Oper) (i : Nat) (rest : List Nat) (k : List Item) (v : Value) : ((baseF f).at a (.inRegion ops (i :: rest) :: k)).finish v = (baseF f).at (a.put ((ops[i]?).bind (·.dst)) v) (.inRegion ops rest :: k) := Frame.finish_at _ _ _ _ _ _ _
theorem res_s0 (c : Nat) (v z : Value) : commResult #[scase c v z] .select ((0 : Nat) : Int) undef false = .tuple #[goInt 0, .bool false] := by simp [commResult, scase]
theorem res_sd (c : Nat) (v z : Value) : commResult #[scase c v z] .select (-1) undef false = .tuple #[goInt (-1), .bool false] := by simp [commResult, scase]
theorem res_r0 (c : Nat) (v z : Value) : commResult #[rcase c z] .select ((0 : Nat) : Int) v true = .tuple #[goInt 0, .bool true, v] := by simp [commResult, rcase]
theorem res_rd (c : Nat) (z : Value) : commResult #[rcase c z] .select (-1) undef false = .tuple #[goInt (-1), .bool false, z] := by simp [commResult, rcase]
/-- a select of one send, with a default: there is room -/
theorem Rest.send {ops : Array Oper} {i : Nat} {rest : List Nat} {o : Oper} {k : List Item} {a : Act} {w w1 : World} {c cap s r : Nat} {buf : Array Value} {v z : Value} {tm : Bool} (ho : ops[i]? = some o) (hw : Region.wanted o (yielded ops a.tmps) = true)
    (hr : (execOp a.eval o).run P w = .ok (.comm #[scase c v z] false .select) w1) (hc : w1.heap[c]? = some (.chan cap buf false s r tm)) (hroom : buf.size < cap)
    (h : Rest P f R (.inRegion ops rest :: k) (a.put o.dst (.tuple #[goInt 0, .bool false])) (w1.setChan c cap (buf.push v) false (s + 1) r tm)) : Rest P f R (.inRegion ops (i :: rest) :: k) a w := by
  refine Rest.step (fun cs => .one ?_) h
  have hg := stepG_comm (P := P) (main := true) (b := baseF f) (k := k) (cs := cs) (rest := rest) ho hw (by simp [baseF]) hr
  have hs := step_lone_sel_send_room (k := 0) hg rfl (fun m c' hm hc' => by cases m with | zero => exact absurd rfl hm | succ m => simp at hc') hc hroom
  rw [finish_base, ho, res_s0] at hs
  exact hs
theorem Rest.full {ops : Array Oper} {i : Nat} {rest : List Nat} {o : Oper} {k : List Item} {a : Act} {w w1 : World} {c cap s r : Nat} {buf : Array Value} {v z : Value} {tm : Bool} (ho : ops[i]? = some o) (hw : Region.wanted o (yielded ops a.tmps) = true)
    (hr : (execOp a.eval o).run P w = .ok (.comm #[scase c v z] false .select) w1) (hc : w1.heap[c]? = some (.chan cap buf false s r tm)) (hfull : cap ≤ buf.size)
    (h : Rest P f R (.inRegion ops rest :: k) (a.put o.dst (.tuple #[goInt (-1), .bool false])) w1) : Rest P f R (.inRegion ops (i :: rest) :: k) a w := by
  refine Rest.step (fun cs => .one ?_) h
  have hg := stepG_comm (P := P) (main := true) (b := baseF f) (k := k) (cs := cs) (rest := rest) ho hw (by simp [baseF]) hr
  have hs := step_lone_sel_default hg (fun cc hm => by simp at hm; subst hm; exact noWay_send hc hfull)
  rw [finish_base, ho, res_sd] at hs
  exact hs
/-- a select of one receive, with a default: something is there -/
theorem Rest.recv {ops : Array Oper} {i : Nat} {rest : List Nat} {o : Oper} {k : List Item} {a : Act} {w w1 : World} {c cap s r : Nat} {buf : Array Value} {z : Value} {tm : Bool} (ho : ops[i]? = some o) (hw : Region.wanted o (yielded ops a.tmps) = true)
    (hr : (execOp a.eval o).run P w = .ok (.comm #[rcase c z] false .select) w1) (hc : w1.heap[c]? = some (.chan cap buf false s r tm)) (hsome : 0 < buf.size)
    (h : Rest P f R (.inRegion ops rest :: k) (a.put o.dst (.tuple #[goInt 0, .bool true, buf.getD 0 undef])) (w1.setChan c cap (buf.extract 1 buf.size) false s (r + 1) tm)) : Rest P f R (.inRegion ops (i :: rest) :: k) a w := by
  refine Rest.step (fun cs => .one ?_) h
  have hg := stepG_comm (P := P) (main := true) (b := baseF f) (k := k) (cs := cs) (rest := rest) ho hw (by simp [baseF]) hr
  have hs := step_lone_sel_recv_buf (k := 0) hg rfl (fun m c' hm hc' => by cases m with | zero => exact absurd rfl hm | succ m => simp at hc') hc hsome
  rw [finish_base, ho, res_r0] at hs
  exact hs
theorem Rest.none {ops : Array Oper} {i : Nat} {rest : List Nat} {o : Oper} {k : List Item} {a : Act} {w w1 : World} {c cap s r : Nat} {z : Value} {tm : Bool} (ho : ops[i]? = some o) (hw : Region.wanted o (yielded ops a.tmps) = true)
    (hr : (execOp a.eval o).run P w = .ok (.comm #[rcase c z] false .select) w1) (hc : w1.heap[c]? = some (.chan cap #[] false s r tm))
    (h : Rest P f R (.inRegion ops rest :: k) (a.put o.dst (.tuple #[goInt (-1), .bool false, z])) w1) : Rest P f R (.inRegion ops (i :: rest) :: k) a w := by
  refine Rest.step (fun cs => .one ?_) h
  have hg := stepG_comm (P := P) (main := true) (b := baseF f) (k := k) (cs := cs) (rest := rest) ho hw (by simp [baseF]) hr
  have hs := step_lone_sel_default hg (fun cc hm => by simp at hm; subst hm; exact noWay_recv hc)
  rw [finish_base, ho, res_rd] at hs
  exact hs
end
end Go.Proofs.Ytalfmlhiooaigaa
