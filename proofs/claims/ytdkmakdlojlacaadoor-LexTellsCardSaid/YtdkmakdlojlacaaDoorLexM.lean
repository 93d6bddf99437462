/- The walk of lex.Tokens. -/
import Derived.Test.YtdkmakdlojlacaaDoorLexN
namespace Go.Proofs.YtdkmakdlojlacaaDoor
open Go.RowKit Lex
/-- a token's cells -/
def tokC (x : Tok) : List Value := [.int .i64 x.1, .string (strOf x.2.1), .int .i64 x.2.2]
/-- a slice of tokens -/
def TokRow (w : World) (base : Nat) (v : Value) (ts : List Tok) : Prop := w.ownsRow base 39 3 v ts.length (ts.flatMap tokC)
theorem info_tok : (Tryd.prog.info? 39).map (fun i => (i.zero, i.size, i.bytes)) = some (some (.agg #[.int .i64 0, .string ⟨#[]⟩, .int .i64 0]), 3, 32) := by kernel_rfl
theorem TokRow.nil (w : World) (base : Nat) : TokRow w base (.slice none 0 0) [] := World.ownsRow_nil _ _ _ _
theorem TokRow.alloc {w : World} {base : Nat} {v : Value} {ts : List Tok} (h : TokRow w base v ts) (o : Obj) : TokRow (w.alloc o) base v ts := World.ownsRow.alloc h o
theorem TokRow.len {w : World} {base : Nat} {v : Value} {ts : List Tok} (h : TokRow w base v ts) : ∃ a c, v = .slice a ts.length c ∧ ts.length ≤ c ∧ c ≤ maxLen := by
  rcases h.2 with ⟨h1, h2⟩ | ⟨g, cap, cur, h1, _, _, h2, h3, _⟩
  · exact ⟨none, 0, by rw [h1, h2], by omega, Nat.zero_le _⟩
  · exact ⟨_, cap, h1, h2, h3⟩
theorem cell_new3 {w : World} {a b c : Value} {T : TypeId} : ∀ j u, [a, b, c][j]? = some u → (w.alloc (.cells #[a, b, c] T)).cell? ((⟨w.heap.size, 0, none⟩ : Addr).add j) = some u := by
  intro j u h
  have hb : (w.alloc (.cells #[a, b, c] T)).heap[w.heap.size]? = some (.cells #[a, b, c] T (0, 0)) := heap_alloc_new _ _
  match j, h with
  | 0, h => simp at h; subst h; simp [Addr.add]
  | 1, h => simp at h; subst h; simp [Addr.add]
  | 2, h => simp at h; subst h; simp [Addr.add]
  | j + 3, h => simp at h
/-- l = append(l, t) -/
theorem wpList_append_tok {ops : Array Oper} {rest : List Oper} {o : Oper} {a : Act} {Q : Exit → Act → World → Prop} {w : World} (hgd : o.guard = none) (s x : Operand)
    (ho : o.op = .call { callee := .builtin .append, args := #[s, x], argTypes := #[23, 23] })
    (base : Nat) (v : Value) (ts : List Tok) (hs : a.eval s = v) (hown : TokRow w base v ts) (tk : Nat) (tt : List UInt8) (tp : Nat) (g : Nat) (hx : a.eval x = .slice (some ⟨g, 0, none⟩) 1 1) (hgs : w.heap.size = g)
    (hlen : ts.length + 1 ≤ 1099511627776) (hbase : base ≤ w.heap.size)
    (h : ∀ v' w', TokRow w' base v' (ts ++ [(tk, tt, tp)]) → (w.alloc (.cells #[.int .i64 tk, .string (strOf tt), .int .i64 tp] 39)).grownBy w' v.ownBlock → wpList Tryd.prog ops Q rest (a.put o.dst v') w') :
    wpList Tryd.prog ops Q (o :: rest) a (w.alloc (.cells #[.int .i64 tk, .string (strOf tt), .int .i64 tp] 39)) := by
  subst hgs
  obtain ⟨i0, hi, hz0, hz1, hz2⟩ := info_parts info_tok
  refine wpList_append_own (P := Tryd.prog) (w := w.alloc (.cells #[.int .i64 tk, .string (strOf tt), .int .i64 tp] 39)) hgd s x 23 ho base 39 i0 _ 3 32 Tryd.underlying23 hi hz0 hz1 hz2 rfl (by decide) v ts.length (ts.flatMap tokC) hs (World.ownsRow.alloc hown _)
    ⟨w.heap.size, 0, none⟩ 1 1 (tokC (tk, tt, tp)) hx rfl cell_new3 ?_ (by unfold maxLen; omega) (by omega) (by simp; omega) ?_
  · intro u hu; simp [tokC] at hu; rcases hu with rfl | rfl | rfl <;> rfl
  · intro v' w' hown' hgrow _
    refine h v' w' ?_ hgrow
    unfold TokRow
    rw [List.length_append, List.flatMap_append]
    simpa using hown'
def prepend (ts : List Tok) : Except Nat (List Tok) → Except Nat (List Tok)
  | .ok b => .ok (ts ++ b)
  | .error e => .error e
theorem prepend_nil (r : Except Nat (List Tok)) : prepend [] r = r := by cases r <;> rfl
/-- what Tokens answers of a text: the error, where, the tokens -/
def tokensRes (l : List UInt8) : Nat × Nat × List Tok :=
  if 2000 < l.length then (10, 0, []) else match tokensOf l with
    | .ok ts => (0, 0, ts)
    | .error p => (11, p, [])
def TokensAns (l : List UInt8) (w : World) (e : Ending) (w' : World) : Prop :=
  ∃ v, e = .returned (.tuple #[v, .agg #[.int .i64 (tokensRes l).1, .int .i64 (tokensRes l).2.1]]) ∧ Ext w w' ∧ TokRow w' w.heap.size v (tokensRes l).2.2
def zeroFault : Array Value := #[.int .i64 0, .int .i64 0]
theorem fault_cells {w : World} {B : Nat} (h : w.heap[B]? = some (.cells zeroFault 26 (0, 0))) :
    w.cell? ⟨B, 0, none⟩ = some (.int .i64 0) ∧ w.cell? ⟨B, 1, none⟩ = some (.int .i64 0) ∧ w.frozen? ⟨B, 0, none⟩ = false ∧ w.frozen? ⟨B, 1, none⟩ = false ∧ B < w.heap.size := by
  refine ⟨?_, ?_, ?_, ?_, ?_⟩
  all_goals first | (simp [World.cell?, h, zeroFault]; done) | (simp [World.frozen?, h]; done) | exact (Array.getElem?_eq_some_iff.1 h).1
def TokensRel (l : List UInt8) (w : World) (p : Nat) (ts : List Tok) (v : Value) (wr : World) : Prop :=
  TokRow wr (w.heap.size + 1) v ts ∧ wr.heap[w.heap.size]? = some (.cells zeroFault 26 (0, 0)) ∧ Below w.heap.size w wr ∧ ts.length ≤ p ∧ tokensOf l = prepend ts (lexAt (l.length + 1) p (l.drop p))
theorem TokRow.own {w : World} {base : Nat} {v : Value} {ts : List Tok} (h : TokRow w base v ts) : ∀ b, v.ownBlock = some b → base ≤ b := by
  intro b hb
  rcases h.2 with ⟨h1, _⟩ | ⟨g, cap, cur, h1, hb1, _⟩
  · subst h1; simp [Value.ownBlock] at hb
  · subst h1; simp only [Value.ownBlock, Option.some.injEq] at hb; omega
theorem TokRow.ext {w w' : World} {base : Nat} {v : Value} {ts : List Tok} (h : TokRow w base v ts) (e : Ext w w') : TokRow w' base v ts := by
  refine ⟨h.1, ?_⟩
  rcases h.2 with h1 | ⟨g, cap, cur, h1, hb1, hg, h2⟩
  · exact .inl h1
  · exact .inr ⟨g, cap, cur, h1, hb1, by rw [Below.block e g (Array.getElem?_eq_some_iff.1 hg).1]; exact hg, h2⟩
theorem TokRow.mono {w : World} {base base' : Nat} {v : Value} {ts : List Tok} (h : TokRow w base v ts) (hb : base' ≤ base) : TokRow w base' v ts := by
  refine ⟨h.1, ?_⟩
  rcases h.2 with h1 | ⟨g, cap, cur, h1, hb1, hg, h2⟩
  · exact .inl h1
  · exact .inr ⟨g, cap, cur, h1, by omega, hg, h2⟩
theorem TokRow.setCell {w : World} {base : Nat} {v : Value} {ts : List Tok} (h : TokRow w base v ts) {a : Addr} (ha : a.block < base) (u : Value) : TokRow (w.setCell a u) base v ts := ownsRow_setCell_below h ha u
end Go.Proofs.YtdkmakdlojlacaaDoor
