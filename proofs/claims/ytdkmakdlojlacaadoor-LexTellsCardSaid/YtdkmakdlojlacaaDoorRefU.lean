/- What the document's Tokens keeps from round to round. -/
import Derived.Test.YtdkmakdlojlacaaDoorRefV
import Derived.Test.YtdkmakdlojlacaaDoorLexX
import Derived.Lib.BufferMore
namespace Go.Proofs.YtdkmakdlojlacaaDoor
open Go.RowKit Lex
namespace Lex
def Lexed (l : List UInt8) (p : Nat) (ts : List Tok) : Prop := tokensOf l = prepend ts (lexAt (l.length + 1) (p + skip (l.drop p)) (l.drop (p + skip (l.drop p))))
theorem lexed_start (l : List UInt8) : Lexed l 0 [] := by
  unfold Lexed
  rw [prepend_nil, List.drop_zero, Nat.zero_add]; rfl
theorem lexed_blank {l : List UInt8} {p : Nat} {ts : List Tok} {c : UInt8} (h : Lexed l p ts) (hd : l.drop p = c :: l.drop (p + 1)) (hb : isBlank c = true) : Lexed l (p + 1) ts := by
  unfold Lexed at *
  have : skip (l.drop p) = 1 + skip (l.drop (p + 1)) := by rw [hd]; unfold skip; rw [skipS, if_pos hb]
  rw [this] at h
  rw [h, show p + (1 + skip (l.drop (p + 1))) = p + 1 + skip (l.drop (p + 1)) by omega]
theorem lexed_note {l : List UInt8} {p : Nat} {ts : List Tok} {c : UInt8} (h : Lexed l p ts) (hd : l.drop p = c :: l.drop (p + 1)) (hc : c.toNat = 35) : Lexed l (p + runLen notLine (l.drop p)) ts := by
  unfold Lexed at *
  have hb : isBlank c = false := by simp only [isBlank, Bool.or_eq_false_iff, decide_eq_false_iff_not]; omega
  have hr : runLen notLine (l.drop p) = 1 + runLen notLine (l.drop (p + 1)) := by rw [hd, runLen_cons, if_pos (by simp [notLine, hc])]; omega
  have : skip (l.drop p) = runLen notLine (l.drop p) + skip (l.drop (p + runLen notLine (l.drop p))) := by
    rw [hr]
    conv => lhs; rw [hd]
    unfold skip
    rw [skipS, hb, if_neg (by decide), if_pos hc, skipS_note, List.drop_drop, show p + 1 + runLen notLine (l.drop (p + 1)) = p + (1 + runLen notLine (l.drop (p + 1))) by omega]
    omega
  rw [this] at h
  rw [h, show p + (runLen notLine (l.drop p) + skip (l.drop (p + runLen notLine (l.drop p)))) = p + runLen notLine (l.drop p) + skip (l.drop (p + runLen notLine (l.drop p))) by omega]
theorem lexed_at {l : List UInt8} {p : Nat} {ts : List Tok} {c : UInt8} (h : Lexed l p ts) (hd : l.drop p = c :: l.drop (p + 1)) (hb : isBlank c = false) (hc : c.toNat ≠ 35) : tokensOf l = prepend ts (lexAt (l.length + 1) p (l.drop p)) := by
  unfold Lexed at h
  have : skip (l.drop p) = 0 := by rw [hd]; exact skip_head hb hc
  rw [this, Nat.add_zero] at h
  exact h
theorem lexed_some {l : List UInt8} {p : Nat} {ts : List Tok} {c : UInt8} {k : Nat} {t : List UInt8} {n : Nat} (h : Lexed l p ts) (hp : p < l.length) (hd : l.drop p = c :: l.drop (p + 1)) (hb : isBlank c = false) (hc : c.toNat ≠ 35) (ht : token (l.drop p) = some (k, t, n)) :
    Lexed l (p + n) (ts ++ [(k, t, p)]) := step_some (lexed_at h hd hb hc) hp ht
theorem lexed_none {l : List UInt8} {p : Nat} {ts : List Tok} {c : UInt8} (h : Lexed l p ts) (hp : p < l.length) (hd : l.drop p = c :: l.drop (p + 1)) (hb : isBlank c = false) (hc : c.toNat ≠ 35) (ht : token (l.drop p) = none) : tokensOf l = .error p :=
  step_none (lexed_at h hd hb hc) hp ht
theorem lexed_end {l : List UInt8} {p : Nat} {ts : List Tok} (h : Lexed l p ts) (hp : l.length ≤ p) : tokensOf l = .ok ts := by
  unfold Lexed at h
  rw [List.drop_eq_nil_of_le hp] at h
  have e : skip [] = 0 := rfl
  rw [e, Nat.add_zero] at h
  exact step_end h hp
theorem word_token {c : UInt8} {r : List UInt8} (hl : isLetter c = true) : token (c :: r) = if 12 < runLen inWord (c :: r) then none else some (kindOf ((c :: r).take (runLen inWord (c :: r))), (c :: r).take (runLen inWord (c :: r)), runLen inWord (c :: r)) := by
  simp only [token, hl, if_true]; rfl
theorem word_kind {c : UInt8} {r : List UInt8} (hl : isLetter c = true) (h : ¬ (c.toNat = 95 ∧ runLen inWord r = 0)) : kindOf ((c :: r).take (runLen inWord (c :: r))) = if words.contains ((c :: r).take (runLen inWord (c :: r))) = true then 5 else if isGreat c = true then 2 else 1 := by
  have hr : runLen inWord (c :: r) = runLen inWord r + 1 := by rw [runLen_cons, if_pos (by simp [inWord, hl])]
  unfold kindOf
  rw [hr, List.take_succ_cons, if_neg]
  · rfl
  · intro e
    injection e with e1 e2
    refine h ⟨by rw [e1]; rfl, ?_⟩
    have := congrArg List.length e2
    have hle := runLen_le inWord r
    rw [List.length_take, List.length_nil] at this
    omega
theorem run_all (f : UInt8 → Bool) : ∀ (l : List UInt8), ∀ c ∈ l.take (runLen f l), f c = true := by
  intro l
  induction l with
  | nil => intro c hc; simp at hc
  | cons d l ih =>
    intro c hc
    rw [runLen_cons] at hc
    by_cases hd : f d = true
    · rw [if_pos hd, List.take_succ_cons] at hc
      rcases List.mem_cons.1 hc with rfl | h
      · exact hd
      · exact ih c h
    · rw [if_neg hd] at hc; simp at hc
theorem word_bytes {l : List UInt8} : ∀ c ∈ l.take (runLen inWord l), c ≠ 32 := by
  intro c hc e
  have := run_all inWord l c hc
  subst e
  exact absurd this (by decide)
theorem int_token {c : UInt8} {r : List UInt8} (hl : isLetter c = false) (hd : isDigit c = true) : token (c :: r) = intTok (c :: r) := by
  simp only [token, hl, hd, if_true, Bool.false_eq_true, if_false]
theorem text_token {c : UInt8} {r : List UInt8} (hc : c.toNat = 34) : token (c :: r) = (textGo r [] 1).map fun x => (4, x.1, x.2) := by
  have h1 : isLetter c = false := by simp [isLetter, isGreat, hc]
  have h2 : isDigit c = false := by simp [isDigit, hc]
  simp only [token, h1, h2, hc, if_true, Bool.false_eq_true, if_false]
theorem sign_token {c : UInt8} {r : List UInt8} (hl : isLetter c = false ∨ (c.toNat = 95 ∧ runLen inWord r = 0)) (hd : isDigit c = false) (hc : c.toNat ≠ 34) : token (c :: r) = if refSign (c :: r) = 0 then none else some (6, (c :: r).take (refSign (c :: r)), refSign (c :: r)) := by
  by_cases h95 : c.toNat = 95
  · obtain rfl : c = 95 := UInt8.toNat_inj.1 h95
    have hr0 : runLen inWord r = 0 := by
      rcases hl with h | h
      · exact absurd h (by decide)
      · exact h.2
    have h1 : refSign (95 :: r) = 1 := by
      unfold refSign
      rw [if_neg]
      · rfl
      · rintro (h | h | h) <;> (rw [List.take_succ_cons] at h; injection h with h _; exact absurd h (by decide))
    have h2 : runLen inWord (95 :: r) = 1 := by rw [runLen_cons, if_pos (by decide), hr0]
    rw [word_token (by decide), h1, h2, if_neg (by decide), if_neg (by decide)]
    rfl
  · have h1 : isLetter c = false := by
      rcases hl with h | h
      · exact h
      · exact absurd h.1 h95
    simp only [token, h1, hd, hc, Bool.false_eq_true, if_false]
    exact signTok_ref h95
theorem refSign_le {c : UInt8} {r : List UInt8} : refSign (c :: r) ≤ (c :: r).length := by
  unfold refSign
  split
  · rename_i h
    have : ((c :: r).take 2).length = 2 := by rcases h with h | h | h <;> rw [h] <;> rfl
    rw [List.length_take] at this
    omega
  · split
    · simp
    · split <;> simp
/-- a run of bytes from place p on -/
theorem run_next {f : UInt8 → Bool} {l : List UInt8} {q e : Nat} {c : UInt8} (h : e = q + runLen f (l.drop q)) (hd : l.drop q = c :: l.drop (q + 1)) : (f c = true → e = q + 1 + runLen f (l.drop (q + 1))) ∧ (f c = false → e = q) := by
  rw [hd, runLen_cons] at h
  constructor
  · intro hf; rw [hf] at h; simp only [if_true] at h; omega
  · intro hf; rw [hf] at h; simpa using h
end Lex
def zeroGot : Array Value := #[.slice none 0 0, .int .i64 0, .int .i64 0]
def gotV (v : Value) : Array Value := #[v, .int .i64 0, .int .i64 0]
theorem got_cells {w : World} {B : Nat} {v : Value} (h : w.heap[B]? = some (.cells (gotV v) 30 (0, 0))) :
    w.cell? ⟨B, 0, none⟩ = some v ∧ w.cell? ⟨B, 1, none⟩ = some (.int .i64 0) ∧ w.cell? ⟨B, 2, none⟩ = some (.int .i64 0) ∧ w.frozen? ⟨B, 0, none⟩ = false ∧ w.frozen? ⟨B, 1, none⟩ = false ∧ w.frozen? ⟨B, 2, none⟩ = false ∧ B < w.heap.size := by
  refine ⟨?_, ?_, ?_, ?_, ?_, ?_, ?_⟩
  all_goals first | (simp [World.cell?, h, gotV]; done) | (simp [World.frozen?, h]; done) | exact (Array.getElem?_eq_some_iff.1 h).1
def RefRel (l : List UInt8) (w : World) (p : Nat) (ts : List Tok) (v : Value) (wr : World) : Prop :=
  TokRow wr (w.heap.size + 2) v ts ∧ wr.heap[w.heap.size]? = some (.cells zeroGot 30 (0, 0)) ∧ wr.heap[w.heap.size + 1]? = some (.cells (gotV v) 30 (0, 0)) ∧ Below w.heap.size w wr ∧ ts.length ≤ p ∧ Lexed l p ts
theorem RefRel.move {l : List UInt8} {w wr w1 : World} {p p' : Nat} {ts : List Tok} {v : Value} (h : RefRel l w p ts v wr) (e : Ext wr w1) (hp : p ≤ p') (hs : Lexed l p' ts) : RefRel l w p' ts v w1 := by
  obtain ⟨h1, h2, h3, h4, h5, _⟩ := h
  have z2 := (Array.getElem?_eq_some_iff.1 h2).1
  have z3 := (Array.getElem?_eq_some_iff.1 h3).1
  refine ⟨h1.ext e, ?_, ?_, h4.trans (Below.mono e (Below.size h4)), by omega, hs⟩
  · rw [Below.block e _ z2]; exact h2
  · rw [Below.block e _ z3]; exact h3
/-- the cells behind an append, where it goes into its field -/
theorem grown_cells {w w3 w2 : World} {B : Nat} {v v1 : Value} {o : Obj} (h : w3.heap[B]? = some (.cells (gotV v) 30 (0, 0))) (hv : ∀ b, v1.ownBlock = some b → B < b) (hg : (w3.alloc o).grownBy w2 v1.ownBlock) : w2.heap[B]? = some (.cells (gotV v) 30 (0, 0)) := by
  have z := (Array.getElem?_eq_some_iff.1 h).1
  rw [hg.block B (by simp; omega) (fun e => by have := hv _ e.symm; omega), Below.heap_alloc _ o _ z]
  exact h
/-- a token's row, made behind a world, in a later one -/
def TokAt (wr wx : World) (k : Nat) (t : List UInt8) (p : Nat) : Prop := Ext wr wx ∧ wx.heap[wr.heap.size]? = some (.cells #[.int .i64 k, .string (strOf t), .int .i64 p] 39 (0, 0))
theorem TokAt.ext {wr wx wy : World} {k : Nat} {t : List UInt8} {p : Nat} (h : TokAt wr wx k t p) (e : Ext wx wy) : TokAt wr wy k t p := by
  refine ⟨h.1.trans e, ?_⟩
  rw [Below.block e _ (Array.getElem?_eq_some_iff.1 h.2).1]; exact h.2
theorem TokAt.cells {wr wx : World} {k : Nat} {t : List UInt8} {p : Nat} (h : TokAt wr wx k t p) :
    wx.cell? ⟨wr.heap.size, 0, none⟩ = some (.int .i64 k) ∧ wx.cell? ⟨wr.heap.size, 1, none⟩ = some (.string (strOf t)) ∧ wx.cell? ⟨wr.heap.size, 2, none⟩ = some (.int .i64 p) ∧ wr.heap.size < wx.heap.size := by
  refine ⟨?_, ?_, ?_, (Array.getElem?_eq_some_iff.1 h.2).1⟩
  all_goals simp [World.cell?, h.2]
theorem TokAt.new (wr : World) (k : Nat) (t : List UInt8) (p : Nat) : TokAt wr (wr.alloc (.cells #[.int .i64 k, .string (strOf t), .int .i64 p] 39)) k t p := ⟨Ext.alloc _ _, heap_alloc_new _ _⟩
theorem TokAt.frozen {wr wx : World} {k : Nat} {t : List UInt8} {p : Nat} (h : TokAt wr wx k t p) : wx.frozen? ⟨wr.heap.size, 0, none⟩ = false ∧ wx.frozen? ⟨wr.heap.size, 1, none⟩ = false ∧ wx.frozen? ⟨wr.heap.size, 2, none⟩ = false := by
  refine ⟨?_, ?_, ?_⟩
  all_goals simp [World.frozen?, h.2]
theorem TokAt.set01 {wr wx : World} {k : Nat} {t : List UInt8} {p : Nat} (h : TokAt wr wx k t p) (k' : Nat) (t' : List UInt8) : TokAt wr ((wx.setCell ⟨wr.heap.size, 0, none⟩ (.int .i64 k')).setCell ⟨wr.heap.size, 1, none⟩ (.string (strOf t'))) k' t' p := by
  refine ⟨?_, ?_⟩
  · exact (Below.setCell h.1 (p := ⟨wr.heap.size, 0, none⟩) (Nat.le_refl _) _).setCell (p := ⟨wr.heap.size, 1, none⟩) (Nat.le_refl _) _
  · rw [Lib.heap_setCell_same (Lib.heap_setCell_same h.2 _)]; rfl
theorem TokAt.set10 {wr wx : World} {k : Nat} {t : List UInt8} {p : Nat} (h : TokAt wr wx k t p) (k' : Nat) (t' : List UInt8) : TokAt wr ((wx.setCell ⟨wr.heap.size, 1, none⟩ (.string (strOf t'))).setCell ⟨wr.heap.size, 0, none⟩ (.int .i64 k')) k' t' p := by
  refine ⟨?_, ?_⟩
  · exact (Below.setCell h.1 (p := ⟨wr.heap.size, 1, none⟩) (Nat.le_refl _) _).setCell (p := ⟨wr.heap.size, 0, none⟩) (Nat.le_refl _) _
  · rw [Lib.heap_setCell_same (Lib.heap_setCell_same h.2 _)]; rfl
theorem RefRel.next {l : List UInt8} {w wr w3 w2 : World} {p p' : Nat} {ts : List Tok} {x : Tok} {v v' : Value} {o : Obj} (h : RefRel l w p ts v wr) (e : Ext wr w3) (hg : (w3.alloc o).grownBy w2 v.ownBlock)
    (hrow : TokRow w2 (w.heap.size + 2) v' (ts ++ [x])) (hp : p < p') (hs : Lexed l p' (ts ++ [x])) : RefRel l w p' (ts ++ [x]) v' (w2.setCell ⟨w.heap.size + 1, 0, none⟩ v') := by
  obtain ⟨h1, h2, h3, h4, h5, _⟩ := h.move e (Nat.le_refl _) h.2.2.2.2.2
  have hne := h1.own
  have z2 := (Array.getElem?_eq_some_iff.1 h2).1
  have z3 := (Array.getElem?_eq_some_iff.1 h3).1
  have g3 := grown_cells (w := w) h3 (fun b hb => by have := hne b hb; omega) hg
  refine ⟨hrow.setCell (by simp) _, ?_, ?_, ?_, by simp; omega, hs⟩
  · rw [Below.heap_setCell _ _ _ _ (by simp), hg.block _ (by simp; omega) (fun e => by have := hne _ e.symm; omega), Below.heap_alloc _ o _ z2]
    exact h2
  · rw [Lib.heap_setCell_same g3]; rfl
  · exact ((h4.alloc (by omega) o).grown hg (by simp; omega) (fun b hb => by have := hne b hb; omega)).setCell (by simp) _
end Go.Proofs.YtdkmakdlojlacaaDoor
