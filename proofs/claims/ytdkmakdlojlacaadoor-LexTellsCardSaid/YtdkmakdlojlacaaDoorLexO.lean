/- The walk of lex.Tokens. -/
import Derived.Test.YtdkmakdlojlacaaDoorLexM
namespace Go.Proofs.YtdkmakdlojlacaaDoor
open Go.RowKit Lex
theorem TokensRel.next {l : List UInt8} {w wr w1 w2 : World} {p p' : Nat} {ts : List Tok} {x : Tok} {v v' : Value} {o1 o2 : Obj} (h : TokensRel l w p ts v wr) (hx : Ext wr w1) (hg : ((w1.alloc o1).alloc o2).grownBy w2 v.ownBlock)
    (hrow : TokRow w2 (w.heap.size + 1) v' (ts ++ [x])) (hp : p < p') (hs : tokensOf l = prepend (ts ++ [x]) (lexAt (l.length + 1) p' (l.drop p'))) : TokensRel l w p' (ts ++ [x]) v' w2 := by
  obtain ⟨h1, h2, h3, h4, h5⟩ := h
  have hne := h1.own
  have hz := (Array.getElem?_eq_some_iff.1 h2).1
  have hz1 := hx.size
  have hb := Below.size h3
  refine ⟨hrow, ?_, ?_, by simp; omega, hs⟩
  · rw [hg.block w.heap.size (by simp; omega) (fun e => by have := hne _ e.symm; omega), Below.heap_alloc _ o2 _ (by simp; omega), Below.heap_alloc _ o1 _ (by omega), Below.block hx _ hz]
    exact h2
  · exact (((h3.trans (Below.mono hx hb)).alloc (by omega) o1).alloc (by simp; omega) o2).grown hg (by simp; omega) (fun b hb' => by have := hne b hb'; omega)
theorem lexAt_end {l : List UInt8} {p : Nat} (h : l.length ≤ p) (f : Nat) : lexAt f p (l.drop p) = .ok [] := by
  rw [List.drop_eq_nil_of_le h, lexAt_nil]
theorem step_some {l : List UInt8} {p : Nat} {ts : List Tok} {k : Nat} {t : List UInt8} {n : Nat} (h : tokensOf l = prepend ts (lexAt (l.length + 1) p (l.drop p))) (hp : p < l.length) (ht : token (l.drop p) = some (k, t, n)) :
    tokensOf l = prepend (ts ++ [(k, t, p)]) (lexAt (l.length + 1) (p + n + skip (l.drop (p + n))) (l.drop (p + n + skip (l.drop (p + n))))) := by
  rw [lexAt_some ht _ (by rw [List.length_drop]; omega), List.drop_drop, List.drop_drop] at h
  rw [h]
  cases lexAt (l.length + 1) (p + n + skip (l.drop (p + n))) (l.drop (p + n + skip (l.drop (p + n)))) with
  | error e => rfl
  | ok b => simp [prepend]
theorem step_none {l : List UInt8} {p : Nat} {ts : List Tok} (h : tokensOf l = prepend ts (lexAt (l.length + 1) p (l.drop p))) (hp : p < l.length) (ht : token (l.drop p) = none) : tokensOf l = .error p := by
  rw [lexAt_none (by intro e; have := congrArg List.length e; simp only [List.length_drop, List.length_nil] at this; omega) ht _ (by rw [List.length_drop]; omega)] at h
  exact h
theorem step_end {l : List UInt8} {p : Nat} {ts : List Tok} (h : tokensOf l = prepend ts (lexAt (l.length + 1) p (l.drop p))) (hp : l.length ≤ p) : tokensOf l = .ok ts := by
  rw [lexAt_end hp] at h
  rw [h]; simp [prepend]
theorem below2 {B : Nat} {w wr : World} (h : Below B w wr) {b : Nat} (hb : B ≤ b) (u0 u1 : Value) : Below B w ((wr.setCell ⟨b, 0, none⟩ u0).setCell ⟨b, 1, none⟩ u1) :=
  (h.setCell (p := ⟨b, 0, none⟩) hb u0).setCell (p := ⟨b, 1, none⟩) hb u1
theorem tokAns_none_eq : tokAns none = .tuple #[.agg #[.int .i64 0, .string ⟨#[]⟩, .int .i64 0], .int .i64 0] := rfl
theorem tokAns_some_eq (k : Nat) (t : List UInt8) (n : Nat) : tokAns (some (k, t, n)) = .tuple #[.agg #[.int .i64 k, .string (strOf t), .int .i64 0], .int .i64 n] := rfl
set_option maxHeartbeats 2000000
theorem tokens_any (s : ByteArray) (w : World) (hs : s.size ≤ maxLen) (hw : LexLie w) : Calls Tryd.prog 10 #[.string s] w (TokensAns s.data.toList w) := by
  have hs' := hs
  unfold maxLen at hs'
  have HL := Lib.hid (str_length s)
  by_cases hbig : 2000 < s.size
  · have hr : tokensRes s.data.toList = (10, 0, []) := by unfold tokensRes; rw [HL.out, if_pos hbig]
    have HR := Lib.hid hr
    clear hr
    go_enter Tryd.func10, Tryd.ntmps10
    go_wp2
    refine bodyPost_ret (v := .tuple #[.slice none 0 0, .agg #[.int .i64 10, .int .i64 0]]) (by simp [results, Tryd.results10, go_sem]) rfl ⟨.slice none 0 0, ?_, Ext.alloc _ _, ?_⟩
    · rw [HR.out]; rfl
    · rw [HR.out]; exact TokRow.nil _ _
  · obtain ⟨R, hR⟩ : ∃ R, tokensRes s.data.toList = R := ⟨_, rfl⟩
    have hR2 : R = match tokensOf s.data.toList with | .ok ts => (0, 0, ts) | .error p => (11, p, []) := by rw [← hR]; unfold tokensRes; rw [HL.out, if_neg hbig]; rfl
    have HR := Lib.hid hR
    have HR2 := Lib.hid hR2
    clear hR hR2
    have HW := Lib.hid hw
    go_enter Tryd.func10, Tryd.ntmps10
    go_wp2_with (first | (go_at_call 19; refine (skipped_any _ _ hs).mono ?_; rintro e w' ⟨rfl, rfl⟩))
    go_loopw [4, 5] (fun v i wr => ∃ (p : Nat) (ts : List Tok), p ≤ s.size ∧ i = .int .i64 p ∧ TokensRel s.data.toList w p ts v wr) (fun _ i _ => s.size - (intOf i).toNat)
    case atStart =>
      have := skip_le s.data.toList
      rw [HL.out] at this
      exact ⟨skip s.data.toList, [], this, rfl, TokRow.nil _ _, heap_alloc_new _ _, Below.alloc (Below.refl _ _) (Nat.le_refl _) _, Nat.zero_le _, by rw [prepend_nil]; rfl⟩
    case round =>
      obtain ⟨p, ts, hp, rfl, hrel⟩ := hrel
      obtain ⟨va, vc, rfl, hvc, hvm⟩ := hrel.1.len
      obtain ⟨hc0, hc1, hf0, hf1, hz⟩ := fault_cells hrel.2.1
      by_cases hlt : p < s.size
      · have hts := hrel.2.2.2.1
        have hdl : (s.extract p s.size).data.toList = s.data.toList.drop p := extract_end_list s p
        have HT := Lib.hid (fun wx (hx : LexLie wx) => token_any (s.extract p s.size) wx (by simp; unfold maxLen; omega) (by simp; omega) hx)
        have HWr := Lib.hid (HW.out.ext hrel.2.2.1)
        rw [hdl] at HT
        cases htok : token (s.data.toList.drop p) with
        | none =>
          have hres := step_none hrel.2.2.2.2 (by rw [HL.out]; exact hlt) htok
          rw [htok] at HT
          have HE := Lib.hid hres
          clear hres htok hdl
          go_wp2_with (first | (go_at_call 20; refine (HT.out _ HWr.out).mono ?_; rintro e w1 ⟨rfl, hx1⟩; rw [tokAns_none_eq]; have gc0 := hx1.cell hc0; have gc1 := hx1.cell hc1; have gf0 := (hx1.frozen hc0).trans hf0; have gf1 := (hx1.frozen hc1).trans hf1; have gz := hx1.size; have gz2 : w.heap.size < w1.heap.size := by omega))
          refine bodyPost_ret (v := .tuple #[.slice none 0 0, .agg #[.int .i64 11, .int .i64 p]]) (by simp [results, Tryd.results10, go_sem, gc0, gc1, gz2]) rfl ⟨.slice none 0 0, ?_, ?_, ?_⟩
          · rw [HR.out, HR2.out, HE.out]; rfl
          · exact (below2 (hrel.2.2.1.trans (Below.mono hx1 (by omega))) (Nat.le_refl _) _ _).alloc (by simp; omega) _
          · rw [HR.out, HR2.out, HE.out]; exact TokRow.nil _ _
        | some x =>
          obtain ⟨k, t, n⟩ := x
          have hle := token_le htok
          rw [List.length_drop, HL.out] at hle
          have hstep := step_some hrel.2.2.2.2 (by rw [HL.out]; exact hlt) htok
          rw [htok] at HT
          have hn1 := hle.1
          have hn2 := hle.2.1
          have hsk := skip_le (s.data.toList.drop (p + n))
          rw [List.length_drop, HL.out] at hsk
          have HSK := Lib.hid (show skip (s.extract (p + n) s.size).data.toList = skip (s.data.toList.drop (p + n)) by rw [extract_end_list])
          generalize hq : skip (s.data.toList.drop (p + n)) = q at *
          have HE := Lib.hid hstep
          clear hstep htok hdl hle hq
          have bn : ((n : Int) == 0) = false := by simp; omega
          go_wp2_with (first | (go_at_call 20; refine (HT.out _ HWr.out).mono ?_; rintro e w1 ⟨rfl, hx1⟩; rw [tokAns_some_eq]; have gc0 := hx1.cell hc0; have gc1 := hx1.cell hc1; have gf0 := (hx1.frozen hc0).trans hf0; have gf1 := (hx1.frozen hc1).trans hf1; have gz := hx1.size; have gz2 : w.heap.size < w1.heap.size := (by omega); have grow := (TokRow.ext hrel.1 hx1).alloc (.cells #[.int .i64 k, .string (strOf t), .int .i64 p] 39)) | (at_builtin; refine wpList_append_tok (w := w1.alloc (.cells #[.int .i64 k, .string (strOf t), .int .i64 p] 39)) (by rfl) _ _ (by rfl) (w.heap.size + 1) (.slice va ts.length vc) ts (by rfl) grow k t p (w1.heap.size + 1) (by rfl) (by simp) (by omega) (by simp; omega) ?_; intro v' w2 hown' hgrow) | (go_at_call 19; refine (skipped_any _ _ (by simp; unfold maxLen; omega)).mono ?_; rintro e w' ⟨rfl, rfl⟩; rw [HSK.out]))
          have R2 := hrel.next hx1 hgrow hown' (by omega) HE.out
          exact ⟨⟨p + n + q, ts ++ [(k, t, p)], by omega, by go_num, R2⟩, by simp [intOf]; omega⟩
      · have hres := step_end hrel.2.2.2.2 (by rw [HL.out]; omega)
        have HE := Lib.hid hres
        clear hres
        go_wp2
        refine bodyPost_ret (v := .tuple #[.slice va ts.length vc, .agg #[.int .i64 0, .int .i64 0]]) (by simp [results, Tryd.results10, go_sem, hc0, hc1]) rfl ⟨.slice va ts.length vc, ?_, ?_, ?_⟩
        · rw [HR.out, HR2.out, HE.out]; rfl
        · exact below2 hrel.2.2.1 (Nat.le_refl _) _ _
        · rw [HR.out, HR2.out, HE.out]
          exact ((hrel.1.setCell (a := ⟨w.heap.size, 0, none⟩) (by simp) _).setCell (a := ⟨w.heap.size, 1, none⟩) (by simp) _).mono (by omega)
end Go.Proofs.YtdkmakdlojlacaaDoor
