/- LexCuts: the walk. -/
import Derived.Test.YtdkmakdlojlacaaDoorLexY
namespace Go.Proofs.YtdkmakdlojlacaaDoor
open Go.RowKit Lex
set_option maxHeartbeats 1000000
set_option maxRecDepth 100000
theorem TokRow.slice {w : World} {base : Nat} {v : Value} {ts : List Tok} {g c : Nat} (h : TokRow w base v ts) (hv : v = .slice (some ⟨g, 0, none⟩) ts.length c) (k : Nat) (hk : k ≤ ts.length) : TokSl w (.slice (some ⟨g, 0, none⟩) k c) (ts.take k) := by
  subst hv
  by_cases h0 : k = 0
  · subst h0; exact .inl ⟨by simp, _, _, rfl⟩
  · have hne : ts ≠ [] := by intro e; subst e; simp at hk; exact h0 hk
    obtain ⟨g', c', hv, _, h1, h2, hc⟩ := h.shape hne
    obtain ⟨⟨rfl⟩, _, rfl⟩ := by simpa using hv
    refine .inr ⟨g, 0, c, ?_, ?_, h2, fun i x hx => ?_⟩
    · simp [Nat.min_eq_left hk]
    · simp; omega
    · have : i < k := by
        rcases Nat.lt_or_ge i k with h | h
        · exact h
        · simp [List.getElem?_take, show ¬ i < k from by omega] at hx
      simp only [List.getElem?_take, this, if_true] at hx
      simpa using hc i x hx
theorem cuts_walk (s : ByteArray) (n : Nat) (w : World) (hs : s.size ≤ maxLen) (hn : n ≤ 255) (hw : LexLie w) : Calls Tryd.prog 8 #[.string s, .int .u8 (n : Int)] w (TrueExt w) := by
  have hs' := hs
  unfold maxLen at hs'
  have HL := Lib.hid (str_length s)
  by_cases hbig : 1500 < s.size
  · go_enter Tryd.func8, Tryd.ntmps8
    go_wp2_with fail
    refine (lex_wakes w hw).mono ?_; rintro e w1 ⟨rfl, hx⟩
    go_wp2
    go_ret
    exact ⟨rfl, hx⟩
  · have hres : tokensRes s.data.toList = match tokensOf s.data.toList with | .ok ts => (0, 0, ts) | .error p => (11, p, []) := by
      unfold tokensRes; rw [HL.out, if_neg (by omega)]; rfl
    cases htok : tokensOf s.data.toList with
    | error p =>
      rw [htok] at hres
      have HR := Lib.hid hres
      clear hres htok
      go_enter Tryd.func8, Tryd.ntmps8
      go_wp2_with fail
      refine (tokens_is hs hw HR.out).mono ?_; rintro e w1 ⟨v, rfl, hx1, hr1⟩
      obtain ⟨_, _, rfl, _, _⟩ := hr1.len
      clear hr1
      have hxx := hx1.trans (Ext.alloc w1 (.cells #[.int .i64 11, .int .i64 p] 26))
      have hl1 := hw.ext hxx
      have HXX := Lib.hid hxx
      clear hx1 hxx
      go_wp2_with fail
      refine (lex_wakes _ hl1).mono ?_; rintro e w2 ⟨rfl, hx⟩
      go_wp2
      go_ret
      exact ⟨rfl, HXX.out.trans hx⟩
    | ok ts =>
      rw [htok] at hres
      by_cases hne : ts = []
      · subst hne
        have HR := Lib.hid hres
        clear hres htok
        go_enter Tryd.func8, Tryd.ntmps8
        go_wp2_with fail
        refine (tokens_is hs hw HR.out).mono ?_; rintro e w1 ⟨v, rfl, hx1, hr1⟩
        obtain ⟨_, _, rfl, _, _⟩ := hr1.len
        clear hr1
        have hxx := hx1.trans (Ext.alloc w1 (.cells #[.int .i64 0, .int .i64 0] 26))
        have hl1 := hw.ext hxx
        have HXX := Lib.hid hxx
        clear hx1 hxx
        go_wp2_with fail
        refine (lex_wakes _ hl1).mono ?_; rintro e w2 ⟨rfl, hx⟩
        go_wp2
        go_ret
        exact ⟨rfl, HXX.out.trans hx⟩
      · have hlen : 0 < ts.length := List.length_pos_iff.2 hne
        have hkl : n % ts.length < ts.length := Nat.mod_lt _ hlen
        obtain ⟨x, hx⟩ : ∃ x, ts[n % ts.length]? = some x := ⟨_, List.getElem?_eq_getElem hkl⟩
        have hcut := tokensOf_cut htok hx
        have hlies := (tokensOf_lies htok x (List.mem_of_getElem? hx)).1
        rw [HL.out] at hlies
        have hres2 : tokensRes (s.extract 0 x.2.2).data.toList = (0, 0, ts.take (n % ts.length)) := by
          rw [extract_zero_list]; unfold tokensRes
          rw [hcut, if_neg (by rw [List.length_take, HL.out]; omega)]
        have hb0 : ((ts.length : Int) == 0) = false := beq_false_of_ne (by omega)
        have HR := Lib.hid hres; have HR2 := Lib.hid hres2; have HX := Lib.hid hx
        clear hres hres2 hcut htok hx
        go_enter Tryd.func8, Tryd.ntmps8
        go_wp2_with fail
        refine (tokens_is hs hw HR.out).mono ?_; rintro e w1 ⟨v, rfl, hx1, hr1⟩
        obtain ⟨g, c, rfl, hg, hc, hm, hcell⟩ := hr1.shape hne
        have hxa := Ext.alloc w1 (.cells #[.int .i64 0, .int .i64 0] 26)
        have c2 := hxa.cell (hcell _ _ HX.out).2.2
        have hl1 := hw.ext (hx1.trans hxa)
        have HX1 := Lib.hid hx1; have HXA := Lib.hid hxa; have HR1 := Lib.hid hr1
        clear hx1 hxa hcell hr1
        unfold maxLen at hm
        generalize hk : n % ts.length = k at *
        have hmod : (n : Int) % (ts.length : Int) = (k : Int) := by rw [← hk]; exact (Int.natCast_emod _ _).symm
        have hki : (k : Int) < (ts.length : Int) := by omega
        rw [Nat.mul_comm] at c2
        have HK := Lib.hid hk
        clear hk
        go_wp2_with fail
        refine (tokens_is (by simp; unfold maxLen; omega) hl1 HR2.out).mono ?_; rintro e w2 ⟨v2, rfl, hx2, hr2⟩
        obtain ⟨pa, ca, hv2, ha1, ha2⟩ := hr2.len
        rw [show (ts.take k).length = k from by rw [List.length_take]; omega] at hv2 ha1
        subst hv2
        have hk4 : k ≤ 4000000000 := by rw [← HK.out]; exact Nat.le_trans (Nat.mod_le _ _) (by omega)
        have hxb := hx2.trans (Ext.alloc w2 (.cells #[.int .i64 0, .int .i64 0] 26))
        have c3 := hxb.cell c2
        have s1 := hr2.sl.ext (Ext.alloc w2 (.cells #[.int .i64 0, .int .i64 0] 26))
        have s2 := ((HR1.out.slice rfl k (by omega)).ext HXA.out).ext hxb
        have hl2 := hl1.ext hxb
        have S1 := Lib.hid s1; have S2 := Lib.hid s2; have HXB := Lib.hid hxb
        clear hx2 hr2 s1 s2 hxb
        go_wp2_with fail
        with_reducible refine (keep_tokens _ _ _ _ _ S1.out S2.out (by rw [List.length_take]; omega)).mono ?_; rintro e w3 ⟨rfl, hx3⟩
        go_wp2_with fail
        refine (lex_wakes _ (hl2.ext hx3)).mono ?_; rintro e w4 ⟨rfl, hx4⟩
        go_wp2
        go_ret
        exact ⟨by simp, (HX1.out.trans HXA.out).trans (HXB.out.trans (hx3.trans hx4))⟩
theorem u8_nat {n : Int} (h : (Lit.int .u8 n).wf = true) : ∃ m : Nat, n = m ∧ m ≤ 255 := by
  simp only [Lit.wf, IntKind.min, IntKind.max, IntKind.signed, IntKind.bits, Bool.and_eq_true, decide_eq_true_eq] at h
  refine ⟨n.toNat, ?_, ?_⟩
  all_goals (simp at h; omega)
theorem cuts_walk' (s : ByteArray) (n : Int) (w : World) (hs : s.size ≤ maxLen) (hn : (Lit.int .u8 n).wf = true) (hw : LexLie w) : Calls Tryd.prog 8 #[.string s, .int .u8 n] w (TrueExt w) := by
  obtain ⟨m, rfl, hm⟩ := u8_nat hn
  exact cuts_walk s m w hs hm hw
end Go.Proofs.YtdkmakdlojlacaaDoor
