/- LexBack: the walk. -/
import Derived.Test.YtdkmakdlojlacaaDoorLexX
namespace Go.Proofs.YtdkmakdlojlacaaDoor
open Go.RowKit Lex
set_option maxHeartbeats 4000000
set_option maxRecDepth 100000
theorem append_list (a b : ByteArray) : (a ++ b).data.toList = a.data.toList ++ b.data.toList := by simp
theorem blank_piece (k : Nat) : ∃ c, isBlank c = true ∧ ((ByteArray.mk #[32, 9, 10]).extract (k % 3) (k % 3 + 1)).data.toList = [c] := by
  have : k % 3 = 0 ∨ k % 3 = 1 ∨ k % 3 = 2 := by omega
  rcases this with h | h | h <;> rw [h]
  · exact ⟨32, by decide, by decide⟩
  · exact ⟨9, by decide, by decide⟩
  · exact ⟨10, by decide, by decide⟩
theorem blanks_snoc {b : List UInt8} {c : UInt8} (hb : Blanks b) (hc : isBlank c = true) : Blanks (b ++ [c]) := blanks_append hb (blanks_cons hc blanks_nil)
theorem quoteOf_len {t q : List UInt8} (h : quoteOf t = some q) : q.length ≤ 122 := by
  unfold quoteOf at h
  split at h
  · cases h
  · split at h
    · obtain rfl := Option.some.inj h
      have := flat_le t
      simp only [List.length_cons, List.length_append, List.length_nil]; omega
    · cases h
theorem back_quote {b t q : List UInt8} (hq : quoteOf t = some q) (hb : Blanks b) (hl : b.length ≤ 14) : tokensRes (b ++ q ++ b) = (0, 0, [(4, t, b.length)]) := by
  have h1 := quote_token hq b
  have h2 := tokensOf_one hb hb h1.1 h1.2
  have h3 := quoteOf_len hq
  unfold tokensRes
  rw [List.append_assoc, h2, if_neg (by simp only [List.length_append]; omega)]
theorem back_kind {b t : List UInt8} {k : Nat} (hk : isKind t k = true) (hb : Blanks b) (hl : b.length ≤ 14) : tokensRes (b ++ t ++ [32] ++ b) = (0, 0, [(k, t, b.length)]) := by
  have h1 := kind_token hk b
  have e : t ++ 32 :: b = t ++ (32 :: b) := rfl
  have hb2 : Blanks (32 :: b) := blanks_cons (by decide) hb
  have h2 := tokensOf_one (b := 32 :: b) hb hb2 h1.1 h1.2
  have h3 : t.length ≤ 12 := by
    simp only [isKind, Bool.and_eq_true, decide_eq_true_eq] at hk; exact hk.2.1
  have e2 : b ++ t ++ [32] ++ b = b ++ (t ++ 32 :: b) := by simp
  unfold tokensRes
  rw [e2, h2, if_neg (by simp only [List.length_append, List.length_cons]; omega)]
theorem kind_one {t : List UInt8} (h1 : isKind t 1 = true) : isKind t 2 = false := by
  cases h2 : isKind t 2 with
  | false => rfl
  | true =>
    simp only [isKind, Bool.and_eq_true, decide_eq_true_eq] at h1 h2
    have a := h1.2.2.2.2
    have b := h2.2.2.2.2
    rw [a] at b; cases b
theorem back_walk (t : ByteArray) (n : Nat) (w : World) (hs : t.size ≤ maxLen) (hn : n ≤ 255) (hw : LexLie w) : Calls Tryd.prog 4 #[.string t, .int .u8 (n : Int)] w (TrueExt w) := by
  have hs' := hs
  unfold maxLen at hs'
  have HL := Lib.hid (str_length t)
  by_cases hbig : 200 < t.size
  · go_enter Tryd.func4, Tryd.ntmps4
    go_wp2_with fail
    refine (lex_wakes w hw).mono ?_; rintro e w1 ⟨rfl, hx⟩
    go_wp2
    go_ret
    exact ⟨rfl, hx⟩
  · go_enter Tryd.func4, Tryd.ntmps4
    go_wp2
    go_loop [5, 6] (fun b i => ∃ (k : Nat) (B : ByteArray), k ≤ 9 ∧ i = .int .i64 k ∧ b = .string B ∧ Blanks B.data.toList ∧ B.size ≤ k) (fun _ i => 10 - (intOf i).toNat)
    case atStart => exact ⟨0, ⟨#[]⟩, by omega, rfl, rfl, blanks_nil, by decide⟩
    case round =>
      obtain ⟨k, B, hk, rfl, rfl, hB, hBs⟩ := hrel
      by_cases hlt : k < n % 9
      · obtain ⟨c, hc, hpc⟩ := blank_piece k
        have HC := Lib.hid hpc
        clear hpc
        go_wp2
        refine ⟨⟨k + 1, _, by omega, by go_num, rfl, ?_, ?_⟩, by simp [intOf]; omega⟩
        · rw [append_list, HC.out]; exact blanks_snoc hB hc
        · have : ((ByteArray.mk #[32, 9, 10]).extract (k % 3) (k % 3 + 1)).size = 1 := by rw [← str_length, HC.out]; rfl
          rw [ByteArray.size_append, this]; omega
      · have hn9 : n % 9 < 9 := Nat.mod_lt _ (by omega)
        obtain ⟨r, hr⟩ : ∃ r, quoteOf t.data.toList = r := ⟨_, rfl⟩
        have HS := Lib.hid (show strOf t.data.toList = t from (str_eq rfl).symm)
        by_cases hodd : n % 2 = 1
        · have b2 : ((n : Int) % 2 == 1) = true := by
            have : (n : Int) % 2 = 1 := by omega
            rw [this]; rfl
          clear hodd
          go_wp2_with fail
          obtain ⟨B', hBB, hB', hBl'⟩ : ∃ B', B ++ ⟨#[35, 32, 34, 120, 10]⟩ = B' ∧ Blanks B'.data.toList ∧ B'.size ≤ 14 := by
            refine ⟨_, rfl, ?_, ?_⟩
            · rw [append_list]; exact blanks_append hB blanks_note
            · rw [ByteArray.size_append]
              have : (ByteArray.mk #[35, 32, 34, 120, 10]).size = 5 := rfl
              omega
          rw [hBB]
          have HBL := Lib.hid (str_length B')
          clear hBB hB hBs
          cases r with
          | none =>
            have HR := Lib.hid hr
            clear hr
            refine (quote_is (t := ⟨#[]⟩) (ok := false) hs (by rw [HR.out]; rfl) (by rw [HR.out]; rfl)).mono ?_; rintro e w1 ⟨rfl, hx1⟩
            have hlW := hw.ext hx1
            have HXW := Lib.hid hx1
            clear hx1
            by_cases k1 : isKind t.data.toList 1 = true
            · have k2 := kind_one k1
              have K1 := Lib.hid k1; have K2 := Lib.hid k2
              clear k1 k2
              go_wp2_with fail
              refine (isName_is hs hlW K1.out).mono ?_; rintro e w' ⟨rfl, rfl⟩
              go_wp2_with fail
              refine (tokens_is (E := 0) (A := 0) (ts := [(1, t.data.toList, B'.data.toList.length)]) (by have h32 : (ByteArray.mk #[32]).size = 1 := rfl; simp only [ByteArray.size_append]; unfold maxLen; omega) hlW (by rw [append_list, append_list, append_list]; exact back_kind K1.out hB' (by rw [str_length]; omega))).mono ?_; rintro e w8 ⟨v8, rfl, hx8, hr8⟩
              obtain ⟨g8, d8, rfl, _, _, _, hcell8⟩ := hr8.shape (by simp)
              have hxx := hx8.trans (Ext.alloc w8 (.cells #[.int .i64 0, .int .i64 0] 26))
              have hxz := Ext.alloc w8 (.cells #[.int .i64 0, .int .i64 0] 26)
              have t0 := hxz.cell (hcell8 0 _ rfl).1
              have t1 := hxz.cell (hcell8 0 _ rfl).2.1
              have t2 := hxz.cell (hcell8 0 _ rfl).2.2
              rw [HS.out] at t1
              rw [HBL.out] at t2
              simp only [Nat.reduceMul, Nat.reduceAdd] at t0 t1 t2
              have hl8 := hlW.ext hxx
              have HX8 := Lib.hid (HXW.out.trans hxx)
              clear hx8 hr8 hcell8 hxx hxz
              go_wp2_with fail
              refine (isCon_is hs hl8 K2.out).mono ?_; rintro e w' ⟨rfl, rfl⟩
              go_wp2_with fail
              refine (isName_is hs hl8 K1.out).mono ?_; rintro e w' ⟨rfl, rfl⟩
              go_wp2_with fail
              refine (isCon_is hs hl8 K2.out).mono ?_; rintro e w' ⟨rfl, rfl⟩
              go_wp2_with fail
              refine (lex_wakes _ hl8).mono ?_; rintro e w9 ⟨rfl, hx9⟩
              go_wp2
              go_ret
              exact ⟨rfl, HX8.out.trans hx9⟩
            · by_cases k2 : isKind t.data.toList 2 = true
              · have k1' : isKind t.data.toList 1 = false := Bool.eq_false_iff.2 k1
                have K1 := Lib.hid k1'; have K2 := Lib.hid k2
                clear k1 k2 k1'
                go_wp2_with fail
                refine (isName_is hs hlW K1.out).mono ?_; rintro e w' ⟨rfl, rfl⟩
                go_wp2_with fail
                refine (isCon_is hs hlW K2.out).mono ?_; rintro e w' ⟨rfl, rfl⟩
                go_wp2_with fail
                refine (tokens_is (E := 0) (A := 0) (ts := [(2, t.data.toList, B'.data.toList.length)]) (by have h32 : (ByteArray.mk #[32]).size = 1 := rfl; simp only [ByteArray.size_append]; unfold maxLen; omega) hlW (by rw [append_list, append_list, append_list]; exact back_kind K2.out hB' (by rw [str_length]; omega))).mono ?_; rintro e w8 ⟨v8, rfl, hx8, hr8⟩
                obtain ⟨g8, d8, rfl, _, _, _, hcell8⟩ := hr8.shape (by simp)
                have hxx := hx8.trans (Ext.alloc w8 (.cells #[.int .i64 0, .int .i64 0] 26))
                have hxz := Ext.alloc w8 (.cells #[.int .i64 0, .int .i64 0] 26)
                have t0 := hxz.cell (hcell8 0 _ rfl).1
                have t1 := hxz.cell (hcell8 0 _ rfl).2.1
                have t2 := hxz.cell (hcell8 0 _ rfl).2.2
                rw [HS.out] at t1
                rw [HBL.out] at t2
                simp only [Nat.reduceMul, Nat.reduceAdd] at t0 t1 t2
                have hl8 := hlW.ext hxx
                have HX8 := Lib.hid (HXW.out.trans hxx)
                clear hx8 hr8 hcell8 hxx hxz
                go_wp2_with fail
                refine (isCon_is hs hl8 K2.out).mono ?_; rintro e w' ⟨rfl, rfl⟩
                go_wp2_with fail
                refine (isName_is hs hl8 K1.out).mono ?_; rintro e w' ⟨rfl, rfl⟩
                go_wp2_with fail
                refine (isCon_is hs hl8 K2.out).mono ?_; rintro e w' ⟨rfl, rfl⟩
                go_wp2_with fail
                refine (lex_wakes _ hl8).mono ?_; rintro e w9 ⟨rfl, hx9⟩
                go_wp2
                go_ret
                exact ⟨rfl, HX8.out.trans hx9⟩
              · have k1' : isKind t.data.toList 1 = false := Bool.eq_false_iff.2 k1
                have k2' : isKind t.data.toList 2 = false := Bool.eq_false_iff.2 k2
                have K1 := Lib.hid k1'; have K2 := Lib.hid k2'
                clear k1 k2 k1' k2'
                go_wp2_with fail
                refine (isName_is hs hlW K1.out).mono ?_; rintro e w' ⟨rfl, rfl⟩
                go_wp2_with fail
                refine (isCon_is hs hlW K2.out).mono ?_; rintro e w' ⟨rfl, rfl⟩
                go_wp2_with fail
                refine (lex_wakes _ hlW).mono ?_; rintro e w9 ⟨rfl, hx9⟩
                go_wp2
                go_ret
                exact ⟨rfl, HXW.out.trans hx9⟩
          | some q =>
            have hql := quoteOf_len hr
            have hqs : (strOf q).size = q.length := rfl
            have HR := Lib.hid hr
            clear hr
            refine (quote_is (t := strOf q) (ok := true) hs (by rw [HR.out]; rfl) (by rw [HR.out]; rfl)).mono ?_; rintro e w1 ⟨rfl, hx1⟩
            have hl1 := hw.ext hx1
            go_wp2_with fail
            refine (tokens_is (E := 0) (A := 0) (ts := [(4, t.data.toList, B'.data.toList.length)]) (by simp only [ByteArray.size_append]; unfold maxLen; omega) hl1 (by rw [append_list, append_list]; exact back_quote HR.out hB' (by rw [str_length]; omega))).mono ?_; rintro e w2 ⟨v2, rfl, hx2, hr2⟩
            obtain ⟨g2, d2, rfl, _, _, _, hcell2⟩ := hr2.shape (by simp)
            have hxx := hx1.trans (hx2.trans (Ext.alloc w2 (.cells #[.int .i64 0, .int .i64 0] 26)))
            have hxz := Ext.alloc w2 (.cells #[.int .i64 0, .int .i64 0] 26)
            have u0 := hxz.cell (hcell2 0 _ rfl).1
            have u1 := hxz.cell (hcell2 0 _ rfl).2.1
            have u2 := hxz.cell (hcell2 0 _ rfl).2.2
            rw [HS.out] at u1
            rw [HBL.out] at u2
            simp only [Nat.reduceMul, Nat.reduceAdd] at u0 u1 u2
            have hlW := hw.ext hxx
            have HXW := Lib.hid hxx
            clear hx1 hx2 hr2 hcell2 hxx hxz hl1
            by_cases k1 : isKind t.data.toList 1 = true
            · have k2 := kind_one k1
              have K1 := Lib.hid k1; have K2 := Lib.hid k2
              clear k1 k2
              go_wp2_with fail
              refine (isName_is hs hlW K1.out).mono ?_; rintro e w' ⟨rfl, rfl⟩
              go_wp2_with fail
              refine (tokens_is (E := 0) (A := 0) (ts := [(1, t.data.toList, B'.data.toList.length)]) (by have h32 : (ByteArray.mk #[32]).size = 1 := rfl; simp only [ByteArray.size_append]; unfold maxLen; omega) hlW (by rw [append_list, append_list, append_list]; exact back_kind K1.out hB' (by rw [str_length]; omega))).mono ?_; rintro e w8 ⟨v8, rfl, hx8, hr8⟩
              obtain ⟨g8, d8, rfl, _, _, _, hcell8⟩ := hr8.shape (by simp)
              have hxx := hx8.trans (Ext.alloc w8 (.cells #[.int .i64 0, .int .i64 0] 26))
              have hxz := Ext.alloc w8 (.cells #[.int .i64 0, .int .i64 0] 26)
              have t0 := hxz.cell (hcell8 0 _ rfl).1
              have t1 := hxz.cell (hcell8 0 _ rfl).2.1
              have t2 := hxz.cell (hcell8 0 _ rfl).2.2
              rw [HS.out] at t1
              rw [HBL.out] at t2
              simp only [Nat.reduceMul, Nat.reduceAdd] at t0 t1 t2
              have hl8 := hlW.ext hxx
              have HX8 := Lib.hid (HXW.out.trans hxx)
              clear hx8 hr8 hcell8 hxx hxz
              go_wp2_with fail
              refine (isCon_is hs hl8 K2.out).mono ?_; rintro e w' ⟨rfl, rfl⟩
              go_wp2_with fail
              refine (isName_is hs hl8 K1.out).mono ?_; rintro e w' ⟨rfl, rfl⟩
              go_wp2_with fail
              refine (isCon_is hs hl8 K2.out).mono ?_; rintro e w' ⟨rfl, rfl⟩
              go_wp2_with fail
              refine (lex_wakes _ hl8).mono ?_; rintro e w9 ⟨rfl, hx9⟩
              go_wp2
              go_ret
              exact ⟨rfl, HX8.out.trans hx9⟩
            · by_cases k2 : isKind t.data.toList 2 = true
              · have k1' : isKind t.data.toList 1 = false := Bool.eq_false_iff.2 k1
                have K1 := Lib.hid k1'; have K2 := Lib.hid k2
                clear k1 k2 k1'
                go_wp2_with fail
                refine (isName_is hs hlW K1.out).mono ?_; rintro e w' ⟨rfl, rfl⟩
                go_wp2_with fail
                refine (isCon_is hs hlW K2.out).mono ?_; rintro e w' ⟨rfl, rfl⟩
                go_wp2_with fail
                refine (tokens_is (E := 0) (A := 0) (ts := [(2, t.data.toList, B'.data.toList.length)]) (by have h32 : (ByteArray.mk #[32]).size = 1 := rfl; simp only [ByteArray.size_append]; unfold maxLen; omega) hlW (by rw [append_list, append_list, append_list]; exact back_kind K2.out hB' (by rw [str_length]; omega))).mono ?_; rintro e w8 ⟨v8, rfl, hx8, hr8⟩
                obtain ⟨g8, d8, rfl, _, _, _, hcell8⟩ := hr8.shape (by simp)
                have hxx := hx8.trans (Ext.alloc w8 (.cells #[.int .i64 0, .int .i64 0] 26))
                have hxz := Ext.alloc w8 (.cells #[.int .i64 0, .int .i64 0] 26)
                have t0 := hxz.cell (hcell8 0 _ rfl).1
                have t1 := hxz.cell (hcell8 0 _ rfl).2.1
                have t2 := hxz.cell (hcell8 0 _ rfl).2.2
                rw [HS.out] at t1
                rw [HBL.out] at t2
                simp only [Nat.reduceMul, Nat.reduceAdd] at t0 t1 t2
                have hl8 := hlW.ext hxx
                have HX8 := Lib.hid (HXW.out.trans hxx)
                clear hx8 hr8 hcell8 hxx hxz
                go_wp2_with fail
                refine (isCon_is hs hl8 K2.out).mono ?_; rintro e w' ⟨rfl, rfl⟩
                go_wp2_with fail
                refine (isName_is hs hl8 K1.out).mono ?_; rintro e w' ⟨rfl, rfl⟩
                go_wp2_with fail
                refine (isCon_is hs hl8 K2.out).mono ?_; rintro e w' ⟨rfl, rfl⟩
                go_wp2_with fail
                refine (lex_wakes _ hl8).mono ?_; rintro e w9 ⟨rfl, hx9⟩
                go_wp2
                go_ret
                exact ⟨rfl, HX8.out.trans hx9⟩
              · have k1' : isKind t.data.toList 1 = false := Bool.eq_false_iff.2 k1
                have k2' : isKind t.data.toList 2 = false := Bool.eq_false_iff.2 k2
                have K1 := Lib.hid k1'; have K2 := Lib.hid k2'
                clear k1 k2 k1' k2'
                go_wp2_with fail
                refine (isName_is hs hlW K1.out).mono ?_; rintro e w' ⟨rfl, rfl⟩
                go_wp2_with fail
                refine (isCon_is hs hlW K2.out).mono ?_; rintro e w' ⟨rfl, rfl⟩
                go_wp2_with fail
                refine (lex_wakes _ hlW).mono ?_; rintro e w9 ⟨rfl, hx9⟩
                go_wp2
                go_ret
                exact ⟨rfl, HXW.out.trans hx9⟩
        · have b2 : ((n : Int) % 2 == 1) = false := by
            have : (n : Int) % 2 = 0 := by omega
            rw [this]; rfl
          clear hodd
          go_wp2_with fail
          obtain ⟨B', hBB, hB', hBl'⟩ : ∃ B', B = B' ∧ Blanks B'.data.toList ∧ B'.size ≤ 14 := ⟨_, rfl, hB, by omega⟩
          rw [hBB]
          have HBL := Lib.hid (str_length B')
          clear hBB hB hBs
          cases r with
          | none =>
            have HR := Lib.hid hr
            clear hr
            refine (quote_is (t := ⟨#[]⟩) (ok := false) hs (by rw [HR.out]; rfl) (by rw [HR.out]; rfl)).mono ?_; rintro e w1 ⟨rfl, hx1⟩
            have hlW := hw.ext hx1
            have HXW := Lib.hid hx1
            clear hx1
            by_cases k1 : isKind t.data.toList 1 = true
            · have k2 := kind_one k1
              have K1 := Lib.hid k1; have K2 := Lib.hid k2
              clear k1 k2
              go_wp2_with fail
              refine (isName_is hs hlW K1.out).mono ?_; rintro e w' ⟨rfl, rfl⟩
              go_wp2_with fail
              refine (tokens_is (E := 0) (A := 0) (ts := [(1, t.data.toList, B'.data.toList.length)]) (by have h32 : (ByteArray.mk #[32]).size = 1 := rfl; simp only [ByteArray.size_append]; unfold maxLen; omega) hlW (by rw [append_list, append_list, append_list]; exact back_kind K1.out hB' (by rw [str_length]; omega))).mono ?_; rintro e w8 ⟨v8, rfl, hx8, hr8⟩
              obtain ⟨g8, d8, rfl, _, _, _, hcell8⟩ := hr8.shape (by simp)
              have hxx := hx8.trans (Ext.alloc w8 (.cells #[.int .i64 0, .int .i64 0] 26))
              have hxz := Ext.alloc w8 (.cells #[.int .i64 0, .int .i64 0] 26)
              have t0 := hxz.cell (hcell8 0 _ rfl).1
              have t1 := hxz.cell (hcell8 0 _ rfl).2.1
              have t2 := hxz.cell (hcell8 0 _ rfl).2.2
              rw [HS.out] at t1
              rw [HBL.out] at t2
              simp only [Nat.reduceMul, Nat.reduceAdd] at t0 t1 t2
              have hl8 := hlW.ext hxx
              have HX8 := Lib.hid (HXW.out.trans hxx)
              clear hx8 hr8 hcell8 hxx hxz
              go_wp2_with fail
              refine (isCon_is hs hl8 K2.out).mono ?_; rintro e w' ⟨rfl, rfl⟩
              go_wp2_with fail
              refine (isName_is hs hl8 K1.out).mono ?_; rintro e w' ⟨rfl, rfl⟩
              go_wp2_with fail
              refine (isCon_is hs hl8 K2.out).mono ?_; rintro e w' ⟨rfl, rfl⟩
              go_wp2_with fail
              refine (lex_wakes _ hl8).mono ?_; rintro e w9 ⟨rfl, hx9⟩
              go_wp2
              go_ret
              exact ⟨rfl, HX8.out.trans hx9⟩
            · by_cases k2 : isKind t.data.toList 2 = true
              · have k1' : isKind t.data.toList 1 = false := Bool.eq_false_iff.2 k1
                have K1 := Lib.hid k1'; have K2 := Lib.hid k2
                clear k1 k2 k1'
                go_wp2_with fail
                refine (isName_is hs hlW K1.out).mono ?_; rintro e w' ⟨rfl, rfl⟩
                go_wp2_with fail
                refine (isCon_is hs hlW K2.out).mono ?_; rintro e w' ⟨rfl, rfl⟩
                go_wp2_with fail
                refine (tokens_is (E := 0) (A := 0) (ts := [(2, t.data.toList, B'.data.toList.length)]) (by have h32 : (ByteArray.mk #[32]).size = 1 := rfl; simp only [ByteArray.size_append]; unfold maxLen; omega) hlW (by rw [append_list, append_list, append_list]; exact back_kind K2.out hB' (by rw [str_length]; omega))).mono ?_; rintro e w8 ⟨v8, rfl, hx8, hr8⟩
                obtain ⟨g8, d8, rfl, _, _, _, hcell8⟩ := hr8.shape (by simp)
                have hxx := hx8.trans (Ext.alloc w8 (.cells #[.int .i64 0, .int .i64 0] 26))
                have hxz := Ext.alloc w8 (.cells #[.int .i64 0, .int .i64 0] 26)
                have t0 := hxz.cell (hcell8 0 _ rfl).1
                have t1 := hxz.cell (hcell8 0 _ rfl).2.1
                have t2 := hxz.cell (hcell8 0 _ rfl).2.2
                rw [HS.out] at t1
                rw [HBL.out] at t2
                simp only [Nat.reduceMul, Nat.reduceAdd] at t0 t1 t2
                have hl8 := hlW.ext hxx
                have HX8 := Lib.hid (HXW.out.trans hxx)
                clear hx8 hr8 hcell8 hxx hxz
                go_wp2_with fail
                refine (isCon_is hs hl8 K2.out).mono ?_; rintro e w' ⟨rfl, rfl⟩
                go_wp2_with fail
                refine (isName_is hs hl8 K1.out).mono ?_; rintro e w' ⟨rfl, rfl⟩
                go_wp2_with fail
                refine (isCon_is hs hl8 K2.out).mono ?_; rintro e w' ⟨rfl, rfl⟩
                go_wp2_with fail
                refine (lex_wakes _ hl8).mono ?_; rintro e w9 ⟨rfl, hx9⟩
                go_wp2
                go_ret
                exact ⟨rfl, HX8.out.trans hx9⟩
              · have k1' : isKind t.data.toList 1 = false := Bool.eq_false_iff.2 k1
                have k2' : isKind t.data.toList 2 = false := Bool.eq_false_iff.2 k2
                have K1 := Lib.hid k1'; have K2 := Lib.hid k2'
                clear k1 k2 k1' k2'
                go_wp2_with fail
                refine (isName_is hs hlW K1.out).mono ?_; rintro e w' ⟨rfl, rfl⟩
                go_wp2_with fail
                refine (isCon_is hs hlW K2.out).mono ?_; rintro e w' ⟨rfl, rfl⟩
                go_wp2_with fail
                refine (lex_wakes _ hlW).mono ?_; rintro e w9 ⟨rfl, hx9⟩
                go_wp2
                go_ret
                exact ⟨rfl, HXW.out.trans hx9⟩
          | some q =>
            have hql := quoteOf_len hr
            have hqs : (strOf q).size = q.length := rfl
            have HR := Lib.hid hr
            clear hr
            refine (quote_is (t := strOf q) (ok := true) hs (by rw [HR.out]; rfl) (by rw [HR.out]; rfl)).mono ?_; rintro e w1 ⟨rfl, hx1⟩
            have hl1 := hw.ext hx1
            go_wp2_with fail
            refine (tokens_is (E := 0) (A := 0) (ts := [(4, t.data.toList, B'.data.toList.length)]) (by simp only [ByteArray.size_append]; unfold maxLen; omega) hl1 (by rw [append_list, append_list]; exact back_quote HR.out hB' (by rw [str_length]; omega))).mono ?_; rintro e w2 ⟨v2, rfl, hx2, hr2⟩
            obtain ⟨g2, d2, rfl, _, _, _, hcell2⟩ := hr2.shape (by simp)
            have hxx := hx1.trans (hx2.trans (Ext.alloc w2 (.cells #[.int .i64 0, .int .i64 0] 26)))
            have hxz := Ext.alloc w2 (.cells #[.int .i64 0, .int .i64 0] 26)
            have u0 := hxz.cell (hcell2 0 _ rfl).1
            have u1 := hxz.cell (hcell2 0 _ rfl).2.1
            have u2 := hxz.cell (hcell2 0 _ rfl).2.2
            rw [HS.out] at u1
            rw [HBL.out] at u2
            simp only [Nat.reduceMul, Nat.reduceAdd] at u0 u1 u2
            have hlW := hw.ext hxx
            have HXW := Lib.hid hxx
            clear hx1 hx2 hr2 hcell2 hxx hxz hl1
            by_cases k1 : isKind t.data.toList 1 = true
            · have k2 := kind_one k1
              have K1 := Lib.hid k1; have K2 := Lib.hid k2
              clear k1 k2
              go_wp2_with fail
              refine (isName_is hs hlW K1.out).mono ?_; rintro e w' ⟨rfl, rfl⟩
              go_wp2_with fail
              refine (tokens_is (E := 0) (A := 0) (ts := [(1, t.data.toList, B'.data.toList.length)]) (by have h32 : (ByteArray.mk #[32]).size = 1 := rfl; simp only [ByteArray.size_append]; unfold maxLen; omega) hlW (by rw [append_list, append_list, append_list]; exact back_kind K1.out hB' (by rw [str_length]; omega))).mono ?_; rintro e w8 ⟨v8, rfl, hx8, hr8⟩
              obtain ⟨g8, d8, rfl, _, _, _, hcell8⟩ := hr8.shape (by simp)
              have hxx := hx8.trans (Ext.alloc w8 (.cells #[.int .i64 0, .int .i64 0] 26))
              have hxz := Ext.alloc w8 (.cells #[.int .i64 0, .int .i64 0] 26)
              have t0 := hxz.cell (hcell8 0 _ rfl).1
              have t1 := hxz.cell (hcell8 0 _ rfl).2.1
              have t2 := hxz.cell (hcell8 0 _ rfl).2.2
              rw [HS.out] at t1
              rw [HBL.out] at t2
              simp only [Nat.reduceMul, Nat.reduceAdd] at t0 t1 t2
              have hl8 := hlW.ext hxx
              have HX8 := Lib.hid (HXW.out.trans hxx)
              clear hx8 hr8 hcell8 hxx hxz
              go_wp2_with fail
              refine (isCon_is hs hl8 K2.out).mono ?_; rintro e w' ⟨rfl, rfl⟩
              go_wp2_with fail
              refine (isName_is hs hl8 K1.out).mono ?_; rintro e w' ⟨rfl, rfl⟩
              go_wp2_with fail
              refine (isCon_is hs hl8 K2.out).mono ?_; rintro e w' ⟨rfl, rfl⟩
              go_wp2_with fail
              refine (lex_wakes _ hl8).mono ?_; rintro e w9 ⟨rfl, hx9⟩
              go_wp2
              go_ret
              exact ⟨rfl, HX8.out.trans hx9⟩
            · by_cases k2 : isKind t.data.toList 2 = true
              · have k1' : isKind t.data.toList 1 = false := Bool.eq_false_iff.2 k1
                have K1 := Lib.hid k1'; have K2 := Lib.hid k2
                clear k1 k2 k1'
                go_wp2_with fail
                refine (isName_is hs hlW K1.out).mono ?_; rintro e w' ⟨rfl, rfl⟩
                go_wp2_with fail
                refine (isCon_is hs hlW K2.out).mono ?_; rintro e w' ⟨rfl, rfl⟩
                go_wp2_with fail
                refine (tokens_is (E := 0) (A := 0) (ts := [(2, t.data.toList, B'.data.toList.length)]) (by have h32 : (ByteArray.mk #[32]).size = 1 := rfl; simp only [ByteArray.size_append]; unfold maxLen; omega) hlW (by rw [append_list, append_list, append_list]; exact back_kind K2.out hB' (by rw [str_length]; omega))).mono ?_; rintro e w8 ⟨v8, rfl, hx8, hr8⟩
                obtain ⟨g8, d8, rfl, _, _, _, hcell8⟩ := hr8.shape (by simp)
                have hxx := hx8.trans (Ext.alloc w8 (.cells #[.int .i64 0, .int .i64 0] 26))
                have hxz := Ext.alloc w8 (.cells #[.int .i64 0, .int .i64 0] 26)
                have t0 := hxz.cell (hcell8 0 _ rfl).1
                have t1 := hxz.cell (hcell8 0 _ rfl).2.1
                have t2 := hxz.cell (hcell8 0 _ rfl).2.2
                rw [HS.out] at t1
                rw [HBL.out] at t2
                simp only [Nat.reduceMul, Nat.reduceAdd] at t0 t1 t2
                have hl8 := hlW.ext hxx
                have HX8 := Lib.hid (HXW.out.trans hxx)
                clear hx8 hr8 hcell8 hxx hxz
                go_wp2_with fail
                refine (isCon_is hs hl8 K2.out).mono ?_; rintro e w' ⟨rfl, rfl⟩
                go_wp2_with fail
                refine (isName_is hs hl8 K1.out).mono ?_; rintro e w' ⟨rfl, rfl⟩
                go_wp2_with fail
                refine (isCon_is hs hl8 K2.out).mono ?_; rintro e w' ⟨rfl, rfl⟩
                go_wp2_with fail
                refine (lex_wakes _ hl8).mono ?_; rintro e w9 ⟨rfl, hx9⟩
                go_wp2
                go_ret
                exact ⟨rfl, HX8.out.trans hx9⟩
              · have k1' : isKind t.data.toList 1 = false := Bool.eq_false_iff.2 k1
                have k2' : isKind t.data.toList 2 = false := Bool.eq_false_iff.2 k2
                have K1 := Lib.hid k1'; have K2 := Lib.hid k2'
                clear k1 k2 k1' k2'
                go_wp2_with fail
                refine (isName_is hs hlW K1.out).mono ?_; rintro e w' ⟨rfl, rfl⟩
                go_wp2_with fail
                refine (isCon_is hs hlW K2.out).mono ?_; rintro e w' ⟨rfl, rfl⟩
                go_wp2_with fail
                refine (lex_wakes _ hlW).mono ?_; rintro e w9 ⟨rfl, hx9⟩
                go_wp2
                go_ret
                exact ⟨rfl, HXW.out.trans hx9⟩
theorem u8_nat' {n : Int} (h : (Lit.int .u8 n).wf = true) : ∃ m : Nat, n = m ∧ m ≤ 255 := by
  simp only [Lit.wf, IntKind.min, IntKind.max, IntKind.signed, IntKind.bits, Bool.and_eq_true, decide_eq_true_eq] at h
  refine ⟨n.toNat, ?_, ?_⟩
  all_goals (simp at h; omega)
theorem back_walk' (s : ByteArray) (n : Int) (w : World) (hs : s.size ≤ maxLen) (hn : (Lit.int .u8 n).wf = true) (hw : LexLie w) : Calls Tryd.prog 4 #[.string s, .int .u8 n] w (TrueExt w) := by
  obtain ⟨m, rfl, hm⟩ := u8_nat' hn
  exact back_walk s m w hs hm hw
end Go.Proofs.YtdkmakdlojlacaaDoor
