/- LexQuotes, LexWords: the walks. -/
import Derived.Test.YtdkmakdlojlacaaDoorLexX
namespace Go.Proofs.YtdkmakdlojlacaaDoor
open Go.RowKit Lex
set_option maxHeartbeats 2000000
set_option maxRecDepth 100000
/-- how long a text's token is -/
def qlen (l : List UInt8) : Nat := (l.flatMap esc).length
def quotable (l : List UInt8) : Bool := l.all mayQuote
theorem qlen_snoc (l : List UInt8) (c : UInt8) : qlen (l ++ [c]) = qlen l + if c.toNat = 10 ∨ c.toNat = 34 ∨ c.toNat = 92 then 2 else 1 := by
  unfold qlen
  rw [List.flatMap_append, List.length_append]
  have : ([c].flatMap esc).length = if c.toNat = 10 ∨ c.toNat = 34 ∨ c.toNat = 92 then 2 else 1 := by
    simp only [List.flatMap_cons, List.flatMap_nil, List.append_nil]
    unfold esc
    by_cases h1 : c.toNat = 10
    · simp [h1]
    · by_cases h2 : c.toNat = 34 ∨ c.toNat = 92
      · simp [h1, h2]
      · simp [h1, h2]
  rw [this]
theorem quotable_snoc (l : List UInt8) (c : UInt8) : quotable (l ++ [c]) = (quotable l && mayQuote c) := by simp [quotable]
theorem quotes_walk (s : ByteArray) (w : World) (hs : s.size ≤ maxLen) (hw : LexLie w) : Calls Tryd.prog 7 #[.string s] w (TrueExt w) := by
  have hs' := hs
  unfold maxLen at hs'
  have HL := Lib.hid (str_length s)
  by_cases hbig : 200 < s.size
  · go_enter Tryd.func7, Tryd.ntmps7
    go_wp2_with fail
    refine (lex_wakes w hw).mono ?_; rintro e w1 ⟨rfl, hx⟩
    go_wp2
    go_ret
    exact ⟨rfl, hx⟩
  · obtain ⟨q, hq⟩ : ∃ q, (quoteOf s.data.toList).getD [] = q := ⟨_, rfl⟩
    obtain ⟨ok, hok⟩ : ∃ ok, (quoteOf s.data.toList).isSome = ok := ⟨_, rfl⟩
    have hok2 : ok = (decide (s.size ≤ 60) && quotable s.data.toList) := by
      rw [← hok]; unfold quoteOf quotable
      rw [HL.out]
      by_cases h : 60 < s.size
      · have : ¬ s.size ≤ 60 := by omega
        simp [h, this]
      · have : s.size ≤ 60 := by omega
        rw [if_neg h]
        split
        · rename_i h2; simp [this, h2]
        · rename_i h2; simp [this, h2]
    have hq2 : ok = true → q = 34 :: (s.data.toList.flatMap esc ++ [34]) := by
      intro h
      rw [← hq]; rw [← hok] at h
      unfold quoteOf at h ⊢
      split at h
      · cases h
      · rename_i h1
        rw [if_neg h1]
        split at h
        · rename_i h2; rw [if_pos h2]; rfl
        · cases h
    have hq3 : ok = false → q = [] := by
      intro h
      rw [← hq]; rw [← hok] at h
      cases hqq : quoteOf s.data.toList with
      | none => rfl
      | some x => rw [hqq] at h; cases h
    have HQ := Lib.hid hq; have HO := Lib.hid hok; have HO2 := Lib.hid hok2; have HQ2 := Lib.hid hq2; have HQ3 := Lib.hid hq3
    clear hq hok hok2 hq2 hq3
    go_enter Tryd.func7, Tryd.ntmps7
    go_wp2_with fail
    refine (quote_is hs rfl rfl).mono ?_; rintro e w1 ⟨rfl, hx1⟩
    rw [HQ.out, HO.out]
    go_wp2_with fail
    generalize hQs : strOf q = Q at *
    have HQs := Lib.hid hQs
    clear hQs
    go_loop [5, 6, 7] (fun n m i => ∃ (k N : Nat), k ≤ s.size ∧ i = .int .i64 k ∧ N + k = 2 + s.size + qlen (s.data.toList.take k) ∧ N ≤ 2 + s.size + k ∧ n = .int .i64 N ∧ m = .bool (decide (s.size ≤ 60) && quotable (s.data.toList.take k))) (fun _ _ i => s.size - (intOf i).toNat)
    case atStart => exact ⟨0, 2 + s.size, by omega, rfl, by simp [qlen], by omega, by go_num, by simp [quotable]; omega⟩
    case round =>
      obtain ⟨k, N, hk, rfl, hN, hNb, rfl, rfl⟩ := hrel
      by_cases hlt : k < s.size
      · have hql := qlen_snoc (s.data.toList.take k) s[k]
        have hqb := quotable_snoc (s.data.toList.take k) s[k]
        rw [← take_snoc' s k hlt] at hql hqb
        have HN := Lib.hid hN; have HQL := Lib.hid hql; have HQB := Lib.hid hqb
        generalize hm : (decide (s.size ≤ 60) && quotable (s.data.toList.take k)) = m at *
        have HM := Lib.hid hm
        clear hN hql hqb hm
        by_cases hc : s[k].toNat = 10 ∨ s[k].toNat = 34 ∨ s[k].toNat = 92
        · have hmq : mayQuote s[k] = true := by simp only [mayQuote, Bool.or_eq_true, Bool.and_eq_true, decide_eq_true_eq]; omega
          have HMQ := Lib.hid hmq
          have HC := Lib.hid hc
          clear hmq
          rcases hc with hc | hc | hc
          · have b1 : ((s[k].toNat : Int) == 10) = true := by simp; omega
            clear hc
            go_wp2
            go_round
            case rel => exact ⟨k + 1, N + 1, by omega, by go_num, by have := HN.out; have := HQL.out; rw [if_pos HC.out] at this; omega, by omega, by go_num, by rw [HQB.out, HMQ.out, Bool.and_true, HM.out]⟩
            case measure => simp [intOf]; omega
          · have b1 : ((s[k].toNat : Int) == 10) = false := by simp; omega
            have b2 : ((s[k].toNat : Int) == 34) = true := by simp; omega
            clear hc
            go_wp2
            go_round
            case rel => exact ⟨k + 1, N + 1, by omega, by go_num, by have := HN.out; have := HQL.out; rw [if_pos HC.out] at this; omega, by omega, by go_num, by rw [HQB.out, HMQ.out, Bool.and_true, HM.out]⟩
            case measure => simp [intOf]; omega
          · have b1 : ((s[k].toNat : Int) == 10) = false := by simp; omega
            have b2 : ((s[k].toNat : Int) == 34) = false := by simp; omega
            have b3 : ((s[k].toNat : Int) == 92) = true := by simp; omega
            clear hc
            go_wp2
            go_round
            case rel => exact ⟨k + 1, N + 1, by omega, by go_num, by have := HN.out; have := HQL.out; rw [if_pos HC.out] at this; omega, by omega, by go_num, by rw [HQB.out, HMQ.out, Bool.and_true, HM.out]⟩
            case measure => simp [intOf]; omega
        · have b1 : ((s[k].toNat : Int) == 10) = false := by simp; omega
          have b2 : ((s[k].toNat : Int) == 34) = false := by simp; omega
          have b3 : ((s[k].toNat : Int) == 92) = false := by simp; omega
          by_cases hmay : 32 ≤ s[k].toNat ∧ s[k].toNat ≤ 126
          · have hmq : mayQuote s[k] = true := by simp only [mayQuote, Bool.or_eq_true, Bool.and_eq_true, decide_eq_true_eq]; omega
            have HMQ := Lib.hid hmq
            have i1 : ¬ ((s[k].toNat : Int) < 32) := by omega
            have i2 : ¬ (126 < (s[k].toNat : Int)) := by omega
            have HC := Lib.hid hc
            clear hmq hc hmay
            go_wp2
            go_round
            case rel => exact ⟨k + 1, N, by omega, by go_num, by have := HN.out; have := HQL.out; rw [if_neg HC.out] at this; omega, by omega, rfl, by rw [HQB.out, HMQ.out, Bool.and_true, HM.out]⟩
            case measure => simp [intOf]; omega
          · have hmq : mayQuote s[k] = false := by simp only [mayQuote, Bool.or_eq_false_iff, Bool.and_eq_false_iff, decide_eq_false_iff_not]; omega
            have HMQ := Lib.hid hmq
            have HC := Lib.hid hc
            by_cases h32 : 32 ≤ s[k].toNat
            · have i1 : ¬ ((s[k].toNat : Int) < 32) := by omega
              have i2 : 126 < (s[k].toNat : Int) := by omega
              clear hmq hc hmay h32
              go_wp2
              go_round
              case rel => exact ⟨k + 1, N, by omega, by go_num, by have := HN.out; have := HQL.out; rw [if_neg HC.out] at this; omega, by omega, rfl, by rw [HQB.out, HMQ.out, Bool.and_false, Bool.and_false]⟩
              case measure => simp [intOf]; omega
            · have i1 : (s[k].toNat : Int) < 32 := by omega
              clear hmq hc hmay h32
              go_wp2
              go_round
              case rel => exact ⟨k + 1, N, by omega, by go_num, by have := HN.out; have := HQL.out; rw [if_neg HC.out] at this; omega, by omega, rfl, by rw [HQB.out, HMQ.out, Bool.and_false, Bool.and_false]⟩
              case measure => simp [intOf]; omega
      · obtain rfl : k = s.size := by omega
        have ht : s.data.toList.take s.size = s.data.toList := List.take_of_length_le (by rw [HL.out]; exact Nat.le_refl _)
        rw [ht] at hN ⊢
        rw [← HO2.out]
        clear ht
        cases ok
        · have hqn : Q = ⟨#[]⟩ := by rw [← HQs.out, HQ3.out rfl]; rfl
          subst hqn
          clear hN
          go_wp2_with (go_at_call 9; refine (lex_wakes _ (hw.ext hx1)).mono ?_; rintro e w2 ⟨rfl, hx2⟩)
          go_ret
          exact ⟨rfl, hx1.trans hx2⟩
        · have hqq := HQ2.out rfl
          have hQl : Q.data.toList = 34 :: (s.data.toList.flatMap esc ++ [34]) := by rw [← HQs.out, hqq]; rfl
          have hsz : Q.size = N := by
            rw [← str_length, hQl]; simp only [List.length_cons, List.length_append, List.length_nil]
            unfold qlen at hN; omega
          have hn0 : 0 < Q.size := by rw [hsz]; omega
          have q0 : Q[0].toNat = 34 := by
            have : Q[0] = Q.data.toList[0]'(by rw [str_length]; exact hn0) := rfl
            rw [this]; simp [hQl]
          have hQ1 : Q.size - 1 < Q.size := Nat.sub_one_lt_of_lt hn0
          have q1 : (Q[Q.size - 1]'hQ1).toNat = 34 := by
            have : Q[Q.size - 1]'hQ1 = Q.data.toList[Q.size - 1]'(by rw [str_length]; omega) := rfl
            rw [this]
            have e : Q.size - 1 = (34 :: s.data.toList.flatMap esc).length := by
              rw [← str_length, hQl]; simp
            simp only [hQl, e]
            rw [List.getElem_cons, dif_neg (by simp)]
            simp
          clear hqq hQl hN
          subst hsz
          have i0 : ((Q[0].toNat : Int) == 34) = true := by simp; omega
          have i1 : (((Q[Q.size - 1]'hQ1).toNat : Int) == 34) = true := by simp; omega
          clear q0 q1
          go_wp2_with (go_at_call 9; refine (lex_wakes _ (hw.ext hx1)).mono ?_; rintro e w2 ⟨rfl, hx2⟩)
          go_ways
          go_ret
          exact ⟨rfl, hx1.trans hx2⟩
end Go.Proofs.YtdkmakdlojlacaaDoor
