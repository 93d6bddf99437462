/- The walks of the document's small functions of the tokens. -/
import Derived.Test.YtdkmakdlojlacaaDoorRefP
import Derived.Test.YtdkmakdlojlacaaDoorLexX
namespace Go.Proofs.YtdkmakdlojlacaaDoor
open Go.RowKit Lex
set_option maxHeartbeats 1000000
def isSmall (c : UInt8) : Bool := (decide (97 ≤ c.toNat) && decide (c.toNat ≤ 122)) || decide (c.toNat = 95)
theorem small_great (c : UInt8) : isLetter c = (isSmall c || isGreat c) := by
  unfold isLetter isSmall
  cases isGreat c <;> simp
theorem small_is {c : UInt8} {b : Bool} (w : World) (h : isSmall c = b) : Calls Tryd.prog 21 #[.int .u8 (c.toNat : Int)] w fun e w' => e = .returned (.bool b) ∧ w = w' := by
  subst h
  go_enter Tryd.func21, Tryd.ntmps21
  go_wp2
  all_goals
    go_ret
    refine ⟨ret_bool ?_, rfl⟩
    rw [Bool.eq_iff_iff]; simp [isSmall]; try omega
theorem great_is {c : UInt8} {b : Bool} (w : World) (h : isGreat c = b) : Calls Tryd.prog 22 #[.int .u8 (c.toNat : Int)] w fun e w' => e = .returned (.bool b) ∧ w = w' := by
  subst h
  go_enter Tryd.func22, Tryd.ntmps22
  go_wp2
  all_goals
    go_ret
    refine ⟨ret_bool ?_, rfl⟩
    rw [Bool.eq_iff_iff]; simp [isGreat]; try omega
theorem digit_is {c : UInt8} {b : Bool} (w : World) (h : isDigit c = b) : Calls Tryd.prog 25 #[.int .u8 (c.toNat : Int)] w fun e w' => e = .returned (.bool b) ∧ w = w' := by
  subst h
  go_enter Tryd.func25, Tryd.ntmps25
  go_wp2
  all_goals
    go_ret
    refine ⟨ret_bool ?_, rfl⟩
    rw [Bool.eq_iff_iff]; simp [isDigit]; try omega
theorem within_is {c : UInt8} {b : Bool} (w : World) (h : inWord c = b) : Calls Tryd.prog 23 #[.int .u8 (c.toNat : Int)] w fun e w' => e = .returned (.bool b) ∧ w = w' := by
  subst h
  unfold inWord
  rw [small_great]
  cases hs : isSmall c
  · cases hg : isGreat c
    · obtain ⟨d, hd⟩ : ∃ d, isDigit c = d := ⟨_, rfl⟩
      rw [hd]
      have HS := Lib.hid hs; have HG := Lib.hid hg; have HD := Lib.hid hd
      clear hs hg hd
      go_enter Tryd.func23, Tryd.ntmps23
      go_wp2_with (first | (go_at_call 21; refine (small_is _ HS.out).mono ?_; rintro e w' ⟨rfl, rfl⟩) | (go_at_call 22; refine (great_is _ HG.out).mono ?_; rintro e w' ⟨rfl, rfl⟩) | (go_at_call 25; refine (digit_is _ HD.out).mono ?_; rintro e w' ⟨rfl, rfl⟩))
      go_ret
      exact ⟨by simp, rfl⟩
    · have HS := Lib.hid hs; have HG := Lib.hid hg
      clear hs hg
      go_enter Tryd.func23, Tryd.ntmps23
      go_wp2_with (first | (go_at_call 21; refine (small_is _ HS.out).mono ?_; rintro e w' ⟨rfl, rfl⟩) | (go_at_call 22; refine (great_is _ HG.out).mono ?_; rintro e w' ⟨rfl, rfl⟩))
      go_ret
      exact ⟨by simp, rfl⟩
  · have HS := Lib.hid hs
    clear hs
    go_enter Tryd.func23, Tryd.ntmps23
    go_wp2_with (first | (go_at_call 21; refine (small_is _ HS.out).mono ?_; rintro e w' ⟨rfl, rfl⟩))
    go_ret
    exact ⟨by simp, rfl⟩
set_option maxRecDepth 100000
def allLit : ByteArray := ⟨#[32, 108, 101, 116, 32, 114, 101, 99, 32, 105, 110, 32, 102, 117, 110, 32, 105, 102, 32, 116, 104, 101, 110, 32, 101, 108, 115, 101, 32, 109, 97, 116, 99, 104, 32, 119, 105, 116, 104, 32, 101, 110, 100, 32, 116, 114, 121, 32, 114, 97, 105, 115, 101, 32, 116, 121, 112, 101, 32, 111, 102, 32, 116, 114, 117, 101, 32, 102, 97, 108, 115, 101, 32, 114, 101, 102, 32, 101, 109, 105, 116, 32, 108, 111, 103, 32, 115, 101, 110, 100, 32, 114, 101, 99, 118, 32, 115, 105, 122, 101, 32, 98, 121, 116, 101, 32, 116, 101, 120, 116, 32, 115, 97, 109, 101, 32, 97, 114, 114, 97, 121, 32, 103, 101, 116, 32, 112, 117, 116, 32, 108, 101, 110, 32, 105, 110, 116, 32, 98, 111, 111, 108, 32, 117, 110, 105, 116, 32, 115, 116, 114, 105, 110, 103, 32, 108, 105, 115, 116, 32]⟩
theorem allLit_list : allLit.data.toList = allWords := by decide +kernel
theorem own_test (s : ByteArray) (k : Nat) : ((allLit.extract k (k + s.size + 2)).toList == ((⟨#[32]⟩ : ByteArray) ++ s ++ (⟨#[32]⟩ : ByteArray)).toList) = hits s.data.toList k := by
  rw [str_beq_lit, extract_list, allLit_list]
  unfold hits
  rw [List.take_drop, str_length]
  have : ((⟨#[32]⟩ : ByteArray) ++ s ++ (⟨#[32]⟩ : ByteArray)).toList = 32 :: (s.data.toList ++ [32]) := by
    rw [ByteArray.toList_eq]; simp
  rw [this, show k + (s.size + 2) = k + s.size + 2 from rfl]
theorem own_is {s : ByteArray} {b : Bool} (w : World) (h0 : 0 < s.size) (hs : s.size ≤ 2500) (hn : ∀ c ∈ s.data.toList, c ≠ 32) (h : words.contains s.data.toList = b) : Calls Tryd.prog 24 #[.string s] w fun e w' => e = .returned (.bool b) ∧ w = w' := by
  have HL := Lib.hid (str_length s)
  have HN := Lib.hid hn; have HB := Lib.hid h
  clear hn h
  go_enter Tryd.func24, Tryd.ntmps24
  go_wp2
  go_loop [4] (fun i => ∃ k : Nat, k ≤ 160 ∧ i = .int .i64 k ∧ ∀ j, j < k → hits s.data.toList j = false) (fun i => 160 - (intOf i).toNat)
  case atStart => exact ⟨0, by omega, rfl, fun j hj => by omega⟩
  case round =>
    obtain ⟨k, hk, rfl, hg⟩ := hrel
    have HG := Lib.hid hg
    clear hg
    by_cases hle : k + s.size + 2 ≤ 160
    · go_wp2_with fail
      · rename_i hcmp _
        have ht : hits s.data.toList k = true := (own_test s k).symm.trans hcmp
        go_ret
        refine ⟨ret_bool ?_, rfl⟩
        rw [← HB.out, own_hit HN.out (by intro e; have := HL.out; rw [e] at this; simp at this; omega) (by omega) ht]
      · rename_i hcmp
        have ht : hits s.data.toList k = false := (own_test s k).symm.trans hcmp
        refine ⟨⟨k + 1, by omega, by go_num, fun j hj => ?_⟩, by simp [intOf]; omega⟩
        by_cases hjk : j = k
        · rw [hjk]; exact ht
        · exact HG.out j (by omega)
    · go_wp2_with fail
      go_ret
      refine ⟨ret_bool ?_, rfl⟩
      rw [← HB.out, own_miss]
      intro i hi
      rw [HL.out] at hi
      exact HG.out i (by omega)
theorem parseRef_is {s : ByteArray} {b : Bool} (w : World) (hs : s.size ≤ 2500) (h : parseOK s.data.toList = b) : Calls Tryd.prog 26 #[.string s] w fun e w' => (∃ z : Int, e = .returned (.agg #[.int .i64 z, .bool b])) ∧ Ext w w' := by
  have hlen := Lib.hid (str_length s)
  by_cases h1 : 0 < s.size
  · by_cases h19 : s.size ≤ 19
    · have HB := Lib.hid h
      clear h
      go_enter Tryd.func26, Tryd.ntmps26
      go_wp2
      go_loop [3, 4] (fun v i => ∃ k : Nat, k ≤ s.size ∧ i = .int .i64 k ∧ allDigits (s.data.toList.take k) = true ∧ v = .int .u64 (dval (s.data.toList.take k) : Int)) (fun _ i => s.size - (intOf i).toNat)
      case atStart => exact ⟨0, Nat.zero_le _, rfl, rfl, rfl⟩
      case round =>
        obtain ⟨k, hk, rfl, had, rfl⟩ := hrel
        by_cases hlt : k < s.size
        · have hb := dval_lt18 _ had (by rw [List.length_take]; omega)
          have hsn := allDigits_snoc (s.data.toList.take k) s[k]
          have hdn := dval_snoc (s.data.toList.take k) s[k]
          rw [← take_snoc s k hlt] at hsn hdn
          rw [had] at hsn
          by_cases hd : 48 ≤ s[k].toNat ∧ s[k].toNat ≤ 57
          · obtain ⟨hd1, hd2⟩ := hd
            have HS := Lib.hid hsn
            have HD := Lib.hid hdn
            have HA := Lib.hid had
            clear hsn hdn had
            have hd3 : ¬ (s[k].toNat : Int) < 48 := by omega
            have hd4 : ¬ 57 < (s[k].toNat : Int) := by omega
            go_wp2
            go_round
            case rel => exact ⟨k + 1, by omega, by go_num, by rw [HS.out]; simp; omega, by rw [HD.out]; congr 1; omega⟩
            case measure => simp [intOf]; omega
          · have HN : allDigits (s.data.toList.take (k + 1)) = false := by
              rw [hsn, Bool.true_and, Bool.and_eq_false_iff, decide_eq_false_iff_not, decide_eq_false_iff_not]; omega
            have hp : parseOK s.data.toList = false := by simp [parseOK, all_take _ HN]
            obtain rfl : false = b := hp.symm.trans HB.out
            have HP := Lib.hid hp
            clear hsn hdn HN hp had
            go_wp2
            all_goals
              refine bodyPost_ret (v := .agg #[.int .i64 0, .bool false]) (by simp [results, Tryd.results26, go_sem]) rfl ⟨⟨_, rfl⟩, Ext.alloc _ _⟩
        · obtain rfl : k = s.size := by omega
          have ht : s.data.toList.take s.size = s.data.toList := List.take_of_length_le (by rw [hlen.out]; exact Nat.le_refl _)
          rw [ht] at had ⊢
          have HA := Lib.hid had
          clear had ht
          by_cases hf : dval s.data.toList ≤ 4611686018427387903
          · have hy := parse_yes (by rw [hlen.out]; exact h1) (by rw [hlen.out]; exact h19) HA.out hf
            obtain rfl : true = b := hy.2.trans HB.out
            clear hy
            go_wp2
            refine bodyPost_ret (v := .agg #[.int .i64 (dval s.data.toList : Int), .bool true]) (by simp [results, Tryd.results26, go_sem]) rfl ⟨⟨_, rfl⟩, Ext.alloc _ _⟩
          · obtain rfl : false = b := (parse_far hf).symm.trans HB.out
            go_wp2
            refine bodyPost_ret (v := .agg #[.int .i64 0, .bool false]) (by simp [results, Tryd.results26, go_sem]) rfl ⟨⟨_, rfl⟩, Ext.alloc _ _⟩
    · have hp : parseOK s.data.toList = false := by
        have : decide (s.data.toList.length ≤ 19) = false := by rw [hlen.out]; simp; omega
        simp only [parseOK, this, Bool.and_false, Bool.false_and]
      obtain rfl : false = b := hp.symm.trans h
      clear hp h
      go_enter Tryd.func26, Tryd.ntmps26
      go_wp2
      refine bodyPost_ret (v := .agg #[.int .i64 0, .bool false]) (by simp [results, Tryd.results26, go_sem]) rfl ⟨⟨_, rfl⟩, Ext.alloc _ _⟩
  · have hp : parseOK s.data.toList = false := by
      have : decide (1 ≤ s.data.toList.length) = false := by rw [hlen.out]; apply decide_eq_false; omega
      simp only [parseOK, this, Bool.false_and]
    obtain rfl : false = b := hp.symm.trans h
    clear hp h
    have h1 : s.size = 0 := by omega
    go_enter Tryd.func26, Tryd.ntmps26
    go_wp2
    refine bodyPost_ret (v := .agg #[.int .i64 0, .bool false]) (by simp [results, Tryd.results26, go_sem]) rfl ⟨⟨_, rfl⟩, Ext.alloc _ _⟩
theorem no_single {c : UInt8} {k : Nat} (h : ∀ j, j < k → refSingles.getD j 0 ≠ c) (hk : 16 ≤ k) : ¬ refSingles.contains c = true := by
  intro hc
  obtain ⟨j, hj, e⟩ := List.mem_iff_getElem.1 (List.contains_iff_mem.1 hc)
  have h16 : refSingles.length = 16 := rfl
  refine h j (by omega) ?_
  rw [List.getD_eq_getElem?_getD, List.getElem?_eq_getElem hj, e]; rfl
theorem single_at (k : Nat) (h : k < 16) : ((⟨#[40, 41, 91, 93, 44, 59, 124, 95, 33, 61, 43, 42, 47, 37, 94, 60]⟩ : ByteArray)[k]'h).toNat = (refSingles.getD k 0).toNat := by
  have : ∀ j : Fin 16, ((⟨#[40, 41, 91, 93, 44, 59, 124, 95, 33, 61, 43, 42, 47, 37, 94, 60]⟩ : ByteArray)[j.1]'j.2).toNat = (refSingles.getD j.1 0).toNat := by decide +kernel
  exact this ⟨k, h⟩
theorem yes_single {c : UInt8} {k : Nat} (h : c.toNat = (refSingles.getD k 0).toNat) (hk : k < 16) : refSingles.contains c = true := by
  have e : c = refSingles.getD k 0 := UInt8.toNat_inj.1 h
  have h16 : refSingles.length = 16 := rfl
  rw [e, List.contains_iff_mem, List.getD_eq_getElem?_getD, List.getElem?_eq_getElem (by omega)]
  exact List.getElem_mem _
theorem sign_is {s : ByteArray} {n : Nat} (w : World) (h0 : 0 < s.size) (hs : s.size ≤ 2500) (h : refSign s.data.toList = n) : Calls Tryd.prog 28 #[.string s] w fun e w' => e = .returned (.int .i64 n) ∧ Ext w w' := by
  have hlen := Lib.hid (str_length s)
  unfold refSign at h
  rw [str_head s h0] at h
  have HB := Lib.hid h
  clear h
  by_cases hs2 : 2 ≤ s.size
  · have h2 : s.data.toList.take 2 = (s.extract 0 2).data.toList := (extract_zero_list s 2).symm
    have b1 := str_beq_lit (s.extract 0 2) [58, 61]
    have b2 := str_beq_lit (s.extract 0 2) [58, 58]
    have b3 := str_beq_lit (s.extract 0 2) [45, 62]
    rw [← h2] at b1 b2 b3
    clear h2
    by_cases a1 : s.data.toList.take 2 = [58, 61]
    · rw [decide_eq_true a1] at b1
      have A1 := Lib.hid a1
      clear b2 b3 a1
      go_enter Tryd.func28, Tryd.ntmps28
      go_wp2_with fail
      go_ret
      refine ⟨ret_int ?_, Ext.refl _⟩
      rw [← HB.out, if_pos (.inl A1.out)]; rfl
    by_cases a2 : s.data.toList.take 2 = [58, 58]
    · rw [decide_eq_false a1] at b1
      rw [decide_eq_true a2] at b2
      have A2 := Lib.hid a2
      clear b3 a1 a2
      go_enter Tryd.func28, Tryd.ntmps28
      go_wp2_with fail
      go_ret
      refine ⟨ret_int ?_, Ext.refl _⟩
      rw [← HB.out, if_pos (.inr (.inl A2.out))]; rfl
    by_cases a3 : s.data.toList.take 2 = [45, 62]
    · rw [decide_eq_false a1] at b1
      rw [decide_eq_false a2] at b2
      rw [decide_eq_true a3] at b3
      have A3 := Lib.hid a3
      clear a1 a2 a3
      go_enter Tryd.func28, Tryd.ntmps28
      go_wp2_with fail
      go_ret
      refine ⟨ret_int ?_, Ext.refl _⟩
      rw [← HB.out, if_pos (.inr (.inr A3.out))]; rfl
    rw [decide_eq_false a1] at b1
    rw [decide_eq_false a2] at b2
    rw [decide_eq_false a3] at b3
    have hb := HB.out
    rw [if_neg (by rintro (h | h | h) <;> contradiction)] at hb
    have HN := Lib.hid hb
    clear hb HB a1 a2 a3
    go_enter Tryd.func28, Tryd.ntmps28
    go_wp2_with fail
    go_loopw [3] (fun i wr => ∃ k : Nat, k ≤ 16 ∧ i = .int .i64 k ∧ Ext w wr ∧ ∀ j, j < k → refSingles.getD j 0 ≠ s[0]) (fun i _ => 16 - (intOf i).toNat)
    case atStart => exact ⟨0, by omega, rfl, Ext.refl _, fun j hj => by omega⟩
    case round =>
      obtain ⟨k, hk, rfl, hx, hg⟩ := hrel
      have HG := Lib.hid hg
      clear hg
      by_cases hlt : k < 16
      · have i1 : decide ((k : Int) < 16) = true := by apply decide_eq_true; omega
        go_wp2_with fail
        have i2 : (k : Int) < 16 := by omega
        have hlk := single_at k hlt
        by_cases he : s[0].toNat = (refSingles.getD k 0).toNat
        · have hbe : (((⟨#[40, 41, 91, 93, 44, 59, 124, 95, 33, 61, 43, 42, 47, 37, 94, 60]⟩ : ByteArray)[k].toNat : Int) == (s[0].toNat : Int)) = true := by rw [hlk, ← he]; simp
          have HE := Lib.hid he; have HK := Lib.hid hlk
          clear he hlk
          go_big_quiet (fail)
          go_wp2_with fail
          go_ret
          refine ⟨ret_int ?_, hx.trans (Ext.drewN _ _)⟩
          have := HN.out
          rw [if_pos (yes_single HE.out hlt)] at this
          rw [← this]; rfl
        · have hbe : (((⟨#[40, 41, 91, 93, 44, 59, 124, 95, 33, 61, 43, 42, 47, 37, 94, 60]⟩ : ByteArray)[k].toNat : Int) == (s[0].toNat : Int)) = false := by rw [hlk]; exact beq_false_of_ne (by omega)
          have HE := Lib.hid he; have HK := Lib.hid hlk
          clear he hlk
          go_big_quiet (fail)
          go_wp2_with fail
          refine ⟨⟨k + 1, by omega, by go_num, hx.trans (Ext.drewN _ _), fun j hj => ?_⟩, by simp [intOf]; omega⟩
          by_cases hjk : j = k
          · subst hjk; intro e; exact HE.out (by rw [e])
          · exact HG.out j (by omega)
      · by_cases h45 : s[0].toNat = 45
        · have b45 : ((s[0].toNat : Int) == 45) = true := by simp; omega
          go_wp2_with fail
          go_ret
          refine ⟨ret_int ?_, hx⟩
          have := HN.out
          rw [if_pos h45] at this
          rw [← this]
          split <;> rfl
        · have b45 : ((s[0].toNat : Int) == 45) = false := by simp; omega
          go_wp2_with fail
          go_ret
          refine ⟨ret_int ?_, hx⟩
          have := HN.out
          rw [if_neg h45, if_neg (no_single HG.out (by omega))] at this
          rw [← this]; rfl
  · have hb := HB.out
    have h1 : (s.data.toList.take 2).length < 2 := by rw [List.length_take, hlen.out]; omega
    rw [if_neg (by rintro (h | h | h) <;> rw [h] at h1 <;> simp at h1)] at hb
    have HN := Lib.hid hb
    clear hb HB h1
    go_enter Tryd.func28, Tryd.ntmps28
    go_wp2_with fail
    go_loopw [3] (fun i wr => ∃ k : Nat, k ≤ 16 ∧ i = .int .i64 k ∧ Ext w wr ∧ ∀ j, j < k → refSingles.getD j 0 ≠ s[0]) (fun i _ => 16 - (intOf i).toNat)
    case atStart => exact ⟨0, by omega, rfl, Ext.refl _, fun j hj => by omega⟩
    case round =>
      obtain ⟨k, hk, rfl, hx, hg⟩ := hrel
      have HG := Lib.hid hg
      clear hg
      by_cases hlt : k < 16
      · have i1 : decide ((k : Int) < 16) = true := by apply decide_eq_true; omega
        go_wp2_with fail
        have i2 : (k : Int) < 16 := by omega
        have hlk := single_at k hlt
        by_cases he : s[0].toNat = (refSingles.getD k 0).toNat
        · have hbe : (((⟨#[40, 41, 91, 93, 44, 59, 124, 95, 33, 61, 43, 42, 47, 37, 94, 60]⟩ : ByteArray)[k].toNat : Int) == (s[0].toNat : Int)) = true := by rw [hlk, ← he]; simp
          have HE := Lib.hid he; have HK := Lib.hid hlk
          clear he hlk
          go_big_quiet (fail)
          go_wp2_with fail
          go_ret
          refine ⟨ret_int ?_, hx.trans (Ext.drewN _ _)⟩
          have := HN.out
          rw [if_pos (yes_single HE.out hlt)] at this
          rw [← this]; rfl
        · have hbe : (((⟨#[40, 41, 91, 93, 44, 59, 124, 95, 33, 61, 43, 42, 47, 37, 94, 60]⟩ : ByteArray)[k].toNat : Int) == (s[0].toNat : Int)) = false := by rw [hlk]; exact beq_false_of_ne (by omega)
          have HE := Lib.hid he; have HK := Lib.hid hlk
          clear he hlk
          go_big_quiet (fail)
          go_wp2_with fail
          refine ⟨⟨k + 1, by omega, by go_num, hx.trans (Ext.drewN _ _), fun j hj => ?_⟩, by simp [intOf]; omega⟩
          by_cases hjk : j = k
          · subst hjk; intro e; exact HE.out (by rw [e])
          · exact HG.out j (by omega)
      · by_cases h45 : s[0].toNat = 45
        · have b45 : ((s[0].toNat : Int) == 45) = true := by simp; omega
          go_wp2_with fail
          go_ret
          refine ⟨ret_int ?_, hx⟩
          have := HN.out
          rw [if_pos h45] at this
          rw [← this]
          split <;> rfl
        · have b45 : ((s[0].toNat : Int) == 45) = false := by simp; omega
          go_wp2_with fail
          go_ret
          refine ⟨ret_int ?_, hx⟩
          have := HN.out
          rw [if_neg h45, if_neg (no_single HG.out (by omega))] at this
          rw [← this]; rfl
end Go.Proofs.YtdkmakdlojlacaaDoor
