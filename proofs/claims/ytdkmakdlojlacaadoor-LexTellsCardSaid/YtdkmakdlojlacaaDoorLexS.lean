/- The walks of lex.signToken, token, skipped. -/
import Derived.Test.YtdkmakdlojlacaaDoorLexT
namespace Go.Proofs.YtdkmakdlojlacaaDoor
open Go.RowKit Lex
def signCells : Array Value := (signs.map fun l => Value.string (strOf l)).toArray
theorem run_index_signs (k : Nat) (hk : k < 19) (w : World) : (Instr.index 57 (.agg signCells) (.int .i64 k)).run Tryd.prog w = .ok (.string (strOf (signs.getD k []))) w :=
  run_index_arr Tryd.underlying57 Tryd.isAgg9 Tryd.sizeOf9 _ _ k hk _ (by simp [signCells, List.getD, show k < signs.length from hk]) w
set_option maxHeartbeats 1000000
theorem signTok_any (s : ByteArray) (w : World) (_hs : s.size ≤ maxLen) (hw : SignsLie w) : Calls Tryd.prog 38 #[.string s] w (TokAns (signTok s.data.toList) w) := by
  obtain ⟨tt, fr, hg⟩ := hw
  have hg1 : (w.alloc (.cells #[.int .i64 0, .string ⟨#[]⟩, .int .i64 0] 39)).heap[0]? = some (.cells signCells tt fr) := by
    rw [Below.heap_alloc w _ _ (Array.getElem?_eq_some_iff.1 hg).1]; exact hg
  obtain ⟨R, hR⟩ : ∃ R, signTok s.data.toList = R := ⟨_, rfl⟩
  rw [hR]
  have HR := Lib.hid hR
  clear hR hg
  go_enter Tryd.func38, Tryd.ntmps38
  go_wp2_with (refine wpList_load_row rfl 57 _ rfl 0 rfl tt _ fr _ hg1 Tryd.underlying57 rfl (by kernel_rfl) ?_)
  clear hg1
  go_loop [7] (fun i => ∃ k : Nat, k ≤ 19 ∧ i = .int .i64 k ∧ ((signs.drop k).find? fun x => x.isPrefixOf s.data.toList) = signs.find? fun x => x.isPrefixOf s.data.toList) (fun i => 19 - (intOf i).toNat)
  case atStart => exact ⟨0, by omega, rfl, rfl⟩
  case round =>
    obtain ⟨k, hk, rfl, hf⟩ := hrel
    by_cases hlt : k < 19
    · have hd : signs.drop k = signs.getD k [] :: signs.drop (k + 1) := by
        have := List.drop_eq_getElem_cons (l := signs) (i := k) (by simpa [signs] using hlt)
        rw [this]; congr 1
        simp [List.getD, signs, hlt]
      rw [hd, List.find?_cons] at hf
      have hidx := fun wx => run_index_signs k hlt wx
      have hxm : signs.getD k [] ∈ signs := by
        have e : signs.getD k [] = signs[k]'(by simpa [signs] using hlt) := by simp [List.getD, signs, hlt]
        rw [e]; exact List.getElem_mem _
      generalize hx : signs.getD k [] = x at *
      have hxl := (signs_some x hxm)
      cases hp : x.isPrefixOf s.data.toList
      · rw [hp] at hf
        have hp' : Lib.hasPrefix s.data.toList (strOf x).data.toList = false := hp
        have HF := Lib.hid hf
        have HP := Lib.hid hp'
        clear hf hp hp' hd hx hxl
        go_wp2_with (go_at_call 44; refine (Tryd.strings_HasPrefix _ _ _).mono ?_; rintro e w' ⟨rfl, rfl⟩; rw [HP.out])
        go_round
        case rel => exact ⟨k + 1, by omega, by go_num, HF.out⟩
        case measure => simp [intOf]; omega
      · rw [hp] at hf
        have hp' : Lib.hasPrefix s.data.toList (strOf x).data.toList = true := hp
        have hr : R = some (6, x, x.length) := by
          rw [← HR.out]; unfold signTok; rw [← hf]; rfl
        have HP := Lib.hid hp'
        have HF := Lib.hid hr
        clear hf hp hp' hd hx hr
        have hsz : (strOf x).size = x.length := rfl
        go_wp2_with (go_at_call 44; refine (Tryd.strings_HasPrefix _ _ _).mono ?_; rintro e w' ⟨rfl, rfl⟩; rw [HP.out])
        refine bodyPost_ret (v := tokAns (some (6, x, x.length))) (by simp [results, Tryd.results38, go_sem, tokAns, tokV]) rfl ⟨?_, Ext.alloc _ _⟩
        rw [HF.out]
    · have hd : signs.drop k = [] := List.drop_eq_nil_of_le (by simp [signs]; omega)
      rw [hd] at hf
      have hr : R = none := by rw [← HR.out]; unfold signTok; rw [← hf]; rfl
      have HF := Lib.hid hr
      clear hf hd hr
      go_wp2
      refine bodyPost_ret (v := tokAns none) (by simp [results, Tryd.results38, go_sem, tokAns, tokV, strOf]) rfl (tokAns_none HF.out (Ext.alloc _ _))
theorem tokAns_shape (r : Option (Nat × List UInt8 × Nat)) : ∃ (k : Nat) (t : List UInt8) (n : Nat), tokAns r = .tuple #[.agg #[.int .i64 k, .string (strOf t), .int .i64 0], .int .i64 n] := by
  cases r with
  | none => exact ⟨0, [], 0, rfl⟩
  | some x => obtain ⟨k, t, n⟩ := x; exact ⟨k, t, n, rfl⟩
theorem LexLie.ext {w w' : World} (h : LexLie w) (e : Ext w w') : LexLie w' := by
  obtain ⟨h1, t, fr, h2⟩ := h
  exact ⟨h1.ext e, t, fr, by rw [Below.block e _ (Array.getElem?_eq_some_iff.1 h2).1]; exact h2⟩
theorem token_any (s : ByteArray) (w : World) (hs : s.size ≤ maxLen) (h0 : 0 < s.size) (hw : LexLie w) : Calls Tryd.prog 20 #[.string s] w (TokAns (token s.data.toList) w) := by
  have hd : s.data.toList = s[0] :: s.data.toList.drop 1 := str_drop s 0 h0
  have ht : token s.data.toList = if isLetter s[0] then wordTok s.data.toList else if isDigit s[0] then intTok s.data.toList else if s[0].toNat = 34 then (textGo (s.data.toList.drop 1) [] 1).map fun x => (4, x.1, x.2) else signTok s.data.toList := by
    conv => lhs; rw [hd]
    unfold token
    dsimp only
    rw [← hd]
  have hw1 := hw.ext (Ext.alloc w (.cells #[.int .i64 0, .string ⟨#[]⟩, .int .i64 0] 39))
  have HW := Lib.hid hw1
  clear hw1 hd
  cases hl : isLetter s[0]
  · cases hdg : isDigit s[0]
    · by_cases h34 : s[0].toNat = 34
      · rw [hl, hdg, if_neg (by decide), if_neg (by decide), if_pos h34] at ht
        have b34 : ((s[0].toNat : Int) == 34) = true := by simp; omega
        have HC := Lib.hid (fun wx (_ : True) => textTok_any s wx hs h0)
        have HL := Lib.hid hl; have HD := Lib.hid hdg
        clear hl hdg h34
        generalize hr : (textGo (s.data.toList.drop 1) [] 1).map (fun x => (4, x.1, x.2)) = r at *
        obtain ⟨k, t, n, hsh⟩ := tokAns_shape r
        have HS := Lib.hid hsh; have HT := Lib.hid ht
        clear hsh ht hr
        go_enter Tryd.func20, Tryd.ntmps20
        go_wp2_with (first | (go_at_call 33; refine (letter_any _ _).mono ?_; rintro e w' ⟨rfl, rfl⟩; rw [HL.out]) | (go_at_call 35; refine (digit_any _ _).mono ?_; rintro e w' ⟨rfl, rfl⟩; rw [HD.out]) | (go_at_call 37; refine (HC.out _ trivial).mono ?_; rintro e w1 ⟨rfl, hx1⟩; rw [HS.out]; obtain ⟨e0, e1, e2, f0, f1, f2, z1⟩ := own3 hx1))
        refine bodyPost_ret (v := .tuple #[.agg #[.int .i64 k, .string (strOf t), .int .i64 0], .int .i64 n]) (by simp [results, Tryd.results20, go_sem, e0, e1, e2]) rfl ⟨?_, ?_⟩
        · rw [HT.out, HS.out]
        · exact ext_cells (Below.trans (Ext.alloc w _) (Below.mono hx1 (by simp))) _ _ _
      · rw [hl, hdg, if_neg (by decide), if_neg (by decide), if_neg h34] at ht
        have b34 : ((s[0].toNat : Int) == 34) = false := by simp; omega
        have HC := Lib.hid (fun wx (hx : SignsLie wx) => signTok_any s wx hs hx)
        have HL := Lib.hid hl; have HD := Lib.hid hdg
        clear hl hdg h34
        generalize hr : signTok s.data.toList = r at *
        obtain ⟨k, t, n, hsh⟩ := tokAns_shape r
        have HS := Lib.hid hsh; have HT := Lib.hid ht
        clear hsh ht hr
        go_enter Tryd.func20, Tryd.ntmps20
        go_wp2_with (first | (go_at_call 33; refine (letter_any _ _).mono ?_; rintro e w' ⟨rfl, rfl⟩; rw [HL.out]) | (go_at_call 35; refine (digit_any _ _).mono ?_; rintro e w' ⟨rfl, rfl⟩; rw [HD.out]) | (go_at_call 38; refine (HC.out _ HW.out.2).mono ?_; rintro e w1 ⟨rfl, hx1⟩; rw [HS.out]; obtain ⟨e0, e1, e2, f0, f1, f2, z1⟩ := own3 hx1))
        refine bodyPost_ret (v := .tuple #[.agg #[.int .i64 k, .string (strOf t), .int .i64 0], .int .i64 n]) (by simp [results, Tryd.results20, go_sem, e0, e1, e2]) rfl ⟨?_, ?_⟩
        · rw [HT.out, HS.out]
        · exact ext_cells (Below.trans (Ext.alloc w _) (Below.mono hx1 (by simp))) _ _ _
    · rw [hl, hdg, if_neg (by decide), if_pos rfl] at ht
      have HC := Lib.hid (fun wx (_ : True) => intTok_any s wx hs)
      have HL := Lib.hid hl; have HD := Lib.hid hdg
      clear hl hdg
      generalize hr : intTok s.data.toList = r at *
      obtain ⟨k, t, n, hsh⟩ := tokAns_shape r
      have HS := Lib.hid hsh; have HT := Lib.hid ht
      clear hsh ht hr
      go_enter Tryd.func20, Tryd.ntmps20
      go_wp2_with (first | (go_at_call 33; refine (letter_any _ _).mono ?_; rintro e w' ⟨rfl, rfl⟩; rw [HL.out]) | (go_at_call 35; refine (digit_any _ _).mono ?_; rintro e w' ⟨rfl, rfl⟩; rw [HD.out]) | (go_at_call 36; refine (HC.out _ trivial).mono ?_; rintro e w1 ⟨rfl, hx1⟩; rw [HS.out]; obtain ⟨e0, e1, e2, f0, f1, f2, z1⟩ := own3 hx1))
      refine bodyPost_ret (v := .tuple #[.agg #[.int .i64 k, .string (strOf t), .int .i64 0], .int .i64 n]) (by simp [results, Tryd.results20, go_sem, e0, e1, e2]) rfl ⟨?_, ?_⟩
      · rw [HT.out, HS.out]
      · exact ext_cells (Below.trans (Ext.alloc w _) (Below.mono hx1 (by simp))) _ _ _
  · rw [hl, if_pos rfl] at ht
    have HC := Lib.hid (fun wx (hx : WordsLie wx) => wordTok_any s wx hs h0 hl hx)
    have HL := Lib.hid hl
    clear hl
    generalize hr : wordTok s.data.toList = r at *
    obtain ⟨k, t, n, hsh⟩ := tokAns_shape r
    have HS := Lib.hid hsh; have HT := Lib.hid ht
    clear hsh ht hr
    go_enter Tryd.func20, Tryd.ntmps20
    go_wp2_with (first | (go_at_call 33; refine (letter_any _ _).mono ?_; rintro e w' ⟨rfl, rfl⟩; rw [HL.out]) | (go_at_call 34; refine (HC.out _ HW.out.1).mono ?_; rintro e w1 ⟨rfl, hx1⟩; rw [HS.out]; obtain ⟨e0, e1, e2, f0, f1, f2, z1⟩ := own3 hx1))
    refine bodyPost_ret (v := .tuple #[.agg #[.int .i64 k, .string (strOf t), .int .i64 0], .int .i64 n]) (by simp [results, Tryd.results20, go_sem, e0, e1, e2]) rfl ⟨?_, ?_⟩
    · rw [HT.out, HS.out]
    · exact ext_cells (Below.trans (Ext.alloc w _) (Below.mono hx1 (by simp))) _ _ _
end Go.Proofs.YtdkmakdlojlacaaDoor
