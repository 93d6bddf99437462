/- The walk of the document's Tokens. -/
import Derived.Test.YtdkmakdlojlacaaDoorRefU
import Derived.Deep.CutBlock
namespace Go.Proofs.YtdkmakdlojlacaaDoor
open Go.RowKit Lex
set_option maxHeartbeats 4000000
set_option maxRecDepth 100000
def RefAns (E A : Nat) (ts : List Tok) (w : World) (e : Ending) (w' : World) : Prop := ∃ v, e = .returned (.agg #[v, .int .i64 E, .int .i64 A]) ∧ Ext w w' ∧ TokRow w' w.heap.size v ts
theorem below3 {B : Nat} {w wr : World} (h : Below B w wr) {b : Nat} (hb : B ≤ b) (u0 u1 u2 : Value) : Below B w (((wr.setCell ⟨b, 0, none⟩ u0).setCell ⟨b, 1, none⟩ u1).setCell ⟨b, 2, none⟩ u2) :=
  ((h.setCell (p := ⟨b, 0, none⟩) hb u0).setCell (p := ⟨b, 1, none⟩) hb u1).setCell (p := ⟨b, 2, none⟩) hb u2
theorem refRel_start {l : List UInt8} {w : World} : RefRel l w 0 [] (.slice none 0 0) ((w.alloc (.cells zeroGot 30)).alloc (.cells zeroGot 30)) := by
  refine ⟨TokRow.nil _ _, ?_, ?_, ?_, Nat.le_refl _, lexed_start l⟩
  · rw [Below.heap_alloc _ _ _ (by simp)]; exact heap_alloc_new _ _
  · have := heap_alloc_new (w.alloc (.cells zeroGot 30)) (.cells zeroGot 30)
    have e : gotV (.slice none 0 0) = zeroGot := rfl
    rw [e]
    simpa using this
  · exact Below.alloc (Below.alloc (Below.refl _ _) (Nat.le_refl _) _) (by simp) _
theorem run_field_got (z : Int) (b : Bool) (w : World) : (Instr.field 46 (.agg #[.int .i64 z, .bool b]) 1).run Tryd.prog w = .ok (.bool b) w := by kernel_rfl
theorem tokensRef_is {s : ByteArray} {w : World} {E A : Nat} {ts : List Tok} (hs : s.size ≤ 2500) (h : tokensRes s.data.toList = (E, A, ts)) : Calls Tryd.prog 11 #[.string s] w (RefAns E A ts w) := by
  have HL := Lib.hid (str_length s)
  by_cases hbig : 2000 < s.size
  · have hr : tokensRes s.data.toList = (10, 0, []) := by unfold tokensRes; rw [HL.out, if_pos hbig]
    rw [h] at hr
    simp only [Prod.mk.injEq] at hr
    obtain ⟨rfl, rfl, rfl⟩ := hr
    clear h
    go_enter Tryd.func11, Tryd.ntmps11
    go_wp2
    refine bodyPost_ret (v := .agg #[.slice none 0 0, .int .i64 10, .int .i64 0]) (by simp [results, Tryd.results11, go_sem]) rfl ⟨.slice none 0 0, rfl, Ext.alloc _ _, TokRow.nil _ _⟩
  · have hR2 : (E, A, ts) = match tokensOf s.data.toList with | .ok ts => (0, 0, ts) | .error p => (11, p, []) := by rw [← h]; unfold tokensRes; rw [HL.out, if_neg hbig]; rfl
    have HR := Lib.hid hR2
    clear hR2 h
    go_enter Tryd.func11, Tryd.ntmps11
    go_wp2
    go_loopw [4] (fun i wr => ∃ (p : Nat) (tt : List Tok) (v : Value), p ≤ s.size ∧ i = .int .i64 p ∧ RefRel s.data.toList w p tt v wr) (fun i _ => s.size - (intOf i).toNat)
    case atStart => exact ⟨0, [], .slice none 0 0, by omega, rfl, refRel_start⟩
    case round =>
      obtain ⟨p, tt, v, hp, rfl, hrel⟩ := hrel
      obtain ⟨va, vc, rfl, hvc, hvm⟩ := hrel.1.len
      obtain ⟨gc0, gc1, gc2, gf0, gf1, gf2, gz⟩ := got_cells (v := .slice none 0 0) hrel.2.1
      obtain ⟨hc0, hc1, hc2, hf0, hf1, hf2, hz⟩ := got_cells hrel.2.2.1
      have hlx := hrel.2.2.2.2.2
      by_cases hlt : p < s.size
      · have hd := str_drop s p hlt
        have hea := Ext.alloc wr (.cells #[.int .i64 0, .string ⟨#[]⟩, .int .i64 p] 39)
        have HD := Lib.hid hd; have HX := Lib.hid hlx
        have HREL := Lib.hid hrel
        clear hlx hd hrel
        by_cases hb : s[p].toNat = 32 ∨ s[p].toNat = 9 ∨ s[p].toNat = 10
        · have hbl : isBlank s[p] = true := by simp only [isBlank, Bool.or_eq_true, decide_eq_true_eq]; omega
          have HM := Lib.hid (HREL.out.move hea (Nat.le_succ p) (lexed_blank HX.out HD.out hbl))
          clear hbl
          as_aux_lemma =>
            rcases hb with hb | hb | hb
            · have b1 : ((s[p].toNat : Int) == 32) = true := by simp; omega
              clear hb
              go_wp2_with fail
              exact ⟨⟨p + 1, tt, _, by omega, by go_num, HM.out⟩, by simp [intOf]; omega⟩
            · have b1 : ((s[p].toNat : Int) == 32) = false := by simp; omega
              have b2 : ((s[p].toNat : Int) == 9) = true := by simp; omega
              clear hb
              go_wp2_with fail
              exact ⟨⟨p + 1, tt, _, by omega, by go_num, HM.out⟩, by simp [intOf]; omega⟩
            · have b1 : ((s[p].toNat : Int) == 32) = false := by simp; omega
              have b2 : ((s[p].toNat : Int) == 9) = false := by simp; omega
              have b3 : ((s[p].toNat : Int) == 10) = true := by simp; omega
              clear hb
              go_wp2_with fail
              exact ⟨⟨p + 1, tt, _, by omega, by go_num, HM.out⟩, by simp [intOf]; omega⟩
        · have hbl : isBlank s[p] = false := by simp only [isBlank, Bool.or_eq_false_iff, decide_eq_false_iff_not]; omega
          have b1 : ((s[p].toNat : Int) == 32) = false := by simp; omega
          have b2 : ((s[p].toNat : Int) == 9) = false := by simp; omega
          have b3 : ((s[p].toNat : Int) == 10) = false := by simp; omega
          by_cases h35 : s[p].toNat = 35
          · have b4 : ((s[p].toNat : Int) == 35) = true := by simp; omega
            as_aux_lemma =>
              have hn := lexed_note HX.out HD.out h35
              have hrl := runLen_le notLine (s.data.toList.drop p)
              rw [List.length_drop, HL.out] at hrl
              have hr1 : 1 ≤ runLen notLine (s.data.toList.drop p) := by rw [HD.out, runLen_cons, if_pos (by simp [notLine, h35])]; omega
              have HM := Lib.hid (HREL.out.move hea (Nat.le_add_right _ _) hn)
              obtain ⟨e, he⟩ : ∃ e, e = p + runLen notLine (s.data.toList.drop p) := ⟨_, rfl⟩
              rw [← he] at HM
              have hep : p < e := by omega
              have hes : e ≤ s.size := by omega
              have HE := Lib.hid he
              clear hbl hn hrl hr1 h35 hb he
              go_wp2_with fail
              generalize wr.alloc (.cells #[.int .i64 0, .string ⟨#[]⟩, .int .i64 p] 39) = w0 at *
              go_loop [4] (fun i => ∃ q : Nat, p ≤ q ∧ q ≤ e ∧ i = .int .i64 q ∧ e = q + runLen notLine (s.data.toList.drop q)) (fun i => s.size - (intOf i).toNat)
              case atStart => exact ⟨p, by omega, by omega, rfl, HE.out⟩
              case round =>
                obtain ⟨q, hpq, hqe, rfl, hq⟩ := hrel
                by_cases hql : q < s.size
                · obtain ⟨hy, hn⟩ := run_next hq (str_drop s q hql)
                  clear hq
                  by_cases h10 : s[q].toNat = 10
                  · have b5 : ((s[q].toNat : Int) == 10) = true := by simp; omega
                    have heq : e = q := hn (by simp [notLine, h10])
                    subst heq
                    clear hy hn
                    go_wp2_with fail
                    exact ⟨⟨e, tt, _, by omega, rfl, HM.out⟩, by simp [intOf]; omega⟩
                  · have b5 : ((s[q].toNat : Int) == 10) = false := by simp; omega
                    have hq2 := hy (by simp [notLine, h10])
                    have HQ := Lib.hid hq2
                    have hq3 : q + 1 ≤ e := by omega
                    clear hy hn hq2 h10
                    go_wp2_with fail
                    exact ⟨⟨q + 1, by omega, by omega, by go_num, HQ.out⟩, by simp [intOf]; omega⟩
                · obtain rfl : e = q := by omega
                  clear hq
                  go_wp2_with fail
                  exact ⟨⟨e, tt, _, by omega, rfl, HM.out⟩, by simp [intOf]; omega⟩
          · have b4 : ((s[p].toNat : Int) == 35) = false := by simp; omega
            by_cases hl : isLetter s[p] = true ∧ ¬ (s[p].toNat = 95 ∧ runLen inWord (s.data.toList.drop (p + 1)) = 0)
            · obtain ⟨hl1, hl2⟩ := hl
              have hl3 := hl1
              rw [small_great, Bool.or_eq_true] at hl1
              clear hb
              go_upto_region 19 with fail
              go_cut [70] from 71 to 94 (fun b wx => b = .bool true ∧ wx = wr.alloc (.cells #[.int .i64 0, .string ⟨#[]⟩, .int .i64 p] 39))
              case first =>
                as_aux_lemma =>
                  cases hsm : isSmall s[p]
                  · have hg : isGreat s[p] = true := by simpa [hsm] using hl1
                    have b5 : ((s[p].toNat : Int) == 95) = false := by simp only [isGreat, Bool.and_eq_true, decide_eq_true_eq] at hg; simp; omega
                    have HS := Lib.hid hsm; have HG := Lib.hid hg
                    clear hsm hg hl1 hl2 hl3
                    go_wp2_with (first | (go_at_call 21; refine (small_is _ HS.out).mono ?_; rintro e w' ⟨rfl, rfl⟩) | (go_at_call 22; refine (great_is _ HG.out).mono ?_; rintro e w' ⟨rfl, rfl⟩))
                    go_meet
                    exact ⟨rfl, rfl⟩
                  · have HS := Lib.hid hsm
                    by_cases h95 : s[p].toNat = 95
                    · have b5 : ((s[p].toNat : Int) == 95) = true := by simp; omega
                      have hnext : ∃ h : p + 1 < s.size, inWord (s[p + 1]'h) = true := by
                        by_cases hn : p + 1 < s.size
                        · refine ⟨hn, ?_⟩
                          have hq : ¬ runLen inWord (s.data.toList.drop (p + 1)) = 0 := fun h => hl2 ⟨h95, h⟩
                          rw [str_drop s (p + 1) hn, runLen_cons] at hq
                          by_cases hw : inWord s[p + 1] = true
                          · exact hw
                          · rw [if_neg hw] at hq; exact absurd rfl hq
                        · exfalso
                          refine hl2 ⟨h95, ?_⟩
                          rw [List.drop_eq_nil_of_le (by rw [HL.out]; omega)]; rfl
                      obtain ⟨hn, hw⟩ := hnext
                      have bn : ((p : Int) + 1 == (s.size : Int)) = false := by simp; omega
                      have HW := Lib.hid hw
                      clear hsm hl1 hl2 hl3 h95 hw
                      go_wp2_with (first | (go_at_call 21; refine (small_is _ HS.out).mono ?_; rintro e w' ⟨rfl, rfl⟩) | (go_at_call 23; refine (within_is _ HW.out).mono ?_; rintro e w' ⟨rfl, rfl⟩))
                      go_meet
                      exact ⟨rfl, rfl⟩
                    · have b5 : ((s[p].toNat : Int) == 95) = false := by simp; omega
                      clear hsm hl1 hl2 hl3 h95
                      go_wp2_with (first | (go_at_call 21; refine (small_is _ HS.out).mono ?_; rintro e w' ⟨rfl, rfl⟩))
                      go_meet
                      exact ⟨rfl, rfl⟩
              case rest =>
                obtain ⟨rfl, rfl⟩ := hcut
                obtain ⟨e, he⟩ : ∃ e, e = p + runLen inWord (s.data.toList.drop p) := ⟨_, rfl⟩
                have hrl := runLen_le inWord (s.data.toList.drop p)
                rw [List.length_drop, HL.out] at hrl
                have hr1 : runLen inWord (s.data.toList.drop p) = 1 + runLen inWord (s.data.toList.drop (p + 1)) := by rw [HD.out, runLen_cons, if_pos (by simp [inWord, hl3])]; omega
                have htk := word_token (r := s.data.toList.drop (p + 1)) hl3
                have hkd := word_kind (r := s.data.toList.drop (p + 1)) hl3 hl2
                have hwb := word_bytes (l := s.data.toList.drop p)
                rw [← HD.out] at htk hkd
                generalize hn : runLen inWord (s.data.toList.drop p) = n at *
                have hep : p < e := by omega
                have hes : e ≤ s.size := by omega
                have h0e : e = p + 1 + runLen inWord (s.data.toList.drop (p + 1)) := by omega
                have H0 := Lib.hid h0e
                have hxl : (s.extract p e).data.toList = (s.data.toList.drop p).take n := by rw [extract_list, he, ← List.take_drop]
                obtain ⟨tx, htx⟩ : ∃ tx, tx = (s.data.toList.drop p).take n := ⟨_, rfl⟩
                rw [← htx] at htk hkd hwb hxl
                have hex : s.extract p e = strOf tx := str_eq hxl
                have hxz : (strOf tx).size = n := by rw [← hex]; simp; omega
                have HTK := Lib.hid htk; have HKD := Lib.hid hkd; have HWB := Lib.hid hwb; have HXZ := Lib.hid hxz; have HE := Lib.hid he
                have H35 := Lib.hid h35; have HBL := Lib.hid hbl
                clear htk hkd hwb hxz hxl htx hn h0e hl1 hl2 hl3 hrl hr1 he h35 hbl
                go_upto_block 5 with fail
                go_cut [6] from 95 to 106 (fun i wx => i = .int .i64 e ∧ wx = wr.alloc (.cells #[.int .i64 0, .string ⟨#[]⟩, .int .i64 p] 39))
                case first =>
                  as_aux_lemma =>
                    go_wp2_with fail
                    go_loop [6] (fun i => ∃ q : Nat, p < q ∧ q ≤ e ∧ i = .int .i64 q ∧ e = q + runLen inWord (s.data.toList.drop q)) (fun i => s.size - (intOf i).toNat)
                    case atStart => exact ⟨p + 1, by omega, by omega, by go_num, H0.out⟩
                    case round =>
                      obtain ⟨q, hpq, hqe, rfl, hq⟩ := hrel
                      by_cases hql : q < s.size
                      · obtain ⟨hy, hn⟩ := run_next hq (str_drop s q hql)
                        clear hq
                        cases hw : inWord s[q]
                        · obtain rfl := hn hw
                          have HW := Lib.hid hw
                          clear hy hn hw
                          go_wp2_with (first | (go_at_call 23; refine (within_is _ HW.out).mono ?_; rintro e w' ⟨rfl, rfl⟩))
                          go_meet
                          exact ⟨rfl, rfl⟩
                        · have hq2 := hy hw
                          have HW := Lib.hid hw
                          have HQ := Lib.hid hq2
                          have hq3 : q + 1 ≤ e := by omega
                          clear hy hn hq2 hw
                          go_wp2_with (first | (go_at_call 23; refine (within_is _ HW.out).mono ?_; rintro e w' ⟨rfl, rfl⟩))
                          exact ⟨⟨q + 1, by omega, by omega, by go_num, HQ.out⟩, by simp [intOf]; omega⟩
                      · obtain rfl : e = q := by omega
                        clear hq
                        go_wp2_with fail
                        go_meet
                        exact ⟨rfl, rfl⟩
                case rest =>
                  obtain ⟨rfl, rfl⟩ := hcut
                  go_upto_block 7 with fail
                  go_cut [] from 113 to 120 (fun wx => wx = wr.alloc (.cells #[.int .i64 (kindOf tx), .string (strOf tx), .int .i64 p] 39))
                  case first =>
                    as_aux_lemma =>
                      have hn0 : 0 < (strOf tx).size := by rw [HXZ.out]; have := HE.out; omega
                      have hn1 : (strOf tx).size ≤ 2500 := by rw [HXZ.out]; have := HE.out; omega
                      cases hcw : words.contains tx
                      · have HC := Lib.hid hcw
                        cases hg : isGreat s[p]
                        · have hk : kindOf tx = 1 := by rw [HKD.out, hcw, hg]; rfl
                          have HG := Lib.hid hg; have HK := Lib.hid hk
                          clear hcw hg hk
                          go_wp2_with (first | (go_at_call 24; refine (own_is _ hn0 hn1 HWB.out HC.out).mono ?_; rintro e w' ⟨rfl, rfl⟩) | (go_at_call 22; refine (great_is _ HG.out).mono ?_; rintro e w' ⟨rfl, rfl⟩))
                          go_meet
                          rw [HK.out]; rfl
                        · have hk : kindOf tx = 2 := by rw [HKD.out, hcw, hg]; rfl
                          have HG := Lib.hid hg; have HK := Lib.hid hk
                          clear hcw hg hk
                          go_wp2_with (first | (go_at_call 24; refine (own_is _ hn0 hn1 HWB.out HC.out).mono ?_; rintro e w' ⟨rfl, rfl⟩) | (go_at_call 22; refine (great_is _ HG.out).mono ?_; rintro e w' ⟨rfl, rfl⟩))
                          go_meet
                          rw [HK.out]; rfl
                      · have HC := Lib.hid hcw
                        have hk : kindOf tx = 5 := by rw [HKD.out, hcw]; rfl
                        have HK := Lib.hid hk
                        clear hcw hk
                        go_wp2_with (first | (go_at_call 24; refine (own_is _ hn0 hn1 HWB.out HC.out).mono ?_; rintro e w' ⟨rfl, rfl⟩))
                        go_meet
                        rw [HK.out]; rfl
                  case rest =>
                    obtain rfl := hcut
                    as_aux_lemma =>
                      have heq := HE.out
                      generalize hkd : kindOf tx = kd at *
                      by_cases h12 : 12 < n
                      · have htn : token (s.data.toList.drop p) = none := by rw [HTK.out, if_pos h12]
                        have HTN := Lib.hid htn
                        clear htn hkd
                        have hres := lexed_none HX.out (by rw [HL.out]; exact hlt) HD.out HBL.out H35.out HTN.out
                        have HE2 := Lib.hid hres
                        have hR := HR.out
                        rw [HE2.out] at hR
                        simp only [Prod.mk.injEq] at hR
                        obtain ⟨rfl, rfl, rfl⟩ := hR
                        clear hres
                        go_wp2_with fail
                        refine bodyPost_ret (v := .agg #[.slice none 0 0, .int .i64 11, .int .i64 A]) (by simp [results, Tryd.results11, go_sem, gc0, gc1, gc2, gz]) rfl ⟨.slice none 0 0, rfl, ?_, TokRow.nil _ _⟩
                        exact (below3 HREL.out.2.2.2.1 (Nat.le_refl _) _ _ _).alloc (by simp; omega) _
                      · have htn : token (s.data.toList.drop p) = some (kd, tx, n) := by rw [HTK.out, if_neg h12]
                        have HTN := Lib.hid htn
                        clear htn hkd
                        have hsome := lexed_some HX.out (by rw [HL.out]; exact hlt) HD.out HBL.out H35.out HTN.out
                        have HS2 := Lib.hid hsome
                        have http := HREL.out.2.2.2.2.1
                        have hrow := HREL.out.1.alloc (.cells #[.int .i64 (kd : Nat), .string (strOf tx), .int .i64 p] 39)
                        have hg3 := HREL.out.2.2.1
                        have hg4 := (Below.heap_alloc wr (.cells #[.int .i64 (kd : Nat), .string (strOf tx), .int .i64 p] 39) _ hz).trans hg3
                        have hown := HREL.out.1.own
                        have HG3 := Lib.hid hg4
                        clear hsome hg3 hg4
                        go_wp2_with (at_builtin; refine wpList_append_tok (w := wr.alloc (.cells #[.int .i64 (kd : Nat), .string (strOf tx), .int .i64 p] 39)) (by rfl) _ _ (by rfl) (w.heap.size + 2) (.slice va tt.length vc) tt (by rfl) hrow kd tx p (wr.heap.size + 1) (by rfl) (by simp) (by omega) (by simp; omega) ?_; intro v' w2 hown' hgrow; obtain ⟨kc0, kc1, kc2, kf0, kf1, kf2, kz⟩ := got_cells (grown_cells (w := w) HG3.out (fun b hb => by have := hown b hb; omega) hgrow); obtain ⟨na, nc, hv', hnc, hnm⟩ := hown'.len; subst hv')
                        have R2 := HREL.out.next (Ext.alloc wr _) hgrow hown' (by omega) HS2.out
                        simp only [List.length_append, List.length_cons, List.length_nil, Nat.zero_add] at R2
                        exact ⟨⟨p + n, _, _, by omega, by go_num, R2⟩, by simp [intOf]; omega⟩
            · skip
              have hl0 : isLetter s[p] = false ∨ (s[p].toNat = 95 ∧ runLen inWord (s.data.toList.drop (p + 1)) = 0) := by
                cases hc : isLetter s[p] with
                | false => exact .inl rfl
                | true =>
                  refine .inr ?_
                  by_cases hq : s[p].toNat = 95 ∧ runLen inWord (s.data.toList.drop (p + 1)) = 0
                  · exact hq
                  · exact absurd ⟨hc, hq⟩ hl
              clear hb hl
              have H35 := Lib.hid h35; have HBL := Lib.hid hbl
              clear h35 hbl
              go_upto_region 19 with fail
              go_cut [70] from 71 to 94 (fun b wx => b = .bool false ∧ wx = wr.alloc (.cells #[.int .i64 0, .string ⟨#[]⟩, .int .i64 p] 39))
              case first =>
                as_aux_lemma =>
                  rcases hl0 with hl1 | ⟨h95, hrun⟩
                  · rw [small_great, Bool.or_eq_false_iff] at hl1
                    have HS := Lib.hid hl1.1; have HG := Lib.hid hl1.2
                    clear hl1
                    go_wp2_with (first | (go_at_call 21; refine (small_is _ HS.out).mono ?_; rintro e w' ⟨rfl, rfl⟩) | (go_at_call 22; refine (great_is _ HG.out).mono ?_; rintro e w' ⟨rfl, rfl⟩))
                    go_meet
                    exact ⟨rfl, rfl⟩
                  · have hsm : isSmall s[p] = true := by simp [isSmall, h95]
                    have b5 : ((s[p].toNat : Int) == 95) = true := by simp; omega
                    have HS := Lib.hid hsm
                    clear hsm h95
                    by_cases hn : p + 1 < s.size
                    · have hw : inWord s[p + 1] = false := by
                        cases hw : inWord s[p + 1] with
                        | false => rfl
                        | true => rw [str_drop s (p + 1) hn, runLen_cons, if_pos hw] at hrun; omega
                      have bn : ((p : Int) + 1 == (s.size : Int)) = false := by simp; omega
                      have HW := Lib.hid hw
                      clear hw hrun
                      go_wp2_with (first | (go_at_call 21; refine (small_is _ HS.out).mono ?_; rintro e w' ⟨rfl, rfl⟩) | (go_at_call 23; refine (within_is _ HW.out).mono ?_; rintro e w' ⟨rfl, rfl⟩))
                      go_meet
                      exact ⟨rfl, rfl⟩
                    · have bn : ((p : Int) + 1 == (s.size : Int)) = true := by simp; omega
                      clear hrun
                      go_wp2_with (first | (go_at_call 21; refine (small_is _ HS.out).mono ?_; rintro e w' ⟨rfl, rfl⟩))
                      go_meet
                      exact ⟨rfl, rfl⟩
              case rest =>
                obtain ⟨rfl, rfl⟩ := hcut
                by_cases hdg : isDigit s[p] = true
                · skip
                  have hl1 : isLetter s[p] = false := by
                    rcases hl0 with h | ⟨h, _⟩
                    · exact h
                    · simp [isDigit, h] at hdg
                  have htk := int_token (r := s.data.toList.drop (p + 1)) hl1 hdg
                  rw [← HD.out] at htk
                  unfold intTok at htk
                  obtain ⟨e, he⟩ : ∃ e, e = p + runLen isDigit (s.data.toList.drop p) := ⟨_, rfl⟩
                  have hrl := runLen_le isDigit (s.data.toList.drop p)
                  rw [List.length_drop, HL.out] at hrl
                  have hr1 : runLen isDigit (s.data.toList.drop p) = 1 + runLen isDigit (s.data.toList.drop (p + 1)) := by rw [HD.out, runLen_cons, if_pos hdg]; omega
                  generalize hn : runLen isDigit (s.data.toList.drop p) = n at *
                  have hep : p < e := by omega
                  have hes : e ≤ s.size := by omega
                  have h0e : e = p + 1 + runLen isDigit (s.data.toList.drop (p + 1)) := by omega
                  have H0 := Lib.hid h0e
                  have hxl : (s.extract p e).data.toList = (s.data.toList.drop p).take n := by rw [extract_list, he, ← List.take_drop]
                  obtain ⟨tx, htx⟩ : ∃ tx, tx = (s.data.toList.drop p).take n := ⟨_, rfl⟩
                  rw [← htx, List.drop_drop, ← he] at htk
                  rw [← htx] at hxl
                  have hex : s.extract p e = strOf tx := str_eq hxl
                  have hxz : (strOf tx).size = n := by rw [← hex]; simp; omega
                  have HTK := Lib.hid htk; have HXZ := Lib.hid hxz; have HE := Lib.hid he; have HDG := Lib.hid hdg
                  clear htk hxz hxl htx hn h0e hl1 hrl hr1 he hl0 hdg
                  go_upto_block 8 with (go_at_call 25; refine (digit_is _ HDG.out).mono ?_; rintro e w' ⟨rfl, rfl⟩)
                  go_cut [6] from 131 to 142 (fun i wx => i = .int .i64 e ∧ wx = wr.alloc (.cells #[.int .i64 0, .string ⟨#[]⟩, .int .i64 p] 39))
                  case first =>
                    as_aux_lemma =>
                      go_wp2_with fail
                      go_loop [6] (fun i => ∃ q : Nat, p < q ∧ q ≤ e ∧ i = .int .i64 q ∧ e = q + runLen isDigit (s.data.toList.drop q)) (fun i => s.size - (intOf i).toNat)
                      case atStart => exact ⟨p + 1, by omega, by omega, by go_num, H0.out⟩
                      case round =>
                        obtain ⟨q, hpq, hqe, rfl, hq⟩ := hrel
                        by_cases hql : q < s.size
                        · obtain ⟨hy, hn⟩ := run_next hq (str_drop s q hql)
                          clear hq
                          cases hw : isDigit s[q]
                          · obtain rfl := hn hw
                            have HW := Lib.hid hw
                            clear hy hn hw
                            go_wp2_with (first | (go_at_call 25; refine (digit_is _ HW.out).mono ?_; rintro e w' ⟨rfl, rfl⟩))
                            go_meet
                            exact ⟨rfl, rfl⟩
                          · have hq2 := hy hw
                            have HW := Lib.hid hw
                            have HQ := Lib.hid hq2
                            have hq3 : q + 1 ≤ e := by omega
                            clear hy hn hq2 hw
                            go_wp2_with (first | (go_at_call 25; refine (digit_is _ HW.out).mono ?_; rintro e w' ⟨rfl, rfl⟩))
                            exact ⟨⟨q + 1, by omega, by omega, by go_num, HQ.out⟩, by simp [intOf]; omega⟩
                        · obtain hqs : e = q := by omega
                          clear hq
                          subst hqs
                          go_wp2_with fail
                          go_meet
                          exact ⟨rfl, rfl⟩
                  case rest =>
                    obtain ⟨rfl, rfl⟩ := hcut
                    go_upto_region 33 with fail
                    go_cut [] from 143 to 148 (fun wx => TokAt wr wx 3 tx p)
                    case first =>
                      as_aux_lemma =>
                        go_region
                        go_wp2
                        go_meet
                        exact (TokAt.new wr 3 tx p).ext (Ext.drew _)
                    case rest =>
                      have hta := hcut
                      obtain ⟨tc0, tc1, tc2, tz⟩ := hta.cells
                      have HTA := Lib.hid hcut
                      have hts : (strOf tx).size ≤ 2500 := by rw [HXZ.out]; have := HE.out; omega
                      clear hta hcut
                      obtain ⟨bad, hbad⟩ : ∃ b, b = !(parseOK tx && !startsLetter (s.data.toList.drop e)) := ⟨_, rfl⟩
                      go_upto_region 34 with fail
                      go_cut [171] from 149 to 170 (fun b wx => b = .bool bad ∧ TokAt wr wx 3 tx p)
                      case first =>
                        as_aux_lemma =>
                          have hfd := run_field_got
                          cases hpk : parseOK tx
                          · have hb2 : bad = true := by rw [hbad, hpk]; rfl
                            subst hb2
                            have HP := Lib.hid hpk
                            clear hbad hpk
                            go_wp2_with (first | (go_at_call 26; refine (parseRef_is (s := strOf tx) _ hts HP.out).mono ?_; rintro e2 w2 ⟨⟨v2, rfl⟩, hx2⟩))
                            go_meet
                            exact ⟨rfl, HTA.out.ext hx2⟩
                          · have HP := Lib.hid hpk
                            rw [hpk, Bool.true_and, Bool.not_not] at hbad
                            clear hpk
                            by_cases hel : e < s.size
                            · rw [str_drop s e hel] at hbad
                              have hbad2 : bad = isLetter s[e] := hbad
                              rw [small_great] at hbad2
                              have i1 : decide ((e : Int) < (s.size : Int)) = true := by apply decide_eq_true; omega
                              clear hbad
                              cases hsm : isSmall s[e]
                              · cases hg : isGreat s[e]
                                all_goals
                                  rw [hsm, hg] at hbad2
                                  simp only [Bool.or_false, Bool.or_true, Bool.false_or] at hbad2
                                  subst hbad2
                                  have HS := Lib.hid hsm; have HG := Lib.hid hg
                                  clear hsm hg
                                  go_wp2_with (first | (go_at_call 26; refine (parseRef_is (s := strOf tx) _ hts HP.out).mono ?_; rintro e2 w2 ⟨⟨v2, rfl⟩, hx2⟩) | (go_at_call 21; refine (small_is _ HS.out).mono ?_; rintro e w' ⟨rfl, rfl⟩) | (go_at_call 22; refine (great_is _ HG.out).mono ?_; rintro e w' ⟨rfl, rfl⟩))
                                  go_meet
                                  exact ⟨rfl, HTA.out.ext hx2⟩
                              · rw [hsm, Bool.true_or] at hbad2
                                subst hbad2
                                have HS := Lib.hid hsm
                                clear hsm
                                go_wp2_with (first | (go_at_call 26; refine (parseRef_is (s := strOf tx) _ hts HP.out).mono ?_; rintro e2 w2 ⟨⟨v2, rfl⟩, hx2⟩) | (go_at_call 21; refine (small_is _ HS.out).mono ?_; rintro e w' ⟨rfl, rfl⟩))
                                go_meet
                                exact ⟨rfl, HTA.out.ext hx2⟩
                            · rw [List.drop_eq_nil_of_le (by rw [HL.out]; omega)] at hbad
                              have hb2 : bad = false := hbad
                              subst hb2
                              have i1 : decide ((e : Int) < (s.size : Int)) = false := by apply decide_eq_false; omega
                              clear hbad
                              go_wp2_with (first | (go_at_call 26; refine (parseRef_is (s := strOf tx) _ hts HP.out).mono ?_; rintro e2 w2 ⟨⟨v2, rfl⟩, hx2⟩))
                              go_meet
                              exact ⟨rfl, HTA.out.ext hx2⟩
                      case rest =>
                        as_aux_lemma =>
                          obtain ⟨rfl, hta⟩ := hcut
                          clear tc0 tc1 tc2 tz
                          cases bad
                          · have htn : token (s.data.toList.drop p) = some (3, tx, n) := by rw [HTK.out, if_pos (by simpa using hbad.symm)]
                            have HTN := Lib.hid htn
                            have hpe : p < e := hep
                            clear htn hbad
                            have hsome := lexed_some HX.out (by rw [HL.out]; exact hlt) HD.out HBL.out H35.out HTN.out
                            rw [← HE.out] at hsome
                            have HS2 := Lib.hid hsome
                            have http := HREL.out.2.2.2.2.1
                            obtain ⟨tc0, tc1, tc2, tz⟩ := hta.cells
                            have HM2 := HREL.out.move hta.1 (Nat.le_refl _) HX.out
                            obtain ⟨mc0, mc1, mc2, mf0, mf1, mf2, mz⟩ := got_cells HM2.2.2.1
                            have hrow := HM2.1
                            have hown := hrow.own
                            have HG3 := Lib.hid HM2.2.2.1
                            have HTA := Lib.hid hta
                            clear hsome HM2 hta
                            go_wp2_with (at_builtin; refine wpList_append_tok (w := wc) (by rfl) _ _ (by rfl) (w.heap.size + 2) (.slice va tt.length vc) tt (by rfl) hrow 3 tx p wc.heap.size (by rfl) rfl (by omega) (by omega) ?_; intro v' w2 hown' hgrow; obtain ⟨kc0, kc1, kc2, kf0, kf1, kf2, kz⟩ := got_cells (grown_cells (w := w) HG3.out (fun b hb => by have := hown b hb; omega) hgrow); obtain ⟨na, nc, hv', hnc, hnm⟩ := hown'.len; subst hv')
                            have R2 := HREL.out.next HTA.out.1 hgrow hown' (by omega) HS2.out
                            simp only [List.length_append, List.length_cons, List.length_nil, Nat.zero_add] at R2
                            exact ⟨⟨e, _, _, by omega, by go_num, R2⟩, by simp [intOf]; omega⟩
                          · have htn : token (s.data.toList.drop p) = none := by rw [HTK.out, if_neg (by intro h; rw [h] at hbad; exact Bool.noConfusion hbad)]
                            have HTN := Lib.hid htn
                            have hta1 := hta.1
                            clear htn hbad hta
                            have HM2 := HREL.out.move (hta1) (Nat.le_refl _) HX.out
                            obtain ⟨mc0, mc1, mc2, mf0, mf1, mf2, mz⟩ := got_cells (v := .slice none 0 0) HM2.2.1
                            have hres := lexed_none HX.out (by rw [HL.out]; exact hlt) HD.out HBL.out H35.out HTN.out
                            have HE2 := Lib.hid hres
                            have hR := HR.out
                            rw [HE2.out] at hR
                            simp only [Prod.mk.injEq] at hR
                            obtain ⟨rfl, rfl, rfl⟩ := hR
                            have HM3 := Lib.hid HM2
                            clear hres HM2
                            go_wp2_with fail
                            refine bodyPost_ret (v := .agg #[.slice none 0 0, .int .i64 11, .int .i64 A]) (by simp [results, Tryd.results11, go_sem, mc0, mc1, mc2, mz]) rfl ⟨.slice none 0 0, rfl, ?_, TokRow.nil _ _⟩
                            exact below3 HM3.out.2.2.2.1 (Nat.le_refl _) _ _ _
                · by_cases h34 : s[p].toNat = 34
                  · as_aux_lemma =>
                      have htk := text_token (r := s.data.toList.drop (p + 1)) h34
                      rw [← HD.out] at htk
                      have b6 : ((s[p].toNat : Int) == 34) = true := by simp; omega
                      have hdg2 : isDigit s[p] = false := by simpa using hdg
                      have HDG := Lib.hid hdg2
                      have hxl : ((s.extract p s.size).data.toList.drop 1) = s.data.toList.drop (p + 1) := by rw [extract_end_list, List.drop_drop]
                      obtain ⟨R, hR⟩ : ∃ R, textGo (s.data.toList.drop (p + 1)) [] 1 = R := ⟨_, rfl⟩
                      have hxs : (s.extract p s.size).size ≤ 2500 := by simp; omega
                      have hx0 : 0 < (s.extract p s.size).size := by simp; omega
                      rw [hR] at htk
                      have HTX := Lib.hid (show textGo ((s.extract p s.size).data.toList.drop 1) [] 1 = R by rw [hxl]; exact hR)
                      have HRR := Lib.hid hR
                      clear hxl hdg2 hdg hl0 h34 hR
                      cases R with
                      | none =>
                        have HTN := Lib.hid (show token (s.data.toList.drop p) = none from htk)
                        clear htk
                        have HEA := Lib.hid hea
                        go_upto_region 38 with (first | (go_at_call 25; refine (digit_is _ HDG.out).mono ?_; rintro e w' ⟨rfl, rfl⟩) | (go_at_call 27; refine (textRef_is _ hxs hx0 HTX.out).mono ?_; rintro e2 w2 ⟨rfl, hx2⟩; rw [show textV none = .agg #[.string ⟨#[]⟩, .int .i64 0] from rfl]))
                        obtain ⟨xc0, xc1⟩ := own2 (Ext.refl (w2.alloc (.cells #[.string ⟨#[]⟩, .int .i64 0] 49)))
                        have hta1 := (HEA.out.trans hx2).trans (Ext.alloc w2 (.cells #[.string ⟨#[]⟩, .int .i64 0] 49))
                        generalize w2.alloc (.cells #[.string ⟨#[]⟩, .int .i64 0] 49) = w3 at *
                        have HM2 := HREL.out.move (hta1) (Nat.le_refl _) HX.out
                        obtain ⟨mc0, mc1, mc2, mf0, mf1, mf2, mz⟩ := got_cells (v := .slice none 0 0) HM2.2.1
                        have hres := lexed_none HX.out (by rw [HL.out]; exact hlt) HD.out HBL.out H35.out HTN.out
                        have HE2 := Lib.hid hres
                        have hR := HR.out
                        rw [HE2.out] at hR
                        simp only [Prod.mk.injEq] at hR
                        obtain ⟨rfl, rfl, rfl⟩ := hR
                        have HM3 := Lib.hid HM2
                        clear hres HM2
                        go_wp2_with fail
                        refine bodyPost_ret (v := .agg #[.slice none 0 0, .int .i64 11, .int .i64 A]) (by simp [results, Tryd.results11, go_sem, mc0, mc1, mc2, mz]) rfl ⟨.slice none 0 0, rfl, ?_, TokRow.nil _ _⟩
                        exact below3 HM3.out.2.2.2.1 (Nat.le_refl _) _ _ _
                      | some y =>
                        obtain ⟨tx, n⟩ := y
                        have hle := textGo_le HRR.out
                        rw [List.length_drop, HL.out] at hle
                        have hn1 := hle.1
                        have hn2 := hle.2
                        have HTN := Lib.hid (show token (s.data.toList.drop p) = some (4, tx, n) from htk)
                        have HTZ := Lib.hid (TokAt.new wr 0 [] p)
                        have bn : ((n : Int) == 0) = false := beq_false_of_ne (by omega)
                        clear htk hle
                        go_upto_region 40 with (first | (go_at_call 25; refine (digit_is _ HDG.out).mono ?_; rintro e w' ⟨rfl, rfl⟩) | (go_at_call 27; refine (textRef_is _ hxs hx0 HTX.out).mono ?_; rintro e2 w2 ⟨rfl, hx2⟩; rw [show textV (some (tx, n)) = .agg #[.string (strOf tx), .int .i64 n] from rfl]))
                        obtain ⟨xc0, xc1⟩ := own2 (Ext.refl (w2.alloc (.cells #[.string (strOf tx), .int .i64 n] 49)))
                        have hlt2 : wr.heap.size < w2.heap.size := by have := hx2.size; simp at this; omega
                        have hta0 := HTZ.out.ext (hx2.trans (Ext.alloc w2 (.cells #[.string (strOf tx), .int .i64 n] 49)))
                        generalize w2.alloc (.cells #[.string (strOf tx), .int .i64 n] 49) = w3 at *
                        obtain ⟨tc0, tc1, tc2, tz⟩ := hta0.cells
                        obtain ⟨tf0, tf1, tf2⟩ := hta0.frozen
                        have HTA0 := Lib.hid hta0
                        clear hta0 hx2
                        go_region
                        have hta : TokAt wr (((w3.setCell ⟨wr.heap.size, 0, none⟩ (.int .i64 4)).setCell ⟨wr.heap.size, 1, none⟩ (.string (strOf tx))).drew) 4 tx p := (HTA0.out.set01 4 tx).ext (Ext.drew _)
                        clear tc0 tc1 tc2 tz tf0 tf1 tf2 HTA0
                        generalize (((w3.setCell ⟨wr.heap.size, 0, none⟩ (.int .i64 4)).setCell ⟨wr.heap.size, 1, none⟩ (.string (strOf tx))).drew) = wc at *
                        have hsome := lexed_some HX.out (by rw [HL.out]; exact hlt) HD.out HBL.out H35.out HTN.out
                        have HS2 := Lib.hid hsome
                        have http := HREL.out.2.2.2.2.1
                        obtain ⟨tc0, tc1, tc2, tz⟩ := hta.cells
                        have HM2 := HREL.out.move hta.1 (Nat.le_refl _) HX.out
                        obtain ⟨mc0, mc1, mc2, mf0, mf1, mf2, mz⟩ := got_cells HM2.2.2.1
                        have hrow := HM2.1
                        have hown := hrow.own
                        have HG3 := Lib.hid HM2.2.2.1
                        have HTA := Lib.hid hta
                        clear hsome HM2 hta
                        go_wp2_with (at_builtin; refine wpList_append_tok (w := wc) (by rfl) _ _ (by rfl) (w.heap.size + 2) (.slice va tt.length vc) tt (by rfl) hrow 4 tx p wc.heap.size (by rfl) rfl (by omega) (by omega) ?_; intro v' w2 hown' hgrow; obtain ⟨kc0, kc1, kc2, kf0, kf1, kf2, kz⟩ := got_cells (grown_cells (w := w) HG3.out (fun b hb => by have := hown b hb; omega) hgrow); obtain ⟨na, nc, hv', hnc, hnm⟩ := hown'.len; subst hv')
                        have R2 := HREL.out.next HTA.out.1 hgrow hown' (by omega) HS2.out
                        simp only [List.length_append, List.length_cons, List.length_nil, Nat.zero_add] at R2
                        exact ⟨⟨p + n, _, _, by omega, by go_num, R2⟩, by simp [intOf]; omega⟩
                  · as_aux_lemma =>
                      have hdg2 : isDigit s[p] = false := by simpa using hdg
                      have HDG := Lib.hid hdg2
                      have b6 : ((s[p].toNat : Int) == 34) = false := by simp; omega
                      have htk := sign_token (r := s.data.toList.drop (p + 1)) hl0 hdg2 h34
                      have hsl := refSign_le (c := s[p]) (r := s.data.toList.drop (p + 1))
                      rw [← HD.out] at htk hsl
                      rw [List.length_drop, HL.out] at hsl
                      have hxs : (s.extract p s.size).size ≤ 2500 := by simp; omega
                      have hx0 : 0 < (s.extract p s.size).size := by simp; omega
                      have hsg : refSign (s.extract p s.size).data.toList = refSign (s.data.toList.drop p) := by rw [extract_end_list]
                      generalize hn : refSign (s.data.toList.drop p) = n at *
                      obtain ⟨tx, htx⟩ : ∃ tx, tx = (s.data.toList.drop p).take n := ⟨_, rfl⟩
                      have hxl : (s.extract p (p + n)).data.toList = (s.data.toList.drop p).take n := by rw [extract_list, ← List.take_drop]
                      rw [← htx] at htk hxl
                      have hex : s.extract p (p + n) = strOf tx := str_eq hxl
                      have HSG := Lib.hid hsg; have HTK := Lib.hid htk
                      clear hdg2 hdg hl0 h34 hsg htk hn htx hxl
                      by_cases hn0 : n = 0
                      · subst hn0
                        have HTN := Lib.hid (show token (s.data.toList.drop p) = none by rw [HTK.out]; rfl)
                        have HEA := Lib.hid hea
                        go_upto_region 10 with (first | (go_at_call 25; refine (digit_is _ HDG.out).mono ?_; rintro e w' ⟨rfl, rfl⟩) | (go_at_call 28; refine (sign_is _ hx0 hxs HSG.out).mono ?_; rintro e2 w2 ⟨rfl, hx2⟩))
                        have hta1 := HEA.out.trans hx2
                        have HM2 := HREL.out.move (hta1) (Nat.le_refl _) HX.out
                        obtain ⟨mc0, mc1, mc2, mf0, mf1, mf2, mz⟩ := got_cells (v := .slice none 0 0) HM2.2.1
                        have hres := lexed_none HX.out (by rw [HL.out]; exact hlt) HD.out HBL.out H35.out HTN.out
                        have HE2 := Lib.hid hres
                        have hR := HR.out
                        rw [HE2.out] at hR
                        simp only [Prod.mk.injEq] at hR
                        obtain ⟨rfl, rfl, rfl⟩ := hR
                        have HM3 := Lib.hid HM2
                        clear hres HM2
                        go_wp2_with fail
                        refine bodyPost_ret (v := .agg #[.slice none 0 0, .int .i64 11, .int .i64 A]) (by simp [results, Tryd.results11, go_sem, mc0, mc1, mc2, mz]) rfl ⟨.slice none 0 0, rfl, ?_, TokRow.nil _ _⟩
                        exact below3 HM3.out.2.2.2.1 (Nat.le_refl _) _ _ _
                      · have HTN := Lib.hid (show token (s.data.toList.drop p) = some (6, tx, n) by rw [HTK.out, if_neg hn0])
                        have hn1 : 1 ≤ n := by omega
                        have bn : ((n : Int) == 0) = false := beq_false_of_ne (by omega)
                        have HTZ := Lib.hid (TokAt.new wr 0 [] p)
                        clear hn0
                        go_upto_region 13 with (first | (go_at_call 25; refine (digit_is _ HDG.out).mono ?_; rintro e w' ⟨rfl, rfl⟩) | (go_at_call 28; refine (sign_is _ hx0 hxs HSG.out).mono ?_; rintro e2 w2 ⟨rfl, hx2⟩))
                        have hta0 := HTZ.out.ext hx2
                        obtain ⟨tc0, tc1, tc2, tz⟩ := hta0.cells
                        obtain ⟨tf0, tf1, tf2⟩ := hta0.frozen
                        have HTA0 := Lib.hid hta0
                        clear hta0 hx2
                        go_region
                        have hta : TokAt wr (((w2.setCell ⟨wr.heap.size, 0, none⟩ (.int .i64 6)).setCell ⟨wr.heap.size, 1, none⟩ (.string (strOf tx))).drew) 6 tx p := (HTA0.out.set01 6 tx).ext (Ext.drew _)
                        clear tc0 tc1 tc2 tz tf0 tf1 tf2 HTA0
                        generalize (((w2.setCell ⟨wr.heap.size, 0, none⟩ (.int .i64 6)).setCell ⟨wr.heap.size, 1, none⟩ (.string (strOf tx))).drew) = wc at *
                        have hsome := lexed_some HX.out (by rw [HL.out]; exact hlt) HD.out HBL.out H35.out HTN.out
                        have HS2 := Lib.hid hsome
                        have http := HREL.out.2.2.2.2.1
                        obtain ⟨tc0, tc1, tc2, tz⟩ := hta.cells
                        have HM2 := HREL.out.move hta.1 (Nat.le_refl _) HX.out
                        obtain ⟨mc0, mc1, mc2, mf0, mf1, mf2, mz⟩ := got_cells HM2.2.2.1
                        have hrow := HM2.1
                        have hown := hrow.own
                        have HG3 := Lib.hid HM2.2.2.1
                        have HTA := Lib.hid hta
                        clear hsome HM2 hta
                        go_wp2_with (at_builtin; refine wpList_append_tok (w := wc) (by rfl) _ _ (by rfl) (w.heap.size + 2) (.slice va tt.length vc) tt (by rfl) hrow 6 tx p wc.heap.size (by rfl) rfl (by omega) (by omega) ?_; intro v' w2 hown' hgrow; obtain ⟨kc0, kc1, kc2, kf0, kf1, kf2, kz⟩ := got_cells (grown_cells (w := w) HG3.out (fun b hb => by have := hown b hb; omega) hgrow); obtain ⟨na, nc, hv', hnc, hnm⟩ := hown'.len; subst hv')
                        have R2 := HREL.out.next HTA.out.1 hgrow hown' (by omega) HS2.out
                        simp only [List.length_append, List.length_cons, List.length_nil, Nat.zero_add] at R2
                        exact ⟨⟨p + n, _, _, by omega, by go_num, R2⟩, by simp [intOf]; omega⟩
      · have hres := lexed_end hlx (by rw [HL.out]; omega)
        as_aux_lemma =>
          have HE := Lib.hid hres
          have hR := HR.out
          rw [HE.out] at hR
          simp only [Prod.mk.injEq] at hR
          obtain ⟨rfl, rfl, rfl⟩ := hR
          clear hres hlx
          go_wp2
          refine bodyPost_ret (v := .agg #[.slice va ts.length vc, .int .i64 0, .int .i64 0]) (by simp [results, Tryd.results11, go_sem, hc0, hc1, hc2, gc0, gc1, gc2]) rfl ⟨.slice va ts.length vc, rfl, ?_, ?_⟩
          · exact below3 hrel.2.2.2.1 (Nat.le_refl _) _ _ _
          · exact (((hrel.1.setCell (a := ⟨w.heap.size, 0, none⟩) (by simp) _).setCell (a := ⟨w.heap.size, 1, none⟩) (by simp) _).setCell (a := ⟨w.heap.size, 2, none⟩) (by simp) _).mono (by omega)
end Go.Proofs.YtdkmakdlojlacaaDoor
