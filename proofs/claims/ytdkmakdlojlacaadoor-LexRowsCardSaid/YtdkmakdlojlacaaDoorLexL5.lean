/- LexRows: the walk. -/
import Derived.Test.YtdkmakdlojlacaaDoorLexX
namespace Go.Proofs.YtdkmakdlojlacaaDoor
open Go.RowKit Lex
set_option maxHeartbeats 4000000
set_option maxRecDepth 100000
theorem tokensRes_small {l : List UInt8} (h : l.length ≤ 2000) : tokensRes l = match tokensOf l with | .ok ts => (0, 0, ts) | .error p => (11, p, []) := by
  unfold tokensRes; rw [if_neg (by omega)]; rfl
theorem extract_str_list (s : ByteArray) : strOf s.data.toList = s := by
  apply ByteArray.ext; simp [strOf]
theorem rows_join (s t : ByteArray) : (s ++ ⟨#[10]⟩ ++ t).data.toList = s.data.toList ++ 10 :: t.data.toList := by simp
theorem TokRow.any {w : World} {base : Nat} {v : Value} {ts : List Tok} (h : TokRow w base v ts) : ∃ p c, v = .slice p ts.length c ∧ ts.length ≤ c ∧ c ≤ maxLen ∧
    ∀ (i : Nat) (x : Tok), ts[i]? = some x → ∃ g, p = some ⟨g, 0, none⟩ ∧ w.cell? ⟨g, i * 3, none⟩ = some (.int .i64 x.1) ∧ w.cell? ⟨g, i * 3 + 1, none⟩ = some (.string (strOf x.2.1)) ∧ w.cell? ⟨g, i * 3 + 2, none⟩ = some (.int .i64 x.2.2) := by
  by_cases hne : ts = []
  · subst hne
    obtain ⟨p, c, hv, h1, h2⟩ := h.len
    exact ⟨p, c, hv, h1, h2, fun i x hx => by simp at hx⟩
  · obtain ⟨g, c, hv, _, h1, h2, hc⟩ := h.shape hne
    refine ⟨_, c, hv, h1, h2, fun i x hx => ⟨g, rfl, ?_⟩⟩
    rw [Nat.mul_comm]
    exact hc i x hx
theorem rows_walk (s t : ByteArray) (w : World) (hs : s.size ≤ 140737488351232) (ht : t.size ≤ 140737488351232) (hw : LexLie w) : Calls Tryd.prog 5 #[.string s, .string t] w (TrueExt w) := by
  have HL := Lib.hid (str_length s)
  have HLT := Lib.hid (str_length t)
  by_cases hbig : 1500 < s.size + t.size
  · go_enter Tryd.func5, Tryd.ntmps5
    go_wp2_with fail
    refine (lex_wakes w hw).mono ?_; rintro e w1 ⟨rfl, hx⟩
    go_wp2
    go_ret
    exact ⟨rfl, hx⟩
  · have hresS := tokensRes_small (l := s.data.toList) (by rw [HL.out]; omega)
    have hresT := tokensRes_small (l := t.data.toList) (by rw [HLT.out]; omega)
    have hresC := tokensRes_small (l := (s ++ ⟨#[10]⟩ ++ t).data.toList) (by rw [rows_join, List.length_append, List.length_cons, HL.out, HLT.out]; omega)
    have hms : s.size ≤ maxLen := by unfold maxLen; omega
    have hmt : t.size ≤ maxLen := by unfold maxLen; omega
    have hmc : (s ++ ⟨#[10]⟩ ++ t).size ≤ maxLen := by
      have h10 : (ByteArray.mk #[10]).size = 1 := rfl
      simp only [ByteArray.size_append]; unfold maxLen; omega
    have HMC := Lib.hid hmc
    clear hmc
    cases htok : tokensOf s.data.toList with
    | error p =>
      have hpl := tokensOf_error htok
      rw [HL.out] at hpl
      rw [htok] at hresS
      obtain ⟨E2, A2, t2, hres2⟩ : ∃ E A ts, tokensRes t.data.toList = (E, A, ts) := ⟨_, _, _, rfl⟩
      obtain ⟨E3, A3, t3, hres3⟩ : ∃ E A ts, tokensRes (s ++ ⟨#[10]⟩ ++ t).data.toList = (E, A, ts) := ⟨_, _, _, rfl⟩
      have H1 := Lib.hid hresS; have H2 := Lib.hid hres2; have H3 := Lib.hid hres3
      clear hresS hresT hresC hres2 hres3 htok
      go_enter Tryd.func5, Tryd.ntmps5
      go_wp2_with fail
      refine (tokens_is hms hw H1.out).mono ?_; rintro e w1 ⟨v1, rfl, hx1, hr1⟩
      obtain ⟨_, _, rfl, _, _⟩ := hr1.len
      clear hr1
      have hl1 := hw.ext (hx1.trans (Ext.alloc w1 (.cells #[.int .i64 11, .int .i64 p] 26)))
      go_wp2_with fail
      refine (tokens_is hmt hl1 H2.out).mono ?_; rintro e w2 ⟨v2, rfl, hx2, hr2⟩
      obtain ⟨_, _, rfl, _, _⟩ := hr2.len
      clear hr2
      have hl2 := hl1.ext (hx2.trans (Ext.alloc w2 (.cells #[.int .i64 E2, .int .i64 A2] 26)))
      go_wp2_with fail
      refine (tokens_is HMC.out hl2 H3.out).mono ?_; rintro e w3 ⟨v3, rfl, hx3, hr3⟩
      obtain ⟨_, _, rfl, _, _⟩ := hr3.len
      clear hr3
      have hx23 := hx2.trans ((Ext.alloc w2 (.cells #[.int .i64 E2, .int .i64 A2] 26)).trans (hx3.trans (Ext.alloc w3 (.cells #[.int .i64 E3, .int .i64 A3] 26))))
      obtain ⟨f0, f1⟩ := own2 hx23
      have hxx := hx1.trans ((Ext.alloc w1 (.cells #[.int .i64 11, .int .i64 p] 26)).trans hx23)
      have hl3 := hw.ext hxx
      have HXX := Lib.hid hxx
      clear hx1 hx2 hx3 hx23 hxx hl1 hl2
      go_wp2_with fail
      refine (lex_wakes _ hl3).mono ?_; rintro e w4 ⟨rfl, hx⟩
      go_wp2
      go_ret
      exact ⟨rfl, HXX.out.trans hx⟩
    | ok a =>
      rw [htok] at hresS
      obtain ⟨E2, A2, t2, hres2⟩ : ∃ E A ts, tokensRes t.data.toList = (E, A, ts) := ⟨_, _, _, rfl⟩
      obtain ⟨E3, A3, t3, hres3⟩ : ∃ E A ts, tokensRes (s ++ ⟨#[10]⟩ ++ t).data.toList = (E, A, ts) := ⟨_, _, _, rfl⟩
      have H1 := Lib.hid hresS; have H2 := Lib.hid hres2; have H3 := Lib.hid hres3
      have HT := Lib.hid hresT; have HC := Lib.hid hresC; have HK := Lib.hid htok
      clear hresS hresT hresC hres2 hres3 htok
      go_enter Tryd.func5, Tryd.ntmps5
      go_wp2_with fail
      refine (tokens_is hms hw H1.out).mono ?_; rintro e w1 ⟨v1, rfl, hx1, hr1⟩
      obtain ⟨p1, c1, rfl, la1, lb1, hc1⟩ := hr1.any
      clear hr1
      have hl1 := hw.ext (hx1.trans (Ext.alloc w1 (.cells #[.int .i64 (0 : Nat), .int .i64 (0 : Nat)] 26)))
      go_wp2_with fail
      refine (tokens_is hmt hl1 H2.out).mono ?_; rintro e w2 ⟨v2, rfl, hx2, hr2⟩
      obtain ⟨p2, c2, rfl, la2, lb2, hc2⟩ := hr2.any
      clear hr2
      have hl2 := hl1.ext (hx2.trans (Ext.alloc w2 (.cells #[.int .i64 E2, .int .i64 A2] 26)))
      go_wp2_with fail
      refine (tokens_is HMC.out hl2 H3.out).mono ?_; rintro e w3 ⟨v3, rfl, hx3, hr3⟩
      obtain ⟨p3, c3, rfl, la3, lb3, hc3⟩ := hr3.any
      clear hr3
      unfold maxLen at lb1 lb2 lb3
      have e34 := Ext.alloc w3 (.cells #[.int .i64 E3, .int .i64 A3] 26)
      have e24 := hx3.trans e34
      have e14 := hx2.trans ((Ext.alloc w2 (.cells #[.int .i64 E2, .int .i64 A2] 26)).trans e24)
      obtain ⟨f0, f1⟩ := own2 e14
      obtain ⟨g0, g1⟩ := own2 e24
      obtain ⟨h0, h1⟩ := own2 (Ext.refl (w3.alloc (.cells #[.int .i64 E3, .int .i64 A3] 26)))
      have ea := (Ext.alloc w1 (.cells #[.int .i64 (0 : Nat), .int .i64 (0 : Nat)] 26)).trans e14
      have eb := (Ext.alloc w2 (.cells #[.int .i64 E2, .int .i64 A2] 26)).trans e24
      have HXX := Lib.hid (hx1.trans ea)
      have HA := Lib.hid hc1; have HB := Lib.hid hc2; have HCC := Lib.hid hc3
      have EA := Lib.hid ea; have EB := Lib.hid eb; have EC := Lib.hid e34
      clear hx1 hx2 hx3 e14 e24 e34 ea eb hc1 hc2 hc3 hl1 hl2
      go_wp2_with fail
      generalize w3.alloc (.cells #[.int .i64 (E3 : Nat), .int .i64 (A3 : Nat)] 26) = W0 at *
      go_loopw [11] (fun i wr => ∃ k : Nat, k ≤ a.length ∧ i = .int .i64 k ∧ Ext W0 wr) (fun i _ => a.length - (intOf i).toNat)
      case atStart => exact ⟨0, by omega, rfl, Ext.refl _⟩
      case round =>
        obtain ⟨k, hk, rfl, hx⟩ := hrel
        by_cases hlt : k < a.length
        · have hxk : a[k]? = some a[k] := List.getElem?_eq_getElem hlt
          obtain ⟨g, rfl, q0, q1, q2⟩ := HA.out k _ hxk
          have hlies := tokensOf_lies HK.out a[k] (List.getElem_mem hlt)
          generalize a[k] = x at *
          obtain ⟨xk, xt, xp⟩ := x
          dsimp only at q0 q1 q2 hlies
          rw [HL.out] at hlies
          obtain ⟨hl1, hl2⟩ := hlies
          have P0 := hx.cell (EA.out.cell q0); have P1 := hx.cell (EA.out.cell q1); have P2 := hx.cell (EA.out.cell q2)
          have i1 : (k : Int) < (a.length : Int) := by omega
          clear q0 q1 q2 hxk
          by_cases hk4 : xk = 4
          · subst hk4
            clear hl2
            clear f0 f1 g0 g1 h0 h1
            go_wp2_with fail
            obtain ⟨b0, b1, b2, _, _, _, b3⟩ := own3 (Ext.refl (wr.alloc (.cells #[.int .i64 (4 : Nat), .string (strOf xt), .int .i64 (xp : Nat)] 39)))
            have ew := Lib.hid (hx.trans (Ext.alloc wr (.cells #[.int .i64 (4 : Nat), .string (strOf xt), .int .i64 (xp : Nat)] 39)))
            generalize wr.alloc (.cells #[.int .i64 (4 : Nat), .string (strOf xt), .int .i64 (xp : Nat)] 39) = W1 at *
            clear P0 P1 P2
            have i2 : (xp : Int) < (s.size : Int) := by omega
            have i3 : decide ((xp : Int) < 0) = false := by apply decide_eq_false; omega
            have i4 : decide ((s.size : Int) ≤ (xp : Int)) = false := by apply decide_eq_false; omega
            have i5 : decide (s.size ≤ xp) = false := by apply decide_eq_false; omega
            rw [show ((4 : Nat) : Int) = 4 from rfl] at b0
            clear hs ht hms hmt hbig hl1 hx hw
            go_big_quiet (fail)
            go_wp2
            exact ⟨⟨k + 1, by omega, by go_num, ew.out.trans (Ext.drewN _ _)⟩, by simp [intOf]; omega⟩
          · have H2 := Lib.hid (hl2 hk4)
            clear hl2
            clear f0 f1 g0 g1 h0 h1
            go_wp2_with fail
            obtain ⟨b0, b1, b2, _, _, _, b3⟩ := own3 (Ext.refl (wr.alloc (.cells #[.int .i64 (xk : Nat), .string (strOf xt), .int .i64 (xp : Nat)] 39)))
            have ew := Lib.hid (hx.trans (Ext.alloc wr (.cells #[.int .i64 (xk : Nat), .string (strOf xt), .int .i64 (xp : Nat)] 39)))
            generalize wr.alloc (.cells #[.int .i64 (xk : Nat), .string (strOf xt), .int .i64 (xp : Nat)] 39) = W1 at *
            clear P0 P1 P2
            have hz : (strOf xt).size = xt.length := by rw [← str_length]; rfl
            have hex : s.extract xp (xp + (strOf xt).size) = strOf xt := by
              rw [← extract_str_list (s.extract xp (xp + (strOf xt).size)), extract_list, ← List.take_drop, hz, ← H2.out.2]
            have i2 : (xp : Int) < (s.size : Int) := by omega
            have i3 : decide ((xp : Int) < 0) = false := by apply decide_eq_false; omega
            have i4 : decide ((s.size : Int) ≤ (xp : Int)) = false := by apply decide_eq_false; omega
            have i5 : decide (s.size ≤ xp) = false := by apply decide_eq_false; omega
            have i6 : ((xk : Int) == 4) = false := beq_false_of_ne (by omega)
            have i7 : (xk == 4) = false := beq_false_of_ne (by omega)
            have i6' : ((xk : Int) != 4) = true := bne_iff_ne.2 (by omega)
            have i7' : (xk != 4) = true := bne_iff_ne.2 (by omega)
            have h21 : xp + (strOf xt).size ≤ s.size := by rw [hz]; exact H2.out.1
            generalize strOf xt = X at *
            have i8 : decide ((s.size : Int) < (xp : Int) + (X.size : Int)) = false := by apply decide_eq_false; omega
            have i9 : decide (s.size < xp + X.size) = false := by apply decide_eq_false; omega
            clear hz ht hms hmt hbig hl1 hx hw H2
            go_big_quiet (fail)
            go_wp2
            exact ⟨⟨k + 1, by omega, by go_num, ew.out.trans (Ext.drewN _ _)⟩, by simp [intOf]; omega⟩
        · obtain rfl : k = a.length := by omega
          have G0 := hx.cell g0; have G1 := hx.cell g1; have K0 := hx.cell h0; have K1 := hx.cell h1
          have EW := Lib.hid hx
          have lw := hw.ext (HXX.out.trans hx)
          have hj := tokensOf_append HK.out (r := t.data.toList)
          rw [← rows_join, HL.out] at hj
          have hC := HC.out; have hT := HT.out
          clear f0 f1 g0 g1 h0 h1 HC HT hx
          cases htk : tokensOf t.data.toList with
          | error e =>
            have hel := tokensOf_error htk
            rw [HLT.out] at hel
            rw [htk] at hj hT
            rw [hj] at hC
            have q2 := H2.out.symm.trans hT
            have q3 := H3.out.symm.trans hC
            simp only [Prod.mk.injEq, joinRes] at q2 q3
            obtain ⟨rfl, rfl, rfl⟩ := q2
            obtain ⟨rfl, rfl, rfl⟩ := q3
            clear H1 H2 H3 hC hT hj htk HK HCC HB HA EA EB EC
            go_wp2_with fail
            refine (lex_wakes _ lw).mono ?_; rintro e w4 ⟨rfl, hx⟩
            go_wp2
            go_ret
            exact ⟨rfl, HXX.out.trans (EW.out.trans hx)⟩
          | ok b =>
            have htl := tokensOf_lies htk
            rw [htk] at hj hT
            rw [hj] at hC
            have q2 := H2.out.symm.trans hT
            have q3 := H3.out.symm.trans hC
            simp only [Prod.mk.injEq, joinRes] at q2 q3
            obtain ⟨rfl, rfl, rfl⟩ := q2
            obtain ⟨rfl, rfl, rfl⟩ := q3
            have HTL := Lib.hid htl
            clear H1 H2 H3 hC hT hj htk HK htl
            have hlen : (a ++ t2.map (tokShift (s.size + 1))).length = a.length + t2.length := by rw [List.length_append, List.length_map]
            rw [hlen] at la3
            go_wp2_with fail
            simp only [hlen]
            go_loopw [13] (fun i wr => ∃ k : Nat, k ≤ a.length + t2.length ∧ i = .int .i64 k ∧ Ext W0 wr) (fun i _ => a.length + t2.length - (intOf i).toNat)
            case atStart => exact ⟨0, by omega, rfl, EW.out⟩
            case round =>
              clear G0 G1 K0 K1 EW lw
              obtain ⟨k, hk, rfl, hx⟩ := hrel
              by_cases hlt : k < a.length
              · have hxk : a[k]? = some a[k] := List.getElem?_eq_getElem hlt
                have hyk : (a ++ t2.map (tokShift (s.size + 1)))[k]? = some a[k] := by rw [List.getElem?_append_left hlt, hxk]
                obtain ⟨g, rfl, q0, q1, q2⟩ := HA.out k _ hxk
                obtain ⟨g3, rfl, r0, r1, r2⟩ := HCC.out k _ hyk
                generalize a[k] = x at *
                obtain ⟨xk, xt, xp⟩ := x
                dsimp only at q0 q1 q2 r0 r1 r2
                have P0 := hx.cell (EA.out.cell q0); have P1 := hx.cell (EA.out.cell q1); have P2 := hx.cell (EA.out.cell q2)
                have R0 := hx.cell (EC.out.cell r0); have R1 := hx.cell (EC.out.cell r1); have R2 := hx.cell (EC.out.cell r2)
                have i1 : (k : Int) < (a.length : Int) := by omega
                have i2 : (k : Int) < (a.length : Int) + (t2.length : Int) := by omega
                have i3 : (k : Int) < ((a.length + t2.length : Nat) : Int) := by omega
                clear q0 q1 q2 r0 r1 r2 hxk hyk
                have PA0 := (Ext.alloc wr (.cells #[.int .i64 0, .string ⟨#[]⟩, .int .i64 0] 39)).cell P0
                have PA1 := (Ext.alloc wr (.cells #[.int .i64 0, .string ⟨#[]⟩, .int .i64 0] 39)).cell P1
                have PA2 := (Ext.alloc wr (.cells #[.int .i64 0, .string ⟨#[]⟩, .int .i64 0] 39)).cell P2
                go_wp2_with fail
                obtain ⟨b0, b1, b2, _, _, _, b3⟩ := own3 (Ext.refl (wr.alloc (.cells #[.int .i64 (xk : Nat), .string (strOf xt), .int .i64 (xp : Nat)] 39)))
                have e1 := Ext.alloc wr (.cells #[.int .i64 (xk : Nat), .string (strOf xt), .int .i64 (xp : Nat)] 39)
                have S0 := e1.cell R0; have S1 := e1.cell R1; have S2 := e1.cell R2
                have ew := Lib.hid (hx.trans e1)
                generalize wr.alloc (.cells #[.int .i64 (xk : Nat), .string (strOf xt), .int .i64 (xp : Nat)] 39) = W1 at *
                clear P0 P1 P2 PA0 PA1 PA2 R0 R1 R2 e1
                clear hs ht hms hmt hbig hx hw
                go_big_quiet (fail)
                go_wp2
                exact ⟨⟨k + 1, by omega, by go_num, ew.out.trans (Ext.drewN _ _)⟩, by simp [intOf]; omega⟩
              · obtain ⟨j, rfl⟩ : ∃ j, k = a.length + j := ⟨k - a.length, by omega⟩
                by_cases hjl : j < t2.length
                · have hxk : t2[j]? = some t2[j] := List.getElem?_eq_getElem hjl
                  have hyk : (a ++ t2.map (tokShift (s.size + 1)))[a.length + j]? = some (tokShift (s.size + 1) t2[j]) := by
                    rw [List.getElem?_append_right (by omega), List.getElem?_map, show a.length + j - a.length = j by omega, hxk]; rfl
                  have hxp := (HTL.out t2[j] (List.getElem_mem hjl)).1
                  rw [HLT.out] at hxp
                  obtain ⟨g, rfl, q0, q1, q2⟩ := HB.out j _ hxk
                  obtain ⟨g3, rfl, r0, r1, r2⟩ := HCC.out (a.length + j) _ hyk
                  generalize t2[j] = x at *
                  obtain ⟨xk, xt, xp⟩ := x
                  simp only [tokShift] at q0 q1 q2 r0 r1 r2 hxp
                  have P0 := hx.cell (EB.out.cell q0); have P1 := hx.cell (EB.out.cell q1); have P2 := hx.cell (EB.out.cell q2)
                  have R0 := hx.cell (EC.out.cell r0); have R1 := hx.cell (EC.out.cell r1); have R2 := hx.cell (EC.out.cell r2)
                  clear q0 q1 q2 r0 r1 r2 hxk hyk
                  have PA0 := (Ext.alloc wr (.cells #[.int .i64 0, .string ⟨#[]⟩, .int .i64 0] 39)).cell P0
                  have PA1 := (Ext.alloc wr (.cells #[.int .i64 0, .string ⟨#[]⟩, .int .i64 0] 39)).cell P1
                  have PA2 := (Ext.alloc wr (.cells #[.int .i64 0, .string ⟨#[]⟩, .int .i64 0] 39)).cell P2
                  go_wp2_with fail
                  obtain ⟨b0, b1, b2, _, _, _, b3⟩ := own3 (Ext.refl (wr.alloc (.cells #[.int .i64 (xk : Nat), .string (strOf xt), .int .i64 ((xp : Int) + ((s.size : Int) + 1))] 39)))
                  have e1 := Ext.alloc wr (.cells #[.int .i64 (xk : Nat), .string (strOf xt), .int .i64 ((xp : Int) + ((s.size : Int) + 1))] 39)
                  have S0 := e1.cell R0; have S1 := e1.cell R1; have S2 := e1.cell R2
                  have ew := Lib.hid (hx.trans e1)
                  generalize wr.alloc (.cells #[.int .i64 (xk : Nat), .string (strOf xt), .int .i64 ((xp : Int) + ((s.size : Int) + 1))] 39) = W1 at *
                  clear P0 P1 P2 PA0 PA1 PA2 R0 R1 R2 e1
                  rw [show ((xp + (s.size + 1) : Nat) : Int) = (xp : Int) + ((s.size : Int) + 1) by omega] at S2
                  have i7 : ((a.length + j : Nat) : Int) < ((a.length + t2.length : Nat) : Int) := by omega
                  clear hms hmt hx hw
                  go_big_quiet (fail)
                  go_wp2
                  exact ⟨⟨a.length + j + 1, by omega, by go_num, ew.out.trans (Ext.drewN _ _)⟩, by simp [intOf]; omega⟩
                · obtain rfl : j = t2.length := by omega
                  have EX := Lib.hid hx
                  have lw := hw.ext (HXX.out.trans hx)
                  clear hx
                  go_wp2_with fail
                  refine (lex_wakes _ lw).mono ?_; rintro e w4 ⟨rfl, hx⟩
                  go_wp2
                  go_ret
                  exact ⟨rfl, HXX.out.trans (EX.out.trans hx)⟩
end Go.Proofs.YtdkmakdlojlacaaDoor
