/- The walk of keep.Tokens. -/
import Derived.Test.YtdkmakdlojlacaaDoorLexX
namespace Go.Proofs.YtdkmakdlojlacaaDoor
open Go.RowKit Lex
/-- a slice that reads as tokens, wherever it lies -/
def TokSl (w : World) (v : Value) (ts : List Tok) : Prop := (ts = [] ∧ ∃ a c, v = .slice a 0 c) ∨
  ∃ b off c, v = .slice (some ⟨b, off, none⟩) ts.length c ∧ ts.length ≤ c ∧ c ≤ maxLen ∧
    ∀ (i : Nat) (x : Tok), ts[i]? = some x → w.cell? ⟨b, off + 3 * i, none⟩ = some (.int .i64 x.1) ∧ w.cell? ⟨b, off + 3 * i + 1, none⟩ = some (.string (strOf x.2.1)) ∧ w.cell? ⟨b, off + 3 * i + 2, none⟩ = some (.int .i64 x.2.2)
theorem TokRow.sl {w : World} {base : Nat} {v : Value} {ts : List Tok} (h : TokRow w base v ts) : TokSl w v ts := by
  by_cases he : ts = []
  · obtain ⟨a, c, hv, _⟩ := h.len
    subst he
    exact .inl ⟨rfl, a, c, hv⟩
  · obtain ⟨g, c, hv, _, h1, h2, hc⟩ := h.shape he
    exact .inr ⟨g, 0, c, hv, h1, h2, fun i x hx => by simpa using hc i x hx⟩
theorem TokSl.ext {w w' : World} {v : Value} {ts : List Tok} (h : TokSl w v ts) (e : Ext w w') : TokSl w' v ts := by
  rcases h with h | ⟨b, off, c, hv, h1, h2, hc⟩
  · exact .inl h
  · exact .inr ⟨b, off, c, hv, h1, h2, fun i x hx => ⟨e.cell (hc i x hx).1, e.cell (hc i x hx).2.1, e.cell (hc i x hx).2.2⟩⟩
theorem TokSl.len {w : World} {v : Value} {ts : List Tok} (h : TokSl w v ts) : ∃ a c, v = .slice a ts.length c := by
  rcases h with ⟨h, a, c, hv⟩ | ⟨b, off, c, hv, _⟩
  · exact ⟨a, c, by rw [hv, h]; rfl⟩
  · exact ⟨_, c, hv⟩
theorem strOf_inj {a b : List UInt8} (h : strOf a = strOf b) : a = b := by
  have := congrArg (fun s => s.data.toList) h
  simpa [strOf] using this
set_option maxHeartbeats 2000000
theorem keep_tokens (w : World) (va vb : Value) (a b : List Tok) (ha : TokSl w va a) (hb : TokSl w vb b) (hla : a.length ≤ 4000000000) :
    Calls Tryd.prog 14 #[va, vb] w fun e w' => e = .returned (.bool (decide (a = b))) ∧ Ext w w' := by
  by_cases hl : a.length = b.length
  · by_cases h0 : a.length = 0
    · obtain rfl : a = [] := List.length_eq_zero_iff.1 h0
      obtain rfl : b = [] := List.length_eq_zero_iff.1 (by rw [← hl]; rfl)
      obtain ⟨pa, ca, rfl⟩ := ha.len
      obtain ⟨pb, cb, rfl⟩ := hb.len
      clear hl h0
      go_enter Tryd.func14, Tryd.ntmps14
      go_wp2
      refine wp_loop_rounds 1 ?_
      rw [rounds_succ]
      go_wp2
      go_ret
      exact ⟨by simp, Ext.refl _⟩
    · rcases ha with ⟨he, _⟩ | ⟨ba, oa, ca, rfl, a1, a2, hca⟩
      · exact absurd (by rw [he]; rfl) h0
      rcases hb with ⟨he, _⟩ | ⟨bb, ob, cb, rfl, b1, b2, hcb⟩
      · exact absurd (by rw [hl, he]; rfl) h0
      have hlb := hl.symm
      have HL := Lib.hid hlb
      rw [hlb] at b1 ⊢
      have HA := Lib.hid hca; have HB := Lib.hid hcb
      unfold maxLen at a2 b2
      clear hl hlb hca hcb h0
      go_enter Tryd.func14, Tryd.ntmps14
      go_wp2
      go_loopw [5] (fun i wr => ∃ k : Nat, k ≤ a.length ∧ i = .int .i64 k ∧ a.take k = b.take k ∧ Ext w wr) (fun i _ => a.length - (intOf i).toNat)
      case atStart => exact ⟨0, by omega, rfl, rfl, Ext.refl _⟩
      case round =>
        obtain ⟨k, hk, rfl, htk, hx⟩ := hrel
        have HT := Lib.hid htk
        clear htk
        by_cases hlt : k < a.length
        · have hltb : k < b.length := by rw [HL.out]; exact hlt
          obtain ⟨p0, p1, p2⟩ := HA.out k a[k] (by rw [List.getElem?_eq_getElem hlt])
          obtain ⟨q0, q1, q2⟩ := HB.out k b[k] (by rw [List.getElem?_eq_getElem hltb])
          have P0 := hx.cell p0; have P1 := hx.cell p1; have P2 := hx.cell p2
          have Q0 := hx.cell q0; have Q1 := hx.cell q1; have Q2 := hx.cell q2
          clear p0 p1 p2 q0 q1 q2
          rw [Nat.mul_comm] at P0 P1 P2 Q0 Q1 Q2
          have HX := Lib.hid (show a[k] = b[k] → a.take (k + 1) = b.take (k + 1) by intro e; rw [List.take_succ_eq_append_getElem hlt, List.take_succ_eq_append_getElem hltb, e, HT.out])
          have HY := Lib.hid (show a[k] ≠ b[k] → decide (a = b) = false by intro e; exact decide_eq_false (fun h => e (by subst h; rfl)))
          generalize a[k] = x at *
          generalize b[k] = y at *
          obtain ⟨xk, xt, xp⟩ := x
          obtain ⟨yk, yt, yp⟩ := y
          dsimp only at P0 P1 P2 Q0 Q1 Q2
          have i1 : (k : Int) < (a.length : Int) := by omega
          by_cases hxy : xk = yk ∧ xt = yt ∧ xp = yp
          · obtain ⟨rfl, rfl, rfl⟩ := hxy
            go_wp2
            go_quiet (fail)
            go_wp2
            exact ⟨⟨k + 1, by omega, by go_num, HX.out (by first | trivial | rfl), hx.trans (Ext.drewN _ _)⟩, by simp [intOf]; omega⟩
          · have hres := HY.out (by intro e; simp only [Prod.mk.injEq] at e; exact hxy e)
            have hst : ¬ xt = yt → ((strOf xt).toList == (strOf yt).toList) = false := by
              intro h; rw [ByteArray.toList_eq, ByteArray.toList_eq]
              exact beq_false_of_ne h
            have HRS := Lib.hid hres
            clear hres
            by_cases h1 : xk = yk
            · by_cases h2 : xt = yt
              · have h3 : ((xp : Int) == (yp : Int)) = false := beq_false_of_ne (by intro e; exact hxy ⟨h1, h2, by omega⟩)
                subst h1; subst h2
                clear hst hxy
                go_wp2
                go_quiet (fail)
                go_wp2
                go_ret
                rw [HRS.out]
                exact ⟨rfl, hx.trans (Ext.drewN _ _)⟩
              · have h3 := hst h2
                subst h1
                clear hst hxy h2
                go_wp2
                go_quiet (fail)
                go_wp2
                go_ret
                rw [HRS.out]
                exact ⟨rfl, hx.trans (Ext.drewN _ _)⟩
            · have h3 : ((xk : Int) == (yk : Int)) = false := beq_false_of_ne (by omega)
              clear hst hxy h1
              go_wp2
              go_quiet (fail)
              go_wp2
              go_ret
              rw [HRS.out]
              exact ⟨rfl, hx.trans (Ext.drewN _ _)⟩
        · have hres : decide (a = b) = true := by
            obtain rfl : k = a.length := by omega
            have := HT.out
            rw [List.take_length, ← HL.out, List.take_length] at this
            exact decide_eq_true this
          have HRS := Lib.hid hres
          clear hres
          go_wp2
          go_ret
          rw [HRS.out]
          exact ⟨rfl, hx⟩
  · obtain ⟨pa, ca, rfl⟩ := ha.len
    obtain ⟨pb, cb, rfl⟩ := hb.len
    have hne : decide (a = b) = false := decide_eq_false (fun e => hl (by rw [e]))
    have HN := Lib.hid hne
    have hb' : ((a.length : Int) == (b.length : Int)) = false := beq_false_of_ne (by omega)
    clear hne hl
    go_enter Tryd.func14, Tryd.ntmps14
    go_wp2
    go_ret
    rw [HN.out]
    exact ⟨rfl, Ext.refl _⟩
end Go.Proofs.YtdkmakdlojlacaaDoor
