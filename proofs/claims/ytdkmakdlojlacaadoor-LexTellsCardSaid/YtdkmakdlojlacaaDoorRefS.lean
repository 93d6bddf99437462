/- The walks of the document's one, IsName, IsCon. -/
import Derived.Test.YtdkmakdlojlacaaDoorRefT
import Derived.Test.YtdkmakdlojlacaaDoorLexY
namespace Go.Proofs.YtdkmakdlojlacaaDoor
open Go.RowKit Lex
set_option maxHeartbeats 4000000
set_option maxRecDepth 100000
def oneOf (l : List UInt8) (k : Nat) (ts : List Tok) : Bool :=
  match ts with
  | [x] => decide (x.1 = k) && (decide (x.2.1 = l) && decide (x.2.2 = 0))
  | _ => false
theorem oneTok_res {l : List UInt8} {k E A : Nat} {ts : List Tok} (hl : l.length ≤ 2000) (h : tokensRes l = (E, A, ts)) : oneTok l k = oneOf l k ts := by
  unfold tokensRes at h
  rw [if_neg (by omega)] at h
  unfold oneTok
  cases ht : tokensOf l with
  | ok u =>
    rw [ht] at h
    simp only [Prod.mk.injEq] at h
    obtain ⟨_, _, rfl⟩ := h
    cases u with
    | nil => rfl
    | cons x u => cases u <;> rfl
  | error e =>
    rw [ht] at h
    simp only [Prod.mk.injEq] at h
    obtain ⟨_, _, rfl⟩ := h
    rfl
theorem one_is {s : ByteArray} {k : Nat} {b : Bool} {w : World} (hs : s.size ≤ 2000) (hk : k ≤ 6) (h : oneTok s.data.toList k = b) : Calls Tryd.prog 30 #[.string s, .int .i64 k] w fun e w' => e = .returned (.bool b) ∧ Ext w w' := by
  have HL := Lib.hid (str_length s)
  obtain ⟨E, A, ts, hres⟩ : ∃ E A ts, tokensRes s.data.toList = (E, A, ts) := ⟨_, _, _, rfl⟩
  rw [oneTok_res (by rw [HL.out]; exact hs) hres] at h
  have HR := Lib.hid hres
  clear hres
  by_cases hl : ts.length = 1
  · obtain ⟨x, rfl⟩ : ∃ x, ts = [x] := List.length_eq_one_iff.1 hl
    clear hl
    obtain ⟨xk, xt, xp⟩ := x
    have hb : b = (decide (xk = k) && (decide (xt = s.data.toList) && decide (xp = 0))) := h.symm
    have hst : ((strOf xt).toList == s.toList) = decide (xt = s.data.toList) := by
      rw [str_beq_lit, strOf_list, ByteArray.toList_eq]
    clear h
    go_enter Tryd.func30, Tryd.ntmps30
    go_wp2_with fail
    refine (tokensRef_is (by omega) HR.out).mono ?_; rintro e w1 ⟨v, rfl, hx, hr⟩
    obtain ⟨g, c, rfl, hg, hc, hm, hcell⟩ := hr.shape (by simp)
    obtain ⟨c0, c1, c2⟩ := hcell 0 _ rfl
    simp only [Nat.mul_zero, Nat.zero_add] at c0 c1 c2
    have ea := Ext.alloc w1 (.cells #[.slice (some ⟨g, 0, none⟩) 1 c, .int .i64 E, .int .i64 A] 30)
    have d0 := ea.cell c0; have d1 := ea.cell c1; have d2 := ea.cell c2
    have HX := Lib.hid (hx.trans ea)
    clear hr hcell hx ea c0 c1 c2
    by_cases h1 : xk = k
    · have b1 : ((xk : Int) == (k : Int)) = true := by simp [h1]
      by_cases h2 : xt = s.data.toList
      · rw [decide_eq_true h2] at hst
        by_cases h3 : xp = 0
        · have hbb : b = true := by rw [hb, h1, h2, h3]; simp
          subst hbb; subst h3
          clear h2 hb
          subst h1
          go_wp2_with fail
          go_ret
          exact ⟨rfl, HX.out⟩
        · have hbb : b = false := by rw [hb]; simp [h3]
          subst hbb
          have b3 : ((xp : Int) == 0) = false := beq_false_of_ne (by omega)
          clear h2 hb
          subst h1
          go_wp2_with fail
          go_ret
          exact ⟨rfl, HX.out⟩
      · have hbb : b = false := by rw [hb]; simp [h2]
        rw [decide_eq_false h2] at hst
        subst hbb
        clear h2 hb
        subst h1
        go_wp2_with fail
        go_ret
        exact ⟨rfl, HX.out⟩
    · have b1 : ((xk : Int) == (k : Int)) = false := beq_false_of_ne (by omega)
      have hbb : b = false := by rw [hb]; simp [h1]
      subst hbb
      clear hb hst h1
      go_wp2_with fail
      go_ret
      exact ⟨rfl, HX.out⟩
  · have hbb : b = false := by
      rw [← h]
      cases ts with
      | nil => rfl
      | cons x u =>
        cases u with
        | nil => exact absurd rfl hl
        | cons y u => rfl
    subst hbb
    have b1 : ((ts.length : Int) == 1) = false := beq_false_of_ne (by omega)
    clear h
    go_enter Tryd.func30, Tryd.ntmps30
    go_wp2_with fail
    refine (tokensRef_is (by omega) HR.out).mono ?_; rintro e w1 ⟨v, rfl, hx, hr⟩
    obtain ⟨va, vc, rfl, hvc, hvm⟩ := hr.len
    have HX := Lib.hid (hx.trans (Ext.alloc w1 (.cells #[.slice va ts.length vc, .int .i64 E, .int .i64 A] 30)))
    clear hr hx hl
    go_wp2_with fail
    go_ret
    exact ⟨rfl, HX.out⟩
theorem isNameRef_is {s : ByteArray} {b : Bool} {w : World} (hs : s.size ≤ 2000) (h : isKind s.data.toList 1 = b) : Calls Tryd.prog 16 #[.string s] w fun e w' => e = .returned (.bool b) ∧ Ext w w' := by
  have HB := Lib.hid ((oneTok_kind (.inl rfl)).trans h)
  go_enter Tryd.func16, Tryd.ntmps16
  go_wp2_with fail
  refine (one_is (k := 1) hs (by omega) HB.out).mono ?_; rintro e w1 ⟨rfl, hx⟩
  go_wp2_with fail
  go_ret
  exact ⟨rfl, hx⟩
theorem isConRef_is {s : ByteArray} {b : Bool} {w : World} (hs : s.size ≤ 2000) (h : isKind s.data.toList 2 = b) : Calls Tryd.prog 18 #[.string s] w fun e w' => e = .returned (.bool b) ∧ Ext w w' := by
  have HB := Lib.hid ((oneTok_kind (.inr rfl)).trans h)
  go_enter Tryd.func18, Tryd.ntmps18
  go_wp2_with fail
  refine (one_is (k := 2) hs (by omega) HB.out).mono ?_; rintro e w1 ⟨rfl, hx⟩
  go_wp2_with fail
  go_ret
  exact ⟨rfl, hx⟩
end Go.Proofs.YtdkmakdlojlacaaDoor
