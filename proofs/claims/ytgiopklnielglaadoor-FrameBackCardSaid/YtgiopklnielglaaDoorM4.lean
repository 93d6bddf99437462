/- Proved here: the contracts and laws of ObjA, ObjB, ObjC, BitsP, ObjD, ObjE, ObjF, PieceP, ObjG, ObjH, ObjI, RefaA of this claim, each beneath its own remark; conditions: those that each theorem names. -/
import Derived.Test.YtgiopklnielglaaDoorProg
import Derived.Test.YtgiopklnielglaaDoorM3
import Derived.Test.YtgiopklnielglaaDoorM2
import Derived.Test.YtgiopklnielglaaDoorM1
import Derived.Deep.QuietTactic
import Derived.BigQuiet
import Derived.WalkKit
import Derived.Laws.BitsAllLaws
import Derived.Deep.CutBlock
import Derived.Deep.RegionHeld3
import Derived.Deep.AppendLies
import Derived.Deep.DrawnRows
/- Kinds of objects: may one be, how many words. -/
namespace Go.Proofs.YtgiopklnielglaaDoor
open Go.RowKit
set_option maxHeartbeats 4000000
set_option maxRecDepth 100000
theorem hsb (s : ByteArray) : s.toList.isEmpty = true ↔ s.size = 0 := by
  rw [ByteArray.toList_eq]; obtain ⟨⟨l⟩⟩ := s; simp [ByteArray.size]
theorem hsb_ne {s : ByteArray} (h : ¬ s.size = 0) : s.toList.isEmpty = false := by
  cases hh : s.toList.isEmpty with
  | false => rfl
  | true => exact absurd (hsb s |>.1 hh) h
theorem empty_of {s : ByteArray} (h : s.size = 0) : s = ByteArray.empty := ByteArray.size_eq_zero_iff.1 h
theorem row_may (l mo n c : Nat) (top kd tg : Int) (q : Option Addr) (s : ByteArray) (w : World) (_hl : l ≤ 400) (_hmo : mo ≤ 400) (_hn : n ≤ 9223372036854775807) : Calls Tryd.prog 110 #[.agg #[.int .i64 l, .int .i64 mo, .int .i64 top], .agg #[.int .i64 kd, .int .i64 tg, .slice q n c, .string s]] w fun e w' => e = .returned (.bool (rowB tg n s.size l mo top)) ∧ Ext w w' := by
  by_cases h1 : 0 ≤ tg
  · by_cases h2 : tg ≤ top
    · by_cases h3 : l ≤ n
      · by_cases h4 : n ≤ mo
        · by_cases h5 : s.size = 0
          · obtain rfl := empty_of h5
            have hb : rowB tg n ByteArray.empty.size l mo top = true := by unfold rowB; simp [h1, h2, h3, h4]
            rw [hb]
            clear hb h5
            have i3 : (l : Int) ≤ (n : Int) := by omega
            have i4 : (n : Int) ≤ (mo : Int) := by omega
            clear h3 h4
            go_enter Tryd.func110, Tryd.ntmps110
            go_wp2
            go_ret
            exact ⟨by simp <;> omega, (Ext.alloc _ _).trans (Ext.alloc _ _)⟩
          · have hb : rowB tg n s.size l mo top = false := by unfold rowB; simp [h5]
            rw [hb]
            have e5 := hsb_ne h5
            have i3 : (l : Int) ≤ (n : Int) := by omega
            have i4 : (n : Int) ≤ (mo : Int) := by omega
            clear hb h5 h3 h4
            go_enter Tryd.func110, Tryd.ntmps110
            go_wp2
            go_ret
            exact ⟨by simp <;> omega, (Ext.alloc _ _).trans (Ext.alloc _ _)⟩
        · have hb : rowB tg n s.size l mo top = false := by unfold rowB; simp [h4]
          rw [hb]
          have i3 : (l : Int) ≤ (n : Int) := by omega
          have i4 : ¬ (n : Int) ≤ (mo : Int) := by omega
          clear hb h3 h4
          go_enter Tryd.func110, Tryd.ntmps110
          go_wp2
          go_ret
          exact ⟨by simp <;> omega, (Ext.alloc _ _).trans (Ext.alloc _ _)⟩
      · have hb : rowB tg n s.size l mo top = false := by unfold rowB; simp [h3]
        rw [hb]
        have i3 : ¬ (l : Int) ≤ (n : Int) := by omega
        clear hb h3
        go_enter Tryd.func110, Tryd.ntmps110
        go_wp2
        go_ret
        exact ⟨by simp <;> omega, (Ext.alloc _ _).trans (Ext.alloc _ _)⟩
    · have hb : rowB tg n s.size l mo top = false := by unfold rowB; simp [h2]
      rw [hb]
      clear hb
      go_enter Tryd.func110, Tryd.ntmps110
      go_wp2
      go_ret
      exact ⟨by simp <;> omega, (Ext.alloc _ _).trans (Ext.alloc _ _)⟩
  · have hb : rowB tg n s.size l mo top = false := by unfold rowB; simp [h1]
    rw [hb]
    clear hb
    go_enter Tryd.func110, Tryd.ntmps110
    go_wp2
    go_ret
    exact ⟨by simp <;> omega, (Ext.alloc _ _).trans (Ext.alloc _ _)⟩
theorem row_words (a b c' n : Int) (w : World) : Calls Tryd.prog 112 #[.agg #[.int .i64 a, .int .i64 b, .int .i64 c'], .int .i64 n] w fun e w' => e = .returned (.int .i64 n) ∧ Ext w w' := by
  go_enter Tryd.func112, Tryd.ntmps112
  go_wp2
  go_ret
  exact ⟨rfl, Ext.alloc _ _⟩
theorem text_may (kd tg : Int) (n c : Nat) (q : Option Addr) (s : ByteArray) (w : World) : Calls Tryd.prog 113 #[.agg #[], .agg #[.int .i64 kd, .int .i64 tg, .slice q n c, .string s]] w fun e w' => e = .returned (.bool (decide (tg = 0) && decide (n = 0) && decide (s.size ≤ 400))) ∧ Ext w w' := by
  by_cases h1 : tg = 0
  · subst h1
    by_cases h2 : n = 0
    · subst h2
      go_enter Tryd.func113, Tryd.ntmps113
      go_wp2
      go_ret
      exact ⟨by by_cases h : s.size ≤ 400 <;> simp [h] <;> omega, (Ext.alloc _ _).trans (Ext.alloc _ _)⟩
    · have e2 : ((n : Int) == 0) = false := beq_false_of_ne (by omega)
      have hb : (decide ((0 : Int) = 0) && decide (n = 0) && decide (s.size ≤ 400)) = false := by simp [h2]
      rw [hb]
      clear hb h2
      go_enter Tryd.func113, Tryd.ntmps113
      go_wp2
      go_ret
      exact ⟨rfl, (Ext.alloc _ _).trans (Ext.alloc _ _)⟩
  · have e1 : (tg == 0) = false := beq_false_of_ne h1
    have hb : (decide (tg = 0) && decide (n = 0) && decide (s.size ≤ 400)) = false := by simp [h1]
    rw [hb]
    clear hb h1
    go_enter Tryd.func113, Tryd.ntmps113
    go_wp2
    go_ret
    exact ⟨rfl, (Ext.alloc _ _).trans (Ext.alloc _ _)⟩
theorem text_words (n : Nat) (w : World) (hn : n ≤ 400) : Calls Tryd.prog 115 #[.agg #[], .int .i64 n] w fun e w' => e = .returned (.int .i64 (((n + 7) / 8 : Nat) : Int)) ∧ Ext w w' := by
  go_enter Tryd.func115, Tryd.ntmps115
  go_wp2
  go_ret
  refine ⟨?_, Ext.alloc _ _⟩
  show Ending.returned (.int .i64 (((n : Int) + 8 - 1) / 8)) = _
  congr 2
  omega
/-- a kind's value -/
def rowV (l mo top : Int) : Value := .iface 144 (.agg #[.int .i64 l, .int .i64 mo, .int .i64 top])
def textV : Value := .iface 146 (.agg #[])
def ofV (kd : Int) : Value := if kd = 1 then rowV 1 8 255 else if kd = 2 then textV else if kd = 3 then rowV 0 400 0 else if kd = 4 then rowV 0 30 59 else .nilIface
theorem of_is (kd : Int) (w : World) : Calls Tryd.prog 70 #[.int .i64 kd] w fun e w' => e = .returned (ofV kd) ∧ w = w' := by
  unfold ofV rowV textV
  by_cases h1 : kd = 1
  · subst h1
    go_enter Tryd.func70, Tryd.ntmps70
    go_wp2
    go_ret
    exact ⟨rfl, rfl⟩
  · rw [if_neg h1]
    have e1 : (kd == 1) = false := beq_false_of_ne h1
    by_cases h2 : kd = 2
    · subst h2
      go_enter Tryd.func70, Tryd.ntmps70
      go_wp2
      go_ret
      exact ⟨rfl, rfl⟩
    · rw [if_neg h2]
      have e2 : (kd == 2) = false := beq_false_of_ne h2
      by_cases h3 : kd = 3
      · subst h3
        go_enter Tryd.func70, Tryd.ntmps70
        go_wp2
        go_ret
        exact ⟨rfl, rfl⟩
      · rw [if_neg h3]
        have e3 : (kd == 3) = false := beq_false_of_ne h3
        by_cases h4 : kd = 4
        · subst h4
          go_enter Tryd.func70, Tryd.ntmps70
          go_wp2
          go_ret
          exact ⟨rfl, rfl⟩
        · rw [if_neg h4]
          have e4 : (kd == 4) = false := beq_false_of_ne h4
          clear h1 h2 h3 h4
          go_enter Tryd.func70, Tryd.ntmps70
          go_wp2
          go_ret
          exact ⟨rfl, rfl⟩
theorem mt_may (k : Nat) (w : World) : (method (k + 1) 146 (.agg #[]) "stockpot/object.may").run Tryd.prog w = .ok (113, .agg #[]) w := by kernel_rfl
theorem mt_words (k : Nat) (w : World) : (method (k + 1) 146 (.agg #[]) "stockpot/object.words").run Tryd.prog w = .ok (115, .agg #[]) w := by kernel_rfl
theorem mr_may (a b c : Int) (k : Nat) (w : World) : (method (k + 1) 144 (.agg #[.int .i64 a, .int .i64 b, .int .i64 c]) "stockpot/object.may").run Tryd.prog w = .ok (110, .agg #[.int .i64 a, .int .i64 b, .int .i64 c]) w := by kernel_rfl
theorem mr_words (a b c : Int) (k : Nat) (w : World) : (method (k + 1) 144 (.agg #[.int .i64 a, .int .i64 b, .int .i64 c]) "stockpot/object.words").run Tryd.prog w = .ok (112, .agg #[.int .i64 a, .int .i64 b, .int .i64 c]) w := by kernel_rfl
theorem nt_words (w : World) : (nilAhead (Tryd.prog.types.size + Made.depth) 146 (.agg #[]) "stockpot/object.words").run Tryd.prog w = .ok (some false) w := by kernel_rfl
theorem nr_words (a b c : Int) (w : World) : (nilAhead (Tryd.prog.types.size + Made.depth) 144 (.agg #[.int .i64 a, .int .i64 b, .int .i64 c]) "stockpot/object.words").run Tryd.prog w = .ok (some false) w := by kernel_rfl
end Go.Proofs.YtgiopklnielglaaDoor
/- May an object be; how many words; its head (the program's). -/
namespace Go.Proofs.YtgiopklnielglaaDoor
open Go.RowKit
set_option maxHeartbeats 4000000
set_option maxRecDepth 100000
theorem may_is (kd tg : Int) (n c : Nat) (q : Option Addr) (s : ByteArray) (w : World) (hn : n ≤ 9223372036854775807) : Calls Tryd.prog 71 #[.agg #[.int .i64 kd, .int .i64 tg, .slice q n c, .string s]] w fun e w' => e = .returned (.bool (mayK kd tg n s.size)) ∧ Ext w w' := by
  have hm1 := mt_may
  have hm2 := mr_may
  by_cases h1 : kd = 1
  · subst h1
    have HR := Lib.hid (fun W => row_may 1 8 n c 255 1 tg q s W (by omega) (by omega) hn)
    have hb : mayK 1 tg n s.size = rowB tg n s.size 1 8 255 := rfl
    rw [hb]
    have ho : ofV 1 = .iface 144 (.agg #[.int .i64 1, .int .i64 8, .int .i64 255]) := rfl
    have HO := Lib.hid ho
    clear hb ho hm1
    go_enter Tryd.func71, Tryd.ntmps71
    go_wp2_with fail
    refine (of_is _ _).mono ?_
    rintro e w1 ⟨rfl, rfl⟩
    rw [HO.out]
    go_wp2_with fail
    refine (HR.out _).mono ?_
    rintro e w1 ⟨rfl, hx⟩
    have HX := Lib.hid ((Ext.alloc _ _).trans hx)
    clear hx
    go_wp2
    go_ret
    exact ⟨rfl, HX.out⟩
  · by_cases h2 : kd = 2
    · subst h2
      have HT := Lib.hid (fun W => text_may 2 tg n c q s W)
      have hb : mayK 2 tg n s.size = (decide (tg = 0) && decide (n = 0) && decide (s.size ≤ 400)) := rfl
      have HO := Lib.hid (show ofV 2 = .iface 146 (.agg #[]) from rfl)
      rw [hb]
      generalize (decide (tg = 0) && decide (n = 0) && decide (s.size ≤ 400)) = bb at HT ⊢
      clear hb hm2 h1
      go_enter Tryd.func71, Tryd.ntmps71
      go_wp2_with fail
      refine (of_is _ _).mono ?_
      rintro e w1 ⟨rfl, rfl⟩
      rw [HO.out]
      go_wp2_with fail
      refine (HT.out _).mono ?_
      rintro e w1 ⟨rfl, hx⟩
      have HX := Lib.hid ((Ext.alloc _ _).trans hx)
      clear hx
      go_wp2
      go_ret
      exact ⟨rfl, HX.out⟩
    · by_cases h3 : kd = 3
      · subst h3
        have HR := Lib.hid (fun W => row_may 0 400 n c 0 3 tg q s W (by omega) (by omega) hn)
        have hb : mayK 3 tg n s.size = rowB tg n s.size 0 400 0 := rfl
        rw [hb]
        have ho : ofV 3 = .iface 144 (.agg #[.int .i64 0, .int .i64 400, .int .i64 0]) := rfl
        have HO := Lib.hid ho
        clear hb ho hm1
        go_enter Tryd.func71, Tryd.ntmps71
        go_wp2_with fail
        refine (of_is _ _).mono ?_
        rintro e w1 ⟨rfl, rfl⟩
        rw [HO.out]
        go_wp2_with fail
        refine (HR.out _).mono ?_
        rintro e w1 ⟨rfl, hx⟩
        have HX := Lib.hid ((Ext.alloc _ _).trans hx)
        clear hx
        go_wp2
        go_ret
        exact ⟨rfl, HX.out⟩
      · by_cases h4 : kd = 4
        · subst h4
          have HR := Lib.hid (fun W => row_may 0 30 n c 59 4 tg q s W (by omega) (by omega) hn)
          have hb : mayK 4 tg n s.size = rowB tg n s.size 0 30 59 := rfl
          rw [hb]
          have ho : ofV 4 = .iface 144 (.agg #[.int .i64 0, .int .i64 30, .int .i64 59]) := rfl
          have HO := Lib.hid ho
          clear hb ho hm1
          go_enter Tryd.func71, Tryd.ntmps71
          go_wp2_with fail
          refine (of_is _ _).mono ?_
          rintro e w1 ⟨rfl, rfl⟩
          rw [HO.out]
          go_wp2_with fail
          refine (HR.out _).mono ?_
          rintro e w1 ⟨rfl, hx⟩
          have HX := Lib.hid ((Ext.alloc _ _).trans hx)
          clear hx
          go_wp2
          go_ret
          exact ⟨rfl, HX.out⟩
        · have hb : mayK kd tg n s.size = false := by unfold mayK; rw [if_neg h1, if_neg h2, if_neg h3, if_neg h4]
          have ho : ofV kd = .nilIface := by unfold ofV; rw [if_neg h1, if_neg h2, if_neg h3, if_neg h4]
          have HO := Lib.hid ho
          rw [hb]
          clear h1 h2 h3 h4 hb ho hm1 hm2
          go_enter Tryd.func71, Tryd.ntmps71
          go_wp2_with fail
          refine (of_is _ _).mono ?_
          rintro e w1 ⟨rfl, rfl⟩
          rw [HO.out]
          go_wp2
          go_ret
          exact ⟨rfl, Ext.alloc _ _⟩
end Go.Proofs.YtgiopklnielglaaDoor
/- How many words an object takes; its head (the program's). -/
namespace Go.Proofs.YtgiopklnielglaaDoor
open Go.RowKit
set_option maxHeartbeats 4000000
set_option maxRecDepth 100000
/-- the check ahead of a method's call through an interface -/
theorem quiet_nil_method {P : Program} {C : World → Prop} {a : Act} {o : Oper} {K : Act → Prop} (x : Operand) (ho : o.op = .nilCheck x) {name : String} {t : TypeId} {v : Value} {cap : Array Value} (hv : a.eval x = .func (.method name) #[.iface t v] cap)
    (hn : ∀ w, (nilAhead (P.types.size + Made.depth) t v name).run P w = .ok (some false) w) (hk : K (a.put o.dst (.func (.method name) #[.iface t v] cap))) : o.quiet P a C K :=
  ⟨_, fun w _ => by
    have h : (execOp a.eval o).run P w = .ok (.value (.func (.method name) #[.iface t v] cap)) w := by
      simp [execOp, ho, hv, hn]
    unfold Oper.quietAt
    rw [h]
    exact ⟨rfl, rfl⟩, hk⟩
end Go.Proofs.YtgiopklnielglaaDoor
/- Bits of words: parts that lie apart, joined. -/
namespace Go.Proofs.YtgiopklnielglaaDoor
open Go
theorem or_apart (i a b : Nat) (ha : a < 2 ^ i) (hb : b % 2 ^ i = 0) (ha2 : a < 18446744073709551616) (hb2 : b < 18446744073709551616) : bits .or .u64 (a : Int) (b : Int) = ((a + b : Nat) : Int) := by
  rw [u64_or_nat a b ha2 hb2, Nat.or_comm, nat_join i b a hb ha, Nat.add_comm]
theorem or_apart' (i a b : Nat) (ha : a < 2 ^ i) (hb : b % 2 ^ i = 0) (ha2 : a < 18446744073709551616) (hb2 : b < 18446744073709551616) : bits .or .u64 (b : Int) (a : Int) = ((a + b : Nat) : Int) := by
  rw [u64_or_nat b a hb2 ha2, nat_join i b a hb ha, Nat.add_comm]
theorem head_or (kd tg : Int) (n : Nat) (h1 : 0 ≤ kd) (h2 : kd < 256) (h3 : 0 ≤ tg) (h4 : tg < 16777216) (h5 : n ≤ 4294967295) :
    bits .or .u64 (bits .or .u64 kd (tg * 256)) ((n : Int) * 4294967296) = kd + 256 * tg + 4294967296 * (n : Int) := by
  obtain ⟨a, rfl⟩ := Int.eq_ofNat_of_zero_le h1
  obtain ⟨b, rfl⟩ := Int.eq_ofNat_of_zero_le h3
  rw [show ((b : Int) * 256) = ((b * 256 : Nat) : Int) by omega, or_apart 8 a (b * 256) (by omega) (by omega) (by omega) (by omega), show ((n : Int) * 4294967296) = ((n * 4294967296 : Nat) : Int) by omega,
    or_apart 32 (a + b * 256) (n * 4294967296) (by omega) (by omega) (by omega) (by omega)]
  omega
end Go.Proofs.YtgiopklnielglaaDoor
/- An object's head (the program's). -/
namespace Go.Proofs.YtgiopklnielglaaDoor
open Go.RowKit
set_option maxHeartbeats 4000000
set_option maxRecDepth 100000
end Go.Proofs.YtgiopklnielglaaDoor
/- The reference's: may an object be, how many words, its head. -/
namespace Go.Proofs.YtgiopklnielglaaDoor
open Go.RowKit
set_option maxHeartbeats 4000000
set_option maxRecDepth 100000
end Go.Proofs.YtgiopklnielglaaDoor
/- Words: numbers, places. -/
namespace Go.Proofs.YtgiopklnielglaaDoor
open Go.RowKit
set_option maxHeartbeats 4000000
set_option maxRecDepth 100000
/-- a number of 64 bits -/
def W64 (x : Int) : Prop := 0 ≤ x ∧ x < 18446744073709551616
theorem and_one {x : Int} (h : W64 x) : bits .and .u64 x 1 = x % 2 := by
  obtain ⟨n, rfl⟩ := Int.eq_ofNat_of_zero_le h.1
  rw [show (1 : Int) = ((1 : Nat) : Int) from rfl, u64_and_nat n 1 (by have := h.2; omega) (by decide), Nat.and_one_is_mod]
  omega
theorem isInt_is {x : Int} (hx : W64 x) (w : World) : Calls Tryd.prog 48 #[.int .u64 x] w fun e w' => e = .returned (.bool (isIntW x)) ∧ w = w' := by
  have ha := and_one hx
  have hb : ((x % 2) == 1) = isIntW x := by unfold isIntW; rw [Bool.eq_iff_iff]; simp
  go_enter Tryd.func48, Tryd.ntmps48
  go_wp2
  go_ret
  exact ⟨by first | rfl | simp [ha, hb], rfl⟩
theorem at_is {x : Int} (hx : W64 x) (w : World) : Calls Tryd.prog 49 #[.int .u64 x] w fun e w' => e = .returned (if isIntW x = true ∨ 4294967296 ≤ x / 2 then .tuple #[.int .i64 0, .bool false] else .tuple #[.int .i64 (x / 2), .bool true]) ∧ w = w' := by
  have HI := Lib.hid (fun W => isInt_is hx W)
  cases hi : isIntW x with
  | true =>
    rw [hi] at HI
    rw [if_pos (.inl rfl)]
    clear hi
    go_enter Tryd.func49, Tryd.ntmps49
    go_wp2_with fail
    refine (HI.out _).mono ?_
    rintro e w1 ⟨rfl, rfl⟩
    go_wp2
    go_ret2
    exact ⟨rfl, rfl⟩
  | false =>
    rw [hi] at HI
    clear hi
    obtain ⟨h1, h2⟩ := hx
    by_cases hb : 4294967296 ≤ x / 2
    · have c1 : decide (4294967295 < x / 2) = true := decide_eq_true (by omega)
      rw [if_pos (.inr hb)]
      go_enter Tryd.func49, Tryd.ntmps49
      go_wp2_with fail
      refine (HI.out _).mono ?_
      rintro e w1 ⟨rfl, rfl⟩
      go_wp2
      go_ret2
      exact ⟨rfl, rfl⟩
    · have c1 : decide (4294967295 < x / 2) = false := decide_eq_false (by omega)
      have hc : ¬ (false = true ∨ 4294967296 ≤ x / 2) := by simp; omega
      rw [if_neg hc]
      have b3 : x / 2 < 4294967296 := by omega
      clear hb hc
      go_enter Tryd.func49, Tryd.ntmps49
      go_wp2_with fail
      refine (HI.out _).mono ?_
      rintro e w1 ⟨rfl, rfl⟩
      go_wp2
      go_ret2
      exact ⟨rfl, rfl⟩
end Go.Proofs.YtgiopklnielglaaDoor
/- A text's bytes packed into words, in plain Lean. -/
namespace Go.Proofs.YtgiopklnielglaaDoor
open Go
theorem pk_app (A : List UInt8) (x : UInt8) : pk (A ++ [x]) = pk A + x.toNat * 256 ^ A.length := by
  induction A with
  | nil => simp [pk]
  | cons a A ih =>
    rw [List.cons_append, pk, ih, pk, List.length_cons, Nat.pow_succ, Nat.mul_add, ← Nat.add_assoc]
    congr 1
    rw [Nat.mul_comm 256, Nat.mul_assoc]
theorem pk_lt (A : List UInt8) : pk A < 256 ^ A.length := by
  induction A with
  | nil => simp [pk]
  | cons a A ih =>
    have := a.toNat_lt
    rw [pk, List.length_cons, Nat.pow_succ]
    omega
theorem pieceN_here {s : List UInt8} {k : Nat} {x : UInt8} (hx : s[k]? = some x) : pieceN (s.take (k + 1)) (k / 8) = pieceN (s.take k) (k / 8) + ((x.toNat * 256 ^ (k % 8) : Nat) : Int) ∧ 0 ≤ pieceN (s.take k) (k / 8) ∧ pieceN (s.take k) (k / 8) < ((256 ^ (k % 8) : Nat) : Int) := by
  have hk : k < s.length := (List.getElem?_eq_some_iff.1 hx).1
  have ht : s.take (k + 1) = s.take k ++ [x] := by rw [List.take_succ_eq_append_getElem hk, (List.getElem?_eq_some_iff.1 hx).2]
  have hl : (s.take k).length = k := by rw [List.length_take]; omega
  have hd : (s.take (k + 1)).drop (8 * (k / 8)) = (s.take k).drop (8 * (k / 8)) ++ [x] := by rw [ht, List.drop_append_of_le_length (by omega)]
  have hA : ((s.take k).drop (8 * (k / 8))).length = k % 8 := by rw [List.length_drop, hl]; omega
  have hlt := pk_lt ((s.take k).drop (8 * (k / 8)))
  rw [hA] at hlt
  unfold pieceN
  rw [hd]
  generalize (s.take k).drop (8 * (k / 8)) = A at *
  have hm : k % 8 < 8 := Nat.mod_lt _ (by omega)
  rw [List.take_of_length_le (l := A ++ [x]) (by rw [List.length_append, hA, List.length_singleton]; omega), List.take_of_length_le (l := A) (by rw [hA]; omega), pk_app, hA]
  exact ⟨by simp, by omega, by exact_mod_cast hlt⟩
theorem pieceN_other {s : List UInt8} {k j : Nat} (hk : k < s.length) (hj : j ≠ k / 8) : pieceN (s.take (k + 1)) j = pieceN (s.take k) j := by
  have ht : s.take (k + 1) = s.take k ++ [s[k]] := by rw [List.take_succ_eq_append_getElem hk]
  have hl : (s.take k).length = k := by rw [List.length_take]; omega
  unfold pieceN
  rcases Nat.lt_or_gt_of_ne hj with h | h
  · rw [ht, List.drop_append_of_le_length (by omega), List.take_append_of_le_length (by rw [List.length_drop, hl]; omega)]
  · rw [List.drop_of_length_le (l := s.take (k + 1)) (by rw [List.length_take]; omega), List.drop_of_length_le (l := s.take k) (by rw [List.length_take]; omega)]
theorem pieces_step {s : List UInt8} {k m : Nat} {x : UInt8} (hx : s[k]? = some x) (f : Int → List Value) : (List.range m).map (fun j => f (pieceN (s.take (k + 1)) j)) = ((List.range m).map (fun j => f (pieceN (s.take k) j))).set (k / 8) (f (pieceN (s.take k) (k / 8) + ((x.toNat * 256 ^ (k % 8) : Nat) : Int))) := by
  have hk : k < s.length := (List.getElem?_eq_some_iff.1 hx).1
  apply List.ext_getElem?
  intro i
  rw [List.getElem?_set]
  by_cases hi : k / 8 = i
  · subst hi
    rw [if_pos rfl]
    by_cases hm : k / 8 < m
    · simp [hm, (pieceN_here hx).1]
    · simp [hm]
  · rw [if_neg hi]
    by_cases hm : i < m
    · simp [hm, pieceN_other hk (Ne.symm hi)]
    · simp [hm]
theorem pieceN_nil (j : Nat) : pieceN [] j = 0 := by simp [pieceN, pk]
theorem pieces_start (m : Nat) (f : Int → List Value) (s : List UInt8) : (List.range m).map (fun j => f (pieceN (s.take 0) j)) = List.replicate m (f 0) := by
  rw [List.take_zero]
  simp only [pieceN_nil]
  apply List.ext_getElem?
  intro i
  by_cases hi : i < m <;> simp [hi]
end Go.Proofs.YtgiopklnielglaaDoor
/- A text's words (the program's). -/
namespace Go.Proofs.YtgiopklnielglaaDoor
open Go.RowKit
set_option maxHeartbeats 4000000
set_option maxRecDepth 100000
theorem wrap64_of {x : Int} (h1 : -9223372036854775808 ≤ x) (h2 : x ≤ 9223372036854775807) : IntKind.i64.wrap x = x := by
  simp [IntKind.wrap, IntKind.bits, IntKind.signed]
  omega
theorem keepB {w w' : World} {a : Addr} {v : Value} (h : w.cell? a = some v) (hf : w.frozen? a = false) (e : Ext w w') : w'.cell? a = some v ∧ w'.frozen? a = false ∧ Ext w w' := ⟨e.cell h, (e.frozen h).trans hf, e⟩
theorem wrapu_of {x : Int} (h1 : 0 ≤ x) (h2 : x < 18446744073709551616) : IntKind.u64.wrap x = x := by
  simp [IntKind.wrap, IntKind.bits, IntKind.signed]
  omega
theorem shl_run {P : Program} {b : Nat} (hb : b < 256) : ∀ (r : Nat) (_ : r < 8) (W : World), (Op.shift .shl .u64 (IntKind.u64.wrap (b : Int)) .i64 (IntKind.i64.wrap (8 * (r : Int)))).run P W = .ok (.int .u64 ((b * 256 ^ r : Nat) : Int)) W := by
  intro r hr W
  have e1 : IntKind.u64.wrap (b : Int) = b := by simp [IntKind.wrap, IntKind.bits, IntKind.signed]; omega
  rw [e1, wrap64_of (by omega) (by omega)]
  rcases (show r = 0 ∨ r = 1 ∨ r = 2 ∨ r = 3 ∨ r = 4 ∨ r = 5 ∨ r = 6 ∨ r = 7 by omega) with rfl | rfl | rfl | rfl | rfl | rfl | rfl | rfl <;> simp [go_sem] <;> exact wrapu_of (by omega) (by omega)
theorem or_shl {b r a : Nat} (hb : b < 256) (hr : r < 8) (ha : a < 256 ^ r) : bits .or .u64 (a : Int) ((b * 256 ^ r : Nat) : Int) = (a : Int) + ((b * 256 ^ r : Nat) : Int) := by
  rcases (show r = 0 ∨ r = 1 ∨ r = 2 ∨ r = 3 ∨ r = 4 ∨ r = 5 ∨ r = 6 ∨ r = 7 by omega) with rfl | rfl | rfl | rfl | rfl | rfl | rfl | rfl
  · rw [or_apart 0 a _ (by omega) (by omega) (by omega) (by omega)]; omega
  · rw [or_apart 8 a _ (by omega) (by omega) (by omega) (by omega)]; omega
  · rw [or_apart 16 a _ (by omega) (by omega) (by omega) (by omega)]; omega
  · rw [or_apart 24 a _ (by omega) (by omega) (by omega) (by omega)]; omega
  · rw [or_apart 32 a _ (by omega) (by omega) (by omega) (by omega)]; omega
  · rw [or_apart 40 a _ (by omega) (by omega) (by omega) (by omega)]; omega
  · rw [or_apart 48 a _ (by omega) (by omega) (by omega) (by omega)]; omega
  · rw [or_apart 56 a _ (by omega) (by omega) (by omega) (by omega)]; omega
end Go.Proofs.YtgiopklnielglaaDoor
/- An object's words laid out (the reference's). -/
namespace Go.Proofs.YtgiopklnielglaaDoor
open Go.RowKit
set_option maxHeartbeats 4000000
set_option maxRecDepth 100000
theorem range_succ_map (m : Nat) (f : Nat → List Value) : (List.range (m + 1)).map f = (List.range m).map f ++ [f m] := by rw [List.range_succ, List.map_append]; rfl
end Go.Proofs.YtgiopklnielglaaDoor
/- A text's object laid out (the reference's). -/
namespace Go.Proofs.YtgiopklnielglaaDoor
open Go.RowKit
set_option maxHeartbeats 4000000
set_option maxRecDepth 100000
theorem _root_.Go.RowKit.Below.cellB {B : Nat} {w w' : World} (h : Below B w w') {a : Addr} {v : Value} (ha : a.block < B) (hc : w.cell? a = some v) : w'.cell? a = some v := by
  rw [World.cell?_of_block (w := w) (Below.block h a.block ha)]
  exact hc
theorem shl_val {b r m : Nat} (hb : b < 256) (hr : r < 8) (hm : m = r) : IntKind.u64.wrap (IntKind.u64.wrap (b : Int) * 2 ^ min (8 * m) 64) = ((b * 256 ^ r : Nat) : Int) := by
  subst hm
  rw [wrapu_of (x := (b : Int)) (by omega) (by omega), show min (8 * m) 64 = 8 * m by omega]
  rcases (show m = 0 ∨ m = 1 ∨ m = 2 ∨ m = 3 ∨ m = 4 ∨ m = 5 ∨ m = 6 ∨ m = 7 by omega) with rfl | rfl | rfl | rfl | rfl | rfl | rfl | rfl <;> (rw [wrapu_of (by omega) (by omega)]; omega)
end Go.Proofs.YtgiopklnielglaaDoor
/- The reference's arena in memory; what only reads it. -/
namespace Go.Proofs.YtgiopklnielglaaDoor
open Go.RowKit Go.Maps Arena
set_option maxHeartbeats 4000000
set_option maxRecDepth 100000
/-- the reference's arena: its row, its words, its regions -/
structure RefAt (w : World) (q gq B n : Nat) (ws : List Int) (vR : Value) (R : List (Nat × Nat)) : Prop where
  row : w.heap[q]? = some (.cells #[.slice (some ⟨gq, 0, none⟩) n n, vR] 94 (0, 0))
  words : w.heap[gq]? = some (.cells (ws.map fun x => Value.int .u64 x).toArray 32 (0, 0))
  len : ws.length = n
  regs : PairRow w B vR R
  good : Arena.Good n R
  ne : q ≠ gq
  qB : q < B
  gB : gq < B
  least : n ≤ 20000
theorem RefAt.lt {w : World} {q gq B n : Nat} {ws : List Int} {vR : Value} {R : List (Nat × Nat)} (h : RefAt w q gq B n ws vR R) : q < w.heap.size ∧ gq < w.heap.size :=
  ⟨(Array.getElem?_eq_some_iff.1 h.row).1, (Array.getElem?_eq_some_iff.1 h.words).1⟩
theorem RefAt.turn {w w' : World} {q gq B n : Nat} {ws : List Int} {vR : Value} {R : List (Nat × Nat)} {bs : List Nat} (h : RefAt w q gq B n ws vR R) (t : Turn bs w w') (hq : q ∉ bs) (hg : gq ∉ bs) (hb : ∀ b ∈ bs, b < B) : RefAt w' q gq B n ws vR R := by
  obtain ⟨lq, lg⟩ := h.lt
  exact ⟨by rw [t.block q lq hq]; exact h.row, by rw [t.block gq lg hg]; exact h.words, h.len, h.regs.turn t hb, h.good, h.ne, h.qB, h.gB, h.least⟩
theorem RefAt.ext {w w' : World} {q gq B n : Nat} {ws : List Int} {vR : Value} {R : List (Nat × Nat)} (h : RefAt w q gq B n ws vR R) (e : Ext w w') : RefAt w' q gq B n ws vR R :=
  h.turn (Turn.of_ext (bs := []) e) (by simp) (by simp) (by simp)
theorem RefAt.cells {w : World} {q gq B n : Nat} {ws : List Int} {vR : Value} {R : List (Nat × Nat)} (h : RefAt w q gq B n ws vR R) :
    w.cell? ⟨q, 0, none⟩ = some (.slice (some ⟨gq, 0, none⟩) n n) ∧ w.cell? ⟨q, 1, none⟩ = some vR ∧ w.frozen? ⟨q, 1, none⟩ = false := by
  refine ⟨?_, ?_, ?_⟩
  · simp [World.cell?, h.row]
  · simp [World.cell?, h.row]
  · simp [World.frozen?, h.row]
theorem RefAt.word {w : World} {q gq B n : Nat} {ws : List Int} {vR : Value} {R : List (Nat × Nat)} (h : RefAt w q gq B n ws vR R) {i : Nat} (hi : i < n) : w.cell? ⟨gq, i, none⟩ = some (.int .u64 (ws.getD i 0)) ∧ w.frozen? ⟨gq, i, none⟩ = false := by
  have hl : i < ws.length := by rw [h.len]; exact hi
  constructor
  · simp [World.cell?, h.words, hl]
  · simp [World.frozen?, h.words]
theorem lenAt_zero {n : Nat} {R : List (Nat × Nat)} {k : Int} (hg : Arena.Good n R) (h0 : lenAt R k = 0) : ∀ r ∈ R, (r.1 : Int) ≠ k := by
  intro r hr e
  subst e
  have h1 := lenAt_mem hg hr
  have h2 := (hg.2 r hr).1
  omega
theorem find_yes {w : World} {q gq B n : Nat} {ws : List Int} {vR : Value} {R : List (Nat × Nat)} (h : RefAt w q gq B n ws vR R) {i : Nat} (hi : i < R.length) :
    Calls Tryd.prog 55 #[.pointer (some ⟨q, 0, none⟩), .int .i64 R[i].1] w fun e w' => e = .returned (.int .i64 i) ∧ w = w' := by
  obtain ⟨qa, ca, rfl, la1, la2, hca⟩ := h.regs.sl
  obtain ⟨c0, c1, _⟩ := h.cells
  have hg := h.good
  have HG := Lib.hid hg
  have HA := Lib.hid hca
  have hrl := good_len hg
  have hn := h.least
  unfold maxLen at la2
  have HI := Lib.hid (show R[i] = R[i] from rfl)
  generalize hx : R[i] = x at HI ⊢
  have HX := Lib.hid hx
  clear hca h hg hx HI
  go_enter Tryd.func55, Tryd.ntmps55
  go_wp2
  go_loop [5] (fun j => ∃ k : Nat, k ≤ i ∧ j = .int .i64 k) (fun j => R.length - (Go.RowKit.intOf j).toNat)
  case atStart => exact ⟨0, by omega, rfl⟩
  case round =>
    obtain ⟨k, hk, rfl⟩ := hrel
    have i1 : (k : Int) < (R.length : Int) := by omega
    obtain ⟨b, off, rfl, p0, p1⟩ := HA.out k _ (List.getElem?_eq_getElem (by omega))
    by_cases hlt : k < i
    · have hne := good_ne HG.out hlt hi
      have hp := (HG.out.2 R[k] (List.getElem_mem (by omega))).1
      rw [HX.out] at hne
      have bne : ((R[k].1 : Int) == (x.1 : Int)) = false := beq_false_of_ne (by omega)
      clear hne hp p1
      generalize R[k] = y at *
      go_wp2
      go_round
      case rel => exact ⟨k + 1, by omega, by go_num⟩
      case measure => simp [Go.RowKit.intOf]; omega
    · obtain rfl : k = i := by omega
      rw [HX.out] at p0
      clear p1
      go_wp2
      go_ret
      exact ⟨rfl, rfl⟩
theorem find_no {w : World} {q gq B n : Nat} {ws : List Int} {vR : Value} {R : List (Nat × Nat)} {x : Int} (h : RefAt w q gq B n ws vR R) (h0 : lenAt R x = 0) :
    Calls Tryd.prog 55 #[.pointer (some ⟨q, 0, none⟩), .int .i64 x] w fun e w' => e = .returned (.int .i64 (-1)) ∧ w = w' := by
  obtain ⟨qa, ca, rfl, la1, la2, hca⟩ := h.regs.sl
  obtain ⟨c0, c1, _⟩ := h.cells
  have hg := h.good
  have HZ := Lib.hid (lenAt_zero hg h0)
  have HA := Lib.hid hca
  have hrl := good_len hg
  have hn := h.least
  unfold maxLen at la2
  clear hca h hg h0
  go_enter Tryd.func55, Tryd.ntmps55
  go_wp2
  go_loop [5] (fun j => ∃ k : Nat, k ≤ R.length ∧ j = .int .i64 k) (fun j => R.length - (Go.RowKit.intOf j).toNat)
  case atStart => exact ⟨0, by omega, rfl⟩
  case round =>
    obtain ⟨k, hk, rfl⟩ := hrel
    by_cases hlt : k < R.length
    · have i1 : (k : Int) < (R.length : Int) := by omega
      obtain ⟨b, off, rfl, p0, p1⟩ := HA.out k _ (List.getElem?_eq_getElem hlt)
      have bne : ((R[k].1 : Int) == x) = false := beq_false_of_ne (HZ.out _ (List.getElem_mem hlt))
      clear p1
      generalize R[k] = y at *
      go_wp2
      go_round
      case rel => exact ⟨k + 1, by omega, by go_num⟩
      case measure => simp [Go.RowKit.intOf]; omega
    · obtain rfl : k = R.length := by omega
      go_wp2
      go_ret
      exact ⟨rfl, rfl⟩
theorem size_yes {w : World} {q gq B n : Nat} {ws : List Int} {vR : Value} {R : List (Nat × Nat)} (h : RefAt w q gq B n ws vR R) {r : Nat × Nat} (hr : r ∈ R) :
    Calls Tryd.prog 41 #[.pointer (some ⟨q, 0, none⟩), .int .i64 r.1] w fun e w' => e = .returned (.int .i64 r.2) ∧ w = w' := by
  obtain ⟨i, hi, rfl⟩ := List.getElem_of_mem hr
  have HF := Lib.hid (find_yes h hi)
  obtain ⟨qa, ca, rfl, la1, la2, hca⟩ := h.regs.sl
  obtain ⟨c0, c1, _⟩ := h.cells
  have hrl := good_len h.good
  have hn := h.least
  obtain ⟨b, off, rfl, p0, p1⟩ := hca i _ (List.getElem?_eq_getElem hi)
  unfold maxLen at la2
  have i1 : (i : Int) < (R.length : Int) := by omega
  clear hca h p0 hr
  generalize R[i] = y at *
  go_enter Tryd.func41, Tryd.ntmps41
  go_wp2_with fail
  refine HF.out.mono ?_; rintro e w' ⟨rfl, rfl⟩
  go_wp2
  go_ret
  exact ⟨rfl, rfl⟩
theorem size_no {w : World} {q gq B n : Nat} {ws : List Int} {vR : Value} {R : List (Nat × Nat)} {x : Int} (h : RefAt w q gq B n ws vR R) (h0 : lenAt R x = 0) :
    Calls Tryd.prog 41 #[.pointer (some ⟨q, 0, none⟩), .int .i64 x] w fun e w' => e = .returned (.int .i64 (-1)) ∧ w = w' := by
  have HF := Lib.hid (find_no h h0)
  clear h h0
  go_enter Tryd.func41, Tryd.ntmps41
  go_wp2_with fail
  refine HF.out.mono ?_; rintro e w' ⟨rfl, rfl⟩
  go_wp2
  go_ret
  exact ⟨rfl, rfl⟩
end Go.Proofs.YtgiopklnielglaaDoor
