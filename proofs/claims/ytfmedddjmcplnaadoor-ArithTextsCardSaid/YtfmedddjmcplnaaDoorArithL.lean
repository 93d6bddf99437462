/- The walks of layer 9's statements. -/
import Derived.Test.YtfmedddjmcplnaaDoorArithQ
namespace Go.Proofs.YtfmedddjmcplnaaDoor
open Go.RowKit
theorem KindsLie.ext {w w' : World} (h : KindsLie w) (e : Ext w w') : KindsLie w' := fun i hi => e.cell (h i hi)
/-- the tables that arith reads lie where they were laid -/
def ArithLie (w : World) : Prop := KindsLie w ∧ Lib.TabIs Tryd.prog w "internal/strconv.uint64pow10" .u64 Lib.pow10Tab
theorem gPow : Tryd.prog.globalNamed "internal/strconv.uint64pow10" = some 2 := by kernel_rfl
theorem ArithLie.ext {w w' : World} (h : ArithLie w) (e : Ext w w') : ArithLie w' := ⟨h.1.ext e, e.tab gPow h.2⟩
theorem gKinds : Tryd.prog.globalNamed "stockpot/arith.kinds" = some 0 := by kernel_rfl
def kindsTab : List Int := [0,0,0,0,0,0,0,0,0,0,0,0,43,45,42,47,37,61,60,0,0,0,0,0,0,0,0,0,0,0,0,0,0,0,0,0,0,0]
/-- from the row's list to what the walks read -/
theorem arithLie_of_laid {W : World} {l : List (String × DataW Unit)} (h : laidMetH Tryd.prog l W) (hh : (l.filter fun x => x.2.handleName?.isSome) = [])
    (h1 : ("stockpot/arith.kinds", Lib.tabData .u8 kindsTab) ∈ l) (h2 : ("internal/strconv.uint64pow10", Lib.tabData .u64 Lib.pow10Tab) ∈ l) : ArithLie W := by
  have hm : laidMet Tryd.prog l W := by unfold laidMetH at h; rw [hh] at h; exact h
  refine ⟨fun i hi => ?_, ?_⟩
  · have := tabIs_of_mem (t := 61) (e := 5) (n := 38) gKinds (by kernel_rfl) Tryd.underlying61 Tryd.underlying5 (by kernel_rfl) (by kernel_rfl) hm h1
    exact this.cell gKinds i hi
  · exact tabIs_of_mem (t := 88) (e := 24) (n := 20) gPow (by kernel_rfl) Tryd.underlying88 Tryd.underlying24 (by kernel_rfl) (by kernel_rfl) hm h2
def TrueExt (w : World) (e : Ending) (w' : World) : Prop := e = .returned (.bool true) ∧ Ext w w'
/-- arith.Parse, with the answer as the caller wants it -/
theorem parse_is {s : ByteArray} {v : Int} {ok : Bool} {w : World} (hs : s.size ≤ maxLen) (h1 : parseV s.data.toList = v) (h2 : parseOK s.data.toList = ok) :
    Calls Tryd.prog 15 #[.string s] w fun e w' => e = .returned (.tuple #[.int .i64 v, .bool ok]) ∧ w = w' := by
  subst h1; subst h2; exact arith_parse s w hs
theorem text_is {v : Int} {s : ByteArray} {w : World} (hk : ArithLie w) (h1 : ByteArray.mk (Lib.itoa (w63 v)).toArray = s) :
    Calls Tryd.prog 14 #[.int .i64 v] w fun e w' => e = .returned (.string s) ∧ Ext w w' := by
  subst h1; exact arith_text v w hk.2
theorem least_text : ByteArray.mk (Lib.itoa (w63 (-4611686018427387904))).toArray = ⟨#[45, 52, 54, 49, 49, 54, 56, 54, 48, 49, 56, 52, 50, 55, 51, 56, 55, 57, 48, 52]⟩ := by
  have h : Lib.itoa (w63 (-4611686018427387904)) = [45, 52, 54, 49, 49, 54, 56, 54, 48, 49, 56, 52, 50, 55, 51, 56, 55, 57, 48, 52] := by
    have e : w63 (-4611686018427387904) = -4611686018427387904 := by decide +kernel
    rw [e]
    simp [Lib.itoa, Lib.decDigits]
  rw [h]
set_option maxHeartbeats 400000 in
theorem arith_wakes (w : World) (hk : ArithLie w) : Calls Tryd.prog 13 #[] w (TrueExt w) := by
  go_enter Tryd.func13, Tryd.ntmps13
  go_wp2_with fail
  refine (of_is (r := -4611686018427387904) (ok := true) hk.1 (by decide +kernel) (by decide +kernel) (by decide +kernel)).mono ?_; rintro e w' ⟨rfl, rfl⟩
  go_wp2_with fail
  refine (of_is (r := -4611686018427387904) (ok := true) hk.1 (by decide +kernel) (by decide +kernel) (by decide +kernel)).mono ?_; rintro e w' ⟨rfl, rfl⟩
  go_wp2_with fail
  refine (of_is (r := -1) (ok := true) hk.1 (by decide +kernel) (by decide +kernel) (by decide +kernel)).mono ?_; rintro e w' ⟨rfl, rfl⟩
  go_wp2_with fail
  refine (of_is (r := 0) (ok := false) hk.1 (by decide +kernel) (by decide +kernel) (by decide +kernel)).mono ?_; rintro e w' ⟨rfl, rfl⟩
  go_wp2_with fail
  refine (of_is (r := 0) (ok := false) hk.1 (by decide +kernel) (by decide +kernel) (by decide +kernel)).mono ?_; rintro e w' ⟨rfl, rfl⟩
  go_wp2_with fail
  refine (parse_is (v := 7) (ok := true) (by decide +kernel) (by decide +kernel) (by decide +kernel)).mono ?_; rintro e w' ⟨rfl, rfl⟩
  go_wp2_with fail
  refine (parse_is (v := 0) (ok := false) (by decide +kernel) (by decide +kernel) (by decide +kernel)).mono ?_; rintro e w' ⟨rfl, rfl⟩
  go_wp2_with fail
  refine (text_is hk least_text).mono ?_; rintro e w' ⟨rfl, hx⟩
  go_wp2
  go_ret
  exact ⟨rfl, hx⟩
end Go.Proofs.YtfmedddjmcplnaaDoor
