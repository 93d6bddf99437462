/- Small walks: words of numbers. -/
import Derived.Test.YtfmedddjmcplnaaDoorFrmD
namespace Go.Proofs.YtfmedddjmcplnaaDoor
open Go.RowKit
set_option maxHeartbeats 4000000
set_option maxRecDepth 100000
/-- a number's word -/
def intW (v : Int) : Int := bits .or .u64 (IntKind.u64.wrap (IntKind.u64.wrap v * 2)) 1
/-- a number of 63 bits -/
def wrapW (v : Int) : Int := wrap64 (v * 2) / 2
theorem refInt_is (v : Int) (w : World) : Calls Tryd.prog 9 #[.int .i64 v] w fun e w' => e = .returned (.int .u64 (intW v)) ∧ w = w' := by
  go_enter Tryd.func9, Tryd.ntmps9
  go_wp2
  go_ret
  exact ⟨rfl, rfl⟩
theorem wordInt_is (v : Int) (w : World) : Calls Tryd.prog 23 #[.int .i64 v] w fun e w' => e = .returned (.int .u64 (intW v)) ∧ w = w' := by
  go_enter Tryd.func23, Tryd.ntmps23
  go_wp2
  go_ret
  exact ⟨rfl, rfl⟩
theorem wordWrap_is (v : Int) (w : World) : Calls Tryd.prog 22 #[.int .i64 v] w fun e w' => e = .returned (.int .i64 (wrapW v)) ∧ w = w' := by
  go_enter Tryd.func22, Tryd.ntmps22
  go_wp2
  go_ret
  exact ⟨rfl, rfl⟩
theorem refWrap_is (v : Int) (w : World) : Calls Tryd.prog 11 #[.int .i64 v] w fun e w' => e = .returned (.int .i64 (wrapW v)) ∧ w = w' := by
  go_enter Tryd.func11, Tryd.ntmps11
  go_wp2
  go_ret
  exact ⟨rfl, rfl⟩
end Go.Proofs.YtfmedddjmcplnaaDoor
