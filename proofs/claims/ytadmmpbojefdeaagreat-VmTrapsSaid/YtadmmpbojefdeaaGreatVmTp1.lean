/-
  VmTraps at the index 1. Conditions: none.
-/
import Derived.Test.YtadmmpbojefdeaaGreatVmTpA
namespace Go.Proofs.YtadmmpbojefdeaaGreat
open Go Go.Kn
set_option maxRecDepth 1000000
theorem traps_1 : (fun a : Int => cutK tbK 1000000 trapsA trapsB Tryz.f7.results.toList 5 (.int .i64 1) [.bool true] [.raw (.int .i64 a)]) = fun a => some (trapsIx a, true) := by kernel_rfl
end Go.Proofs.YtadmmpbojefdeaaGreat
