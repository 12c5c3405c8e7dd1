/-
  VmTraps at the index 9. Conditions: none.
-/
import Derived.Test.YtadmmpbojefdeaaGreatVmTpA
namespace Go.Proofs.YtadmmpbojefdeaaGreat
open Go Go.Kn
set_option maxRecDepth 1000000
theorem traps_9 : (fun a : Int => cutK tbK 1000000 trapsA trapsB Tryz.f7.results.toList 5 (.int .i64 9) [.bool true] [.raw (.int .i64 a)]) = fun a => some (trapsIx a, true) := by kernel_rfl
end Go.Proofs.YtadmmpbojefdeaaGreat
