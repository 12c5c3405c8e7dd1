/-
  VmTails at 6. Conditions: none.
-/
import Derived.Test.YtadmmpbojefdeaaGreatVmKn
namespace Go.Proofs.YtadmmpbojefdeaaGreat
open Go Go.Kn
set_option maxRecDepth 1000000
theorem tails_6 : goK tbK 1000000 10 [.int .i64 6] .lf 0 noKp (okR [.bool true]) = some true := by kernel_rfl
end Go.Proofs.YtadmmpbojefdeaaGreat
