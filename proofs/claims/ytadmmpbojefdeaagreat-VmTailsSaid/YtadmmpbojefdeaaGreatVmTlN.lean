/-
  VmTails outside of its bounds. Conditions: none.
-/
import Derived.Test.YtadmmpbojefdeaaGreatVmKn
namespace Go.Proofs.YtadmmpbojefdeaaGreat
open Go Go.Kn
set_option maxRecDepth 1000000
theorem tails_neg : (fun n : Nat => goK tbK 1000000 10 [.int .i64 (.negSucc n)] .lf 0 noKp (okR [.bool true])) = fun _ => some true := by kernel_rfl
theorem tails_pos : (fun n : Nat => goK tbK 1000000 10 [.int .i64 (.ofNat (Nat.add n 7))] .lf 0 noKp (okR [.bool true])) = fun _ => some true := by kernel_rfl
end Go.Proofs.YtadmmpbojefdeaaGreat
