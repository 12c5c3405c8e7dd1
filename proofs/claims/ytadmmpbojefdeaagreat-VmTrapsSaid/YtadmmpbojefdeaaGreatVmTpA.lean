/-
  VmTraps: the cut of its code, and its run at the index 1. Conditions: none.
-/
import Derived.Test.YtadmmpbojefdeaaGreatVmKn
import Derived.Test.YtadmmpbojefdeaaGreatKn30
namespace Go.Proofs.YtadmmpbojefdeaaGreat
open Go Go.Kn
set_option maxRecDepth 1000000
noncomputable def trapsBody : Code := match Tryz.f7.body with
  | some c => c
  | none => .skip
noncomputable def trapsA : List KI := rowK 5 trapsBody |>.take 5
noncomputable def trapsB : List KI := rowK 5 trapsBody |>.drop 5
/-- What the law's index is. -/
def trapsIx (a : Int) : Value := .int .i64 ((IntKind.i64.wrap (a.tmod (11 + 1 : Nat) + 12)).tmod (11 + 1 : Nat))
theorem traps_seq : isSeq 5 trapsBody = true := by kernel_rfl
theorem traps_okA : trapsA.all (kiOk Tryz.f7.ntmps) = true := by kernel_rfl
theorem traps_okB : trapsB.all (kiOk Tryz.f7.ntmps) = true := by kernel_rfl
end Go.Proofs.YtadmmpbojefdeaaGreat
