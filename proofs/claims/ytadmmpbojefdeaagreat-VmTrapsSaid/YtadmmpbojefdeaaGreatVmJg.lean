/-
  What the rows' closed facts come to. Conditions: none.
-/
import Derived.Test.YtadmmpbojefdeaaGreatRows
import Derived.ProofKit
namespace Go.Proofs.YtadmmpbojefdeaaGreat
open Go Go.ChangeShapes Go.WideShapes Go.ChangeAt Go.RowKit
set_option maxRecDepth 1000000
set_option maxHeartbeats 400000000 in
theorem traps_facts : joinedFacts Tryz.prog 7 Tryz.f7 Rows.vmTrapsSpec Rows.vmTrapsRow = true := by
  unfold joinedFacts
  simp only [Bool.and_eq_true]
  and_intros
  all_goals as_aux_lemma => kernel_rfl
end Go.Proofs.YtadmmpbojefdeaaGreat
