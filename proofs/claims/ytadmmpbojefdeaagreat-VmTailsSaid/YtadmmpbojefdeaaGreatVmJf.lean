/-
  What the rows' closed facts come to. Conditions: none.
-/
import Derived.Test.YtadmmpbojefdeaaGreatRows
import Derived.ProofKit
namespace Go.Proofs.YtadmmpbojefdeaaGreat
open Go Go.ChangeShapes Go.WideShapes Go.ChangeAt Go.RowKit
set_option maxRecDepth 1000000
set_option maxHeartbeats 400000000 in
theorem tails_facts : joinedFacts Tryz.prog 10 Tryz.f10 Rows.vmTailsSpec Rows.vmTailsRow = true := by
  unfold joinedFacts
  simp only [Bool.and_eq_true]
  and_intros
  all_goals as_aux_lemma => kernel_rfl
end Go.Proofs.YtadmmpbojefdeaaGreat
