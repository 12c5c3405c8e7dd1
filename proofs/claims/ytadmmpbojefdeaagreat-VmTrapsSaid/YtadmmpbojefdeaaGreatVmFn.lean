/-
  The tables of the program's functions are right. Conditions: none.
-/
import Derived.Test.YtadmmpbojefdeaaGreatVmTr
import Derived.KernelRfl
namespace Go.Proofs.YtadmmpbojefdeaaGreat
open Go Go.Kn
set_option maxRecDepth 1000000
theorem fnM : Tryz.prog.follows .mixedOrders = true := by kernel_rfl
theorem fnT : allT (fun t l => l.all (mtOne Tryz.prog t)) trT 1 0 = true := by kernel_rfl
theorem fnL : (List.range 374).map trFn.get = Tryz.prog.funcs.toList.map bodied := by kernel_rfl
theorem fnC : allT (fnOne 374) trFn 1 0 = true := by kernel_rfl
theorem fn_ok {pu : Nat → List V → Option (List V)} (hpu : ∀ g vs us, pu g vs = some us → PureOk Tryz.prog g vs us) : FnOk Tryz.prog (tbP pu) := fnOk_of fnM fnC fnL fnT hpu
end Go.Proofs.YtadmmpbojefdeaaGreat
