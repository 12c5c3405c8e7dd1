/-
  The tables of the program's types are right. Conditions: none.
-/
import Derived.Test.YtadmmpbojefdeaaGreatVmTr
import Derived.KernelRfl
namespace Go.Proofs.YtadmmpbojefdeaaGreat
open Go Go.Kn
set_option maxRecDepth 1000000
theorem tyK : allT (kndOne Tryz.prog) trK 1 0 = true := by kernel_rfl
theorem tyF : allT (fldOne Tryz.prog) trF 1 0 = true := by kernel_rfl
theorem tyZ : allT (zrOne Tryz.prog) trZ 1 0 = true := by kernel_rfl
theorem tyL : allT (slOne Tryz.prog) trL 1 0 = true := by kernel_rfl
theorem tyA : allT (arrOne Tryz.prog) trA 1 0 = true := by kernel_rfl
theorem tyM : allT (mpOne Tryz.prog) trM 1 0 = true := by kernel_rfl
theorem tyFl : allT (flOne Tryz.prog) trFl 1 0 = true := by kernel_rfl
theorem ty_ok (pu : Nat → List V → Option (List V)) : TyOk Tryz.prog (tbP pu) := tyOk_of tyK tyF tyZ tyL tyA tyM tyFl
end Go.Proofs.YtadmmpbojefdeaaGreat
