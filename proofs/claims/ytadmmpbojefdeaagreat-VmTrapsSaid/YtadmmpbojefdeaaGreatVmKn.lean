/-
  What known() returns. Conditions: none.
-/
import Derived.Test.YtadmmpbojefdeaaGreatVmTy
import Derived.Test.YtadmmpbojefdeaaGreatVmFn
import Derived.Test.YtadmmpbojefdeaaGreatKn28
namespace Go.Proofs.YtadmmpbojefdeaaGreat
open Go Go.Kn
set_option maxRecDepth 1000000
theorem known_run : goK tb 1000000 15 [] .lf 0 noKp (okR [.bool true]) = some true := by kernel_rfl
theorem known_pure : PureOk Tryz.prog 15 [] [.bool true] := by
  refine ⟨⟨Tryz.f15, rfl, by decide, rfl⟩, fun L ρ xs w hx => ?_⟩
  have hx0 := rels_nil hx
  subst hx0
  refine (closed_one (ty_ok _) (fn_ok fun g vs us h => by cases h) rfl known_run (ρ := ρ) rels_mk0 w).mono fun e w' h => ?_
  obtain ⟨x, h1, h2, h3⟩ := h
  exact ⟨x, h1, h2, h3⟩
/-- Which calls are known. -/
def puK : Nat → List V → Option (List V) := fun g vs => bif Nat.beq g 15 then (match vs with
  | [] => some [.bool true]
  | _ => none) else none
theorem puK_ok (g : Nat) (vs us : List V) (h : puK g vs = some us) : PureOk Tryz.prog g vs us := by
  unfold puK at h
  cases hb : Nat.beq g 15 with
  | false => rw [hb] at h; cases h
  | true =>
    rw [hb] at h
    have := nat_beq hb; subst this
    cases vs with
    | nil => cases h; exact known_pure
    | cons v vs => cases h
noncomputable def tbK : Tb := tbP puK
theorem tyK_ok : TyOk Tryz.prog tbK := ty_ok _
theorem fnK_ok : FnOk Tryz.prog tbK := fn_ok puK_ok
end Go.Proofs.YtadmmpbojefdeaaGreat
