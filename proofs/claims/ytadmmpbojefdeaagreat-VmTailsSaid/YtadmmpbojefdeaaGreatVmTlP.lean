/-
  VmTails is true of every input: a program that goes on with itself does so eight times, and no more. Conditions: none.
-/
import Derived.Test.YtadmmpbojefdeaaGreatVmTl0
import Derived.Test.YtadmmpbojefdeaaGreatVmTl1
import Derived.Test.YtadmmpbojefdeaaGreatVmTl2
import Derived.Test.YtadmmpbojefdeaaGreatVmTl3
import Derived.Test.YtadmmpbojefdeaaGreatVmTl4
import Derived.Test.YtadmmpbojefdeaaGreatVmTl5
import Derived.Test.YtadmmpbojefdeaaGreatVmTl6
import Derived.Test.YtadmmpbojefdeaaGreatVmTlN
import Derived.Test.YtadmmpbojefdeaaGreatKn29
import Derived.Test.YtadmmpbojefdeaaGreatVmJf
import Derived.Test.YtadmmpbojefdeaaGreatRows
namespace Go.Proofs.YtadmmpbojefdeaaGreat
open Go Go.Kn Go.ChangeShapes Go.WideShapes Go.ChangeAt Go.RowKit

theorem own : ownKnob Tryz.prog.godebug = none := by kernel_rfl

theorem tails_at {v : Int} (h : goK tbK 1000000 10 [.int .i64 v] .lf 0 noKp (okR [.bool true]) = some true) (w : World) :
    Calls Tryz.prog 10 #[.int .i64 v] w fun e w' => e = .returned (.bool true) ∧ Kept w w' := by
  refine (closed_one tyK_ok fnK_ok rfl h (ρ := fun _ => ⟨0, 0, 0, false⟩) (xs := [.int .i64 v]) (rels_mk (by simp only [rel]) rels_mk0) w).mono fun e w' h => ?_
  obtain ⟨x, rfl, h2, h3⟩ := h
  have := h2 (fun _ => False) (fun _ => ⟨0, 0, 0, false⟩)
  simp only [rel] at this
  subst this
  exact ⟨rfl, h3⟩

theorem tails_walk (a0 : Int) (w : World) : Calls Tryz.prog 10 #[.int .i64 a0] w fun e w' => e = .returned (.bool true) ∧ Kept w w' := by
  cases a0 with
  | negSucc n => exact tails_at (congrFun tails_neg n) w
  | ofNat m =>
    match m with
    | 0 => exact tails_at tails_0 w
    | 1 => exact tails_at tails_1 w
    | 2 => exact tails_at tails_2 w
    | 3 => exact tails_at tails_3 w
    | 4 => exact tails_at tails_4 w
    | 5 => exact tails_at tails_5 w
    | 6 => exact tails_at tails_6 w
    | n + 7 => exact tails_at (congrFun tails_pos n) w

set_option maxRecDepth 100000 in
theorem tails_lifted (os : Os) (started : os.Started) (H : Type) (enc : TypeId × Value → H) :
    ReturnsInHanded {} Tryz.checked os 10 .any (Rows.vmTailsSpec.pre6 enc Tryz.prog Tryz.f10 Rows.vmTailsRow.domain false) (Rows.vmTailsSpec.post enc Tryz.prog Tryz.f10 false true false false) := by
  refine returnsInHanded_of_change (C := Tryz.checked) own started (by kernel_rfl) Tryz.func10
    (ChangeSpec.witness6 (enc := enc) (C := Tryz.checked) false ⟨#[], #[.int .i64 0], []⟩ 8 (by kernel_rfl) (by kernel_rfl) (by kernel_rfl) (by kernel_rfl)) ?_
  intro W base args ds gs before hval0 hW hcnd _
  have hval : ∀ (j : Nat) t v, Tryz.f10.params[j]? = some t → args[j]? = some v → Value.okWide Tryz.prog W .any base t v := hval0
  have hW' := hW
  obtain ⟨p, q, hA0, hV, rfl, hfz, hnd⟩ := hW
  have hA : DataW.TrodAll enc Tryz.prog W 0 (fun _ => true) true Tryz.f10.params.toList args.toList ds p := hA0
  rw [Tryz.params10] at hA hval
  obtain ⟨v0, vs0, d0, ds0, p0, q0, hargs, rfl, rfl, h0, r0⟩ := trodAll_cons hA
  obtain ⟨rfl, rfl, rfl⟩ := trodAll_nil r0
  obtain rfl : args = #[v0] := by cases args; simp_all
  obtain ⟨rfl, rfl⟩ := trodVars_none hV
  obtain ⟨a0, rfl, rfl, rfl, w0⟩ := open_int Tryz.underlying3 (hval 0 3 v0 rfl rfl) h0
  clear hA0 hval0
  simp only [List.append_nil] at hW'
  refine (tails_walk a0 W).mono fun e W' ⟨he, hg⟩ => ?_
  subst he
  exact ⟨_, rfl, post_kept (pa := []) (pv := []) hW' (fun _ _ _ => (trodAll_cons_mk (shut_bool Tryz.underlying4 _) trodAll_mk0)) (fun sp _ => (trodAll_cons_mk (shut_int Tryz.underlying3 w0) trodAll_mk0)) (fun _ _ => rfl) rfl hg⟩

/-- The statement. -/
theorem tails_holds : Rows.VmTailsSaid :=
  OpenClaim.holds_of_wide 10 Tryz.f10 rfl rfl rfl rfl rfl rfl rfl ⟨rfl, rfl, rfl, rfl, rfl⟩ rfl rfl rfl rfl rfl (by kernel_rfl) Tryz.func10 tails_facts
    (of_decide_eq_true (by kernel_rfl)) (by unfold Func.isWrapper; first | (rw [if_pos (by decide +kernel)]; kernel_rfl) | (rw [if_neg (by decide +kernel)]; exact ⟨rfl, rfl⟩))
    (fun os started H enc _ => tails_lifted os started H enc)
#print axioms tails_holds
end Go.Proofs.YtadmmpbojefdeaaGreat
