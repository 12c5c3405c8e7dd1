/-
  VmTraps is true of every input: what must trap does, by the trap that names it. Conditions: none.
-/
import Derived.Test.YtadmmpbojefdeaaGreatVmTp0
import Derived.Test.YtadmmpbojefdeaaGreatVmTp1
import Derived.Test.YtadmmpbojefdeaaGreatVmTp2
import Derived.Test.YtadmmpbojefdeaaGreatVmTp3
import Derived.Test.YtadmmpbojefdeaaGreatVmTp4
import Derived.Test.YtadmmpbojefdeaaGreatVmTp5
import Derived.Test.YtadmmpbojefdeaaGreatVmTp6
import Derived.Test.YtadmmpbojefdeaaGreatVmTp7
import Derived.Test.YtadmmpbojefdeaaGreatVmTp8
import Derived.Test.YtadmmpbojefdeaaGreatVmTp9
import Derived.Test.YtadmmpbojefdeaaGreatVmTp10
import Derived.Test.YtadmmpbojefdeaaGreatVmTp11
import Derived.Test.YtadmmpbojefdeaaGreatKn29
import Derived.Test.YtadmmpbojefdeaaGreatVmJg
import Derived.Test.YtadmmpbojefdeaaGreatRows
namespace Go.Proofs.YtadmmpbojefdeaaGreat
open Go Go.Kn Go.ChangeShapes Go.WideShapes Go.ChangeAt Go.RowKit

theorem own : ownKnob Tryz.prog.godebug = none := by kernel_rfl

theorem traps_body : Tryz.f7.body = some trapsBody := by kernel_rfl
theorem traps_fn : Tryz.prog.funcs[7]? = some Tryz.f7 := by kernel_rfl

theorem traps_at {a0 : Int} {v : Int} (hv : trapsIx a0 = .int .i64 v) (h : (fun a : Int => cutK tbK 1000000 trapsA trapsB Tryz.f7.results.toList 5 (.int .i64 v) [.bool true] [.raw (.int .i64 a)]) = fun a => some (trapsIx a, true)) (w : World) :
    Calls Tryz.prog 7 #[.int .i64 a0] w fun e w' => e = .returned (.bool true) ∧ Kept w w' := by
  have h1 := congrFun h a0
  rw [hv] at h1
  refine (cut_one (B := tbK) (g := 7) (F := Tryz.f7) (c := trapsBody) (k1 := trapsA) (k2 := trapsB) (v := .bool true) tyK_ok fnK_ok traps_fn traps_body (by have := traps_okA; rwa [List.all_eq_true] at this) (by have := traps_okB; rwa [List.all_eq_true] at this) (fun Q a w hk => ?_) rfl h1 (fun L ρ => by simp only [rel]) (ρ := fun _ => ⟨0, 0, 0, false⟩) (xs := [.int .i64 a0]) (rels_mk (by simp only [rel]) rels_mk0) w).mono fun e w' h => ?_
  · have e1 : trapsA ++ trapsB = rowK 5 trapsBody := List.take_append_drop 5 _
    rw [e1] at hk
    exact rowK_wp traps_seq hk
  · obtain ⟨x, rfl, h2, h3⟩ := h
    have := h2 (fun _ => False) (fun _ => ⟨0, 0, 0, false⟩)
    simp only [rel] at this
    subst this
    exact ⟨rfl, h3⟩

theorem wrap_small {x : Int} (h1 : -100 < x) (h2 : x < 100) : IntKind.i64.wrap x = x := by
  have e1 : (2 : Int) ^ 64 = 18446744073709551616 := by decide
  have e2 : (2 : Int) ^ (64 - 1) = 9223372036854775808 := by decide
  simp only [IntKind.wrap, IntKind.bits, IntKind.signed, Bool.true_and, decide_eq_true_eq, e1, e2]
  split <;> omega

theorem traps_ix (a : Int) : ∃ k : Int, trapsIx a = .int .i64 k ∧ 0 ≤ k ∧ k < 12 := by
  have h1 : -12 < a.tmod 12 := by
    have := Int.lt_tmod_of_pos a (show (0 : Int) < 12 by decide)
    omega
  have h2 : a.tmod 12 < 12 := Int.tmod_lt_of_pos a (by decide)
  refine ⟨_, rfl, ?_, ?_⟩
  · show 0 ≤ (IntKind.i64.wrap (a.tmod 12 + 12)).tmod 12
    rw [wrap_small (by omega) (by omega)]
    exact Int.tmod_nonneg _ (by omega)
  · show (IntKind.i64.wrap (a.tmod 12 + 12)).tmod 12 < 12
    exact Int.tmod_lt_of_pos _ (by decide)

theorem traps_walk (a0 : Int) (w : World) : Calls Tryz.prog 7 #[.int .i64 a0] w fun e w' => e = .returned (.bool true) ∧ Kept w w' := by
  obtain ⟨k, hk, h1, h2⟩ := traps_ix a0
  obtain ⟨n, rfl⟩ := Int.eq_ofNat_of_zero_le h1
  match n, hk, h2 with
  | 0, hk, _ => exact traps_at hk traps_0 w
  | 1, hk, _ => exact traps_at hk traps_1 w
  | 2, hk, _ => exact traps_at hk traps_2 w
  | 3, hk, _ => exact traps_at hk traps_3 w
  | 4, hk, _ => exact traps_at hk traps_4 w
  | 5, hk, _ => exact traps_at hk traps_5 w
  | 6, hk, _ => exact traps_at hk traps_6 w
  | 7, hk, _ => exact traps_at hk traps_7 w
  | 8, hk, _ => exact traps_at hk traps_8 w
  | 9, hk, _ => exact traps_at hk traps_9 w
  | 10, hk, _ => exact traps_at hk traps_10 w
  | 11, hk, _ => exact traps_at hk traps_11 w
  | n + 12, _, h => omega

set_option maxRecDepth 100000 in
theorem traps_lifted (os : Os) (started : os.Started) (H : Type) (enc : TypeId × Value → H) :
    ReturnsInHanded {} Tryz.checked os 7 .any (Rows.vmTrapsSpec.pre6 enc Tryz.prog Tryz.f7 Rows.vmTrapsRow.domain false) (Rows.vmTrapsSpec.post enc Tryz.prog Tryz.f7 false true false false) := by
  refine returnsInHanded_of_change (C := Tryz.checked) own started (by kernel_rfl) Tryz.func7
    (ChangeSpec.witness6 (enc := enc) (C := Tryz.checked) false ⟨#[], #[.int .i64 0], []⟩ 8 (by kernel_rfl) (by kernel_rfl) (by kernel_rfl) (by kernel_rfl)) ?_
  intro W base args ds gs before hval0 hW hcnd _
  have hval : ∀ (j : Nat) t v, Tryz.f7.params[j]? = some t → args[j]? = some v → Value.okWide Tryz.prog W .any base t v := hval0
  have hW' := hW
  obtain ⟨p, q, hA0, hV, rfl, hfz, hnd⟩ := hW
  have hA : DataW.TrodAll enc Tryz.prog W 0 (fun _ => true) true Tryz.f7.params.toList args.toList ds p := hA0
  rw [Tryz.params7] at hA hval
  obtain ⟨v0, vs0, d0, ds0, p0, q0, hargs, rfl, rfl, h0, r0⟩ := trodAll_cons hA
  obtain ⟨rfl, rfl, rfl⟩ := trodAll_nil r0
  obtain rfl : args = #[v0] := by cases args; simp_all
  obtain ⟨rfl, rfl⟩ := trodVars_none hV
  obtain ⟨a0, rfl, rfl, rfl, w0⟩ := open_int Tryz.underlying3 (hval 0 3 v0 rfl rfl) h0
  clear hA0 hval0
  simp only [List.append_nil] at hW'
  refine (traps_walk a0 W).mono fun e W' ⟨he, hg⟩ => ?_
  subst he
  exact ⟨_, rfl, post_kept (pa := []) (pv := []) hW' (fun _ _ _ => (trodAll_cons_mk (shut_bool Tryz.underlying4 _) trodAll_mk0)) (fun sp _ => (trodAll_cons_mk (shut_int Tryz.underlying3 w0) trodAll_mk0)) (fun _ _ => rfl) rfl hg⟩

/-- The statement. -/
theorem traps_holds : Rows.VmTrapsSaid :=
  OpenClaim.holds_of_wide 7 Tryz.f7 rfl rfl rfl rfl rfl rfl rfl ⟨rfl, rfl, rfl, rfl, rfl⟩ rfl rfl rfl rfl rfl (by kernel_rfl) Tryz.func7 traps_facts
    (of_decide_eq_true (by kernel_rfl)) (by unfold Func.isWrapper; first | (rw [if_pos (by decide +kernel)]; kernel_rfl) | (rw [if_neg (by decide +kernel)]; exact ⟨rfl, rfl⟩))
    (fun os started H enc _ => traps_lifted os started H enc)
#print axioms traps_holds
end Go.Proofs.YtadmmpbojefdeaaGreat
