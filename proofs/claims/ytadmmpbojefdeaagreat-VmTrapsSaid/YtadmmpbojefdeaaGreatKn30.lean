/-
  The engine: a run that is cut in two where a number is reckoned that is not known. Conditions: none.
-/
import Derived.Test.YtadmmpbojefdeaaGreatKn29
namespace Go.Kn
open Go

noncomputable section
def endK (B : Tb) (rs : List ResultVar) (want : List V) : K Bool := fun fi e ds h nk => match fi, ds with
  | .ret, [] | .norm, [] => resT B e h rs fun us => okR want us h nk
  | _, _ => none

def cutK (B : Tb) (n : Nat) (k1 k2 : List KI) (rs : List ResultVar) (slot : Nat) (u : V) (want : List V) (vs : List V) : Option (Value × Bool) :=
  argT 0 vs .lf fun e0 => run B n k1 e0 [] .lf 0 fun fi e1 ds1 h1 nk1 => match fi, ds1, e1.get slot with
    | .norm, [], some (.raw y) => (match (Tr.setK 40 e1 slot u fun e2 => run B n k2 e2 [] h1 nk1 (endK B rs want) : Option Bool) with
      | some b => some (y, b)
      | none => none)
    | _, _, _ => none
end

theorem cut_one {P : Program} {B : Tb} (hT : TyOk P B) (hF : FnOk P B) {n g slot : Nat} {F : Func} {c : Code} {k1 k2 : List KI} {u v : V} {vs : List V} {y : Value} (hf : P.funcs[g]? = some F) (hb : F.body = some c) (hk1 : ∀ i ∈ k1, kiOk F.ntmps i = true) (hk2 : ∀ i ∈ k2, kiOk F.ntmps i = true)
    (hc : ∀ Q a w, kx P Q (k1 ++ k2) .normal a w → c.wp P Q a w) (hv : plainV v = true) (hh : cutK B n k1 k2 F.results.toList slot u [v] vs = some (y, true)) (hu : ∀ L ρ, rel L ρ u y) {ρ : Nat → Loc} {xs : List Value} (hx : rels (fun _ => False) ρ vs xs) (w : World) :
    Calls P g xs.toArray w fun e w' => ∃ x, e = .returned x ∧ (∀ L ρ, rel L ρ v x) ∧ Kept w w' := by
  obtain ⟨e0, h1, h2⟩ := args_env (L := fun _ => False) (ρ := ρ) (xs := xs) hh
  refine calls_of_wp_defers hf hb ?_
  let C : Ctx := ⟨P, allOld w, w, fun _ => False, ρ, 0, F.ntmps⟩
  let Rt : Ending → World → Prop := fun e w' => ∃ x, e = .returned x ∧ (∀ L ρ, rel L ρ v x) ∧ Kept w w'
  have hst : St C (fun _ => False) ρ e0 [] .lf 0 { tmps := xs.toArray ++ Array.replicate (F.ntmps - xs.toArray.size) undef, defers := [] } w :=
    ⟨by simp [C]; omega, h2 F.ntmps hx, rfl, sat_none ρ w, fun k hk => hk.elim, fun _ h => .inl h, Nat.le_refl _, Frm.refl w, Ext.refl _ _⟩
  have hno : NoOut (bodyPostD P F Rt) := ⟨fun a w h => (by obtain ⟨x, h, _⟩ := h; cases h), fun l a w h => h⟩
  show c.wp P (bodyPostD P F Rt) _ w
  refine hc _ _ _ ?_
  rw [kx_append]
  refine run_ok hT hF n h1 C rfl (kx P (bodyPostD P F Rt) k2) (hno.kx k2) hk1 (fun fi e1 ds1 h' nk' hk L' ρ' a' w' hs' => ?_) _ ρ _ w hst
  split at hk
  · rename_i y' hy'
    split at hk
    · rename_i b hb2
      simp only [Option.some.injEq, Prod.mk.injEq] at hk
      obtain ⟨rfl, rfl⟩ := hk
      obtain ⟨e2, h3, h4⟩ := Tr.setK_some _ hb2
      show kx P (bodyPostD P F Rt) k2 .normal a' w'
      have hs2 : St C L' ρ' e2 [] h' nk' a' w' := by
        refine ⟨hs'.size, fun i z hz => ?_, hs'.ds, hs'.sat, hs'.bd, hs'.new, hs'.nkb, hs'.frm, hs'.ext⟩
        rw [h4 i] at hz
        split at hz
        · rename_i hi
          subst hi; cases hz
          obtain ⟨q, q1, q2⟩ := hs'.env _ _ hy'
          simp only [rel] at q2
          subst q2
          exact ⟨q, q1, hu _ _⟩
        · exact hs'.env i z hz
      refine run_ok hT hF n h3 C rfl (bodyPostD P F Rt) hno hk2 (fun fi e3 ds3 h5 nk5 hk L3 ρ3 a3 w3 hs3 => ?_) L' ρ' a' w' hs2
      have fin : ds3 = [] → (resT B e3 h5 F.results.toList fun us => okR [v] us h5 nk5) = some true → Leaves P F a3.tmps Rt a3.defers .returning w3 := by
        intro hds hk7
        subst hds
        have hd0 : a3.defers = [] := hs3.ds
        obtain ⟨us, h6, h7⟩ := results_some hT hk7
        obtain ⟨x, h8, h9⟩ := h7 L3 ρ3 (allOld w) a3 w3 hs3.env hs3.sat
        rw [hd0]
        refine ⟨x, h9, x, rfl, ?_, sat_kept hs3.sat hs3.frm⟩
        unfold okR at h6
        obtain ⟨h10, _⟩ := cond_some h6
        have := sameVs_eq h10; subst this
        exact fun L ρ => plain_rel hv h8
      unfold endK at hk
      split at hk
      · exact fin rfl hk
      · exact fin rfl hk
      · cases hk
    · cases hk
  · cases hk

def seqL : Code → Code
  | .seq a _ => a
  | c => c
def seqR : Code → Code
  | .seq _ b => b
  | c => c
/-- A row of codes, so many of them. -/
def rowK : Nat → Code → List KI
  | 0, c => [.c c]
  | n + 1, c => .c (seqL c) :: rowK n (seqR c)
def isSeq : Nat → Code → Bool
  | 0, _ => true
  | n + 1, .seq _ b => isSeq n b
  | _, _ => false

theorem rowK_wp {P : Program} {Q : Exit → Act → World → Prop} : ∀ {n : Nat} {c : Code} {a : Act} {w : World}, isSeq n c = true → kx P Q (rowK n c) .normal a w → kx P Q [.c c] .normal a w
  | 0, c, a, w, _, h => h
  | n + 1, .seq x y, a, w, hs, h => by
    refine kx_seq ?_
    show x.wp P (kx P Q [.c y]) a w
    have h : x.wp P (kx P Q (rowK n y)) a w := h
    refine Code.wp_mono (fun e a w q => ?_) h
    cases e with
    | normal => exact rowK_wp hs q
    | _ =>
      have e1 : ∀ {k : List KI}, (∀ i ∈ k, ∃ c, i = .c c) → ∀ {e : Exit}, e ≠ .normal → kx P Q k e = Q e := by
        intro k
        induction k with
        | nil => intro _ e _; rfl
        | cons i k ih =>
          intro hk e he
          obtain ⟨c, rfl⟩ := hk i (by simp)
          cases e <;> first | exact absurd rfl he | (simp only [kx]; exact ih (fun j hj => hk j (by simp [hj])) he)
      have e2 : ∀ (n : Nat) (c : Code), ∀ i ∈ rowK n c, ∃ c, i = KI.c c := by
        intro n
        induction n with
        | zero => intro c i hi; simp only [rowK, List.mem_singleton] at hi; exact ⟨_, hi⟩
        | succ n ih =>
          intro c i hi
          simp only [rowK, List.mem_cons] at hi
          rcases hi with rfl | hi
          · exact ⟨_, rfl⟩
          · exact ih _ i hi
      rw [e1 (e2 n y) (by simp)] at q
      rw [e1 (by intro i hi; simp only [List.mem_singleton] at hi; exact ⟨_, hi⟩) (by simp)]
      exact q
end Go.Kn
