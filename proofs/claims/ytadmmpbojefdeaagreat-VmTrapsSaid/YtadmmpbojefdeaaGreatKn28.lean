/-
  The engine: closed runs, contracts. Conditions: none.
-/
import Derived.Test.YtadmmpbojefdeaaGreatKn27
namespace Go.Kn
open Go

theorem kx_append {P : Program} {Q : Exit → Act → World → Prop} : ∀ (k1 k2 : List KI), kx P Q (k1 ++ k2) = kx P (kx P Q k2) k1
  | [], k2 => by rw [kx_nil]; rfl
  | .c c :: k1, k2 => by
    funext e
    cases e <;> simp only [List.cons_append, kx, kx_append k1 k2]
  | .o ops l :: k1, k2 => by
    funext e
    cases e <;> simp only [List.cons_append, kx, kx_append k1 k2]
  | .b id :: k1, k2 => by
    funext e
    cases e <;> simp only [List.cons_append, kx, kx_append k1 k2]

theorem kx_seq {P : Program} {Q : Exit → Act → World → Prop} {x y : Code} {k : List KI} {a : Act} {w : World} (h : kx P Q (.c x :: .c y :: k) .normal a w) : kx P Q (.c (.seq x y) :: k) .normal a w := by
  show (Code.seq x y).wp P (kx P Q k) a w
  refine wp_seq ?_
  rw [exit_then_eq]
  exact h

/-- The memory that was there stands. -/
def Kept (w w' : World) : Prop := Frm w w' ∧ ∀ b, b < w.heap.size → w'.heap[b]? = w.heap[b]?

def allOld (w : World) : Nat → Option Obj := fun b => w.heap[b]?

theorem sat_none (ρ : Nat → Loc) (w : World) : Sat (fun _ => False) ρ (Tr.lf : Hp).get (allOld w) w.heap :=
  ⟨fun t o h => by simp [Tr.get_lf] at h, fun t t' o o' h => by simp [Tr.get_lf] at h, fun b o h => h, fun t o h => by simp [Tr.get_lf] at h, fun t o h => by simp [Tr.get_lf] at h⟩

theorem sat_kept {L : Nat → Prop} {ρ : Nat → Loc} {H : Nat → Option BO} {w w' : World} (hs : Sat L ρ H (allOld w) w'.heap) (hf : Frm w w') : Kept w w' :=
  ⟨hf, fun b hb => by
    have : allOld w b = some w.heap[b] := Array.getElem?_eq_getElem hb
    rw [hs.frm b _ this, Array.getElem?_eq_getElem hb]⟩

/-- What a run hands back is this, and nothing else. -/
def okR (want : List V) : List V → Hp → Nat → Option Bool := fun us _ _ => bif sameV.sameVs us want then some true else none

def noKp : V → Hp → Nat → Option Bool := fun _ _ _ => none

/-- No tag is named. -/
def plainV : V → Bool
  | .bool _ | .int _ _ | .bs _ | .nptr | .nsl | .niface | .nfunc | .nmap => true
  | _ => false

theorem plain_rel {v : V} (h : plainV v = true) {L L' : Nat → Prop} {ρ ρ' : Nat → Loc} {x : Value} (hr : rel L ρ v x) : rel L' ρ' v x := by
  cases v <;> first | (cases h; done) | (simpa only [rel] using hr)

/-- A closed run that returns one plain value. -/
theorem closed_one {P : Program} {B : Tb} (hT : TyOk P B) (hF : FnOk P B) {n g : Nat} {vs : List V} {v : V} (hv : plainV v = true) (hh : goK B n g vs .lf 0 noKp (okR [v]) = some true) {ρ : Nat → Loc} {xs : List Value} (hx : rels (fun _ => False) ρ vs xs) (w : World) :
    Calls P g xs.toArray w fun e w' => ∃ x, e = .returned x ∧ (∀ L ρ, rel L ρ v x) ∧ Kept w w' := by
  refine goK_ok hT hF hh (sat_none ρ w) (fun k hk => hk.elim) hx (fun w h => ?_) (fun v h' nk' hk => ?_) (fun us h' nk' hk L' ρ' w' x e1 e2 e3 e4 e5 e6 => ?_)
  · obtain ⟨x, h, _⟩ := h; cases h
  · cases hk
  · unfold okR at hk
    obtain ⟨h1, _⟩ := cond_some hk
    have := sameVs_eq h1; subst this
    exact ⟨x, rfl, fun L ρ => plain_rel hv e6, sat_kept e4 e5⟩
end Go.Kn
