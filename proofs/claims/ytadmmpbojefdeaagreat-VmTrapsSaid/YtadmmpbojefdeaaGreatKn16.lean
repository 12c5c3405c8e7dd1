/-
  The engine is right: all operations that change the heap. Conditions: none.
-/
import Derived.Test.YtadmmpbojefdeaaGreatKn15
namespace Go.Kn
open Go
variable {R : Type} {r : R}
section
variable {P : Program} {B : Tb} {E : En} {h : Hp}

theorem opH_sound (hT : TyOk P B) {nk : Nat} {op : Op} {κ : V → Hp → Nat → Option R} (hh : opH B E h nk op κ = some r) : ∃ v h' nk', κ v h' nk' = some r ∧ HOk P E h nk op v h' nk' := by
  cases op <;> simp only [opH] at hh <;> first | (cases hh; done) | skip
  case store t x y => obtain ⟨h', h1, h2⟩ := hStore_ok hT hh; exact ⟨_, _, _, h1, h2 nk⟩
  case mapUpdate t x i y => obtain ⟨h', h1, h2⟩ := hMapUpdate_ok hT hh; exact ⟨_, _, _, h1, h2 nk⟩
  case mapEntry t x i => obtain ⟨v, h', h1, h2⟩ := hMapEntry_ok hT hh; exact ⟨_, _, _, h1, h2 nk⟩
  case entryStore t x i y => obtain ⟨h', h1, h2⟩ := hEntryStore_ok (t := t) hh; exact ⟨_, _, _, h1, h2 nk⟩
  case range t x => obtain ⟨v, h', nk', h1, h2⟩ := hRange_ok hT hh; exact ⟨_, _, _, h1, h2⟩
  case next x s =>
    cases s with
    | true => simp only at hh; cases hh
    | false => obtain ⟨v, h', h1, h2⟩ := hNext_ok hh; exact ⟨_, _, _, h1, h2 nk⟩
  case call c =>
    unfold hCall at hh
    split at hh
    · split at hh
      · exact hAppend_ok hT hh
      · obtain ⟨v, h', h1, h2⟩ := hCopy_ok hT hh; exact ⟨_, _, _, h1, h2 nk⟩
      · obtain ⟨h', h1, h2⟩ := hDelete_ok hT hh; exact ⟨_, _, _, h1, h2 nk⟩
      · cases hh
    · split at hh
      · obtain ⟨h', h1, h2⟩ := hClear_ok hT hh; exact ⟨_, _, _, h1, h2 nk⟩
      · cases hh
    · cases hh
end
end Go.Kn
