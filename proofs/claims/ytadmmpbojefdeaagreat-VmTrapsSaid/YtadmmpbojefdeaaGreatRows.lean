/-
  No cell of these rows narrows 'for every input' (looked for: loops, veiled, ifaces, maps, wideKeys, modest, calm, conditions, laid).
  DERIVED. THE GIVEN ROWS OF THIS SEAT. 12 by the template 'for every input the law returns true; each argument reads behind the call as it read before'; 0 by the template 'total and deterministic' (their statements: YtadmmpbojefdeaaGreatTotals.lean).
  GIVEN WITH THE SEED: the statements are not yours to turn. If you find one false, say at which input.
  Laid BY PROGRAM, IN A SANDBOX (cutbox-rows.mjs): the forced cells as the released guide's own fill.sh prints them over the translation 114803d1e71d0bd7… (all of the seat's roots in one cut). By AI agents, Wed Nov 11 2026. No macro, syntax, notation, axiom, sorry.
-/
import Derived.Test.YtadmmpbojefdeaaGreatChecked
import GoSem.Claim
import GoSem.ClaimJoined
import GoSem.ClaimMapViews
import Derived.JoinedTies
import Derived.KernelRfl
namespace Go.Proofs.YtadmmpbojefdeaaGreat
/- THE CELL 'sum', in the pinned program and in every row, IS THE sha256 OF THE DUMP (.gsa) THAT YtadmmpbojefdeaaGreatProg.lean LOADS. Nothing in Lean hashes anything: it is a label: what it is worth is what the hold of that sum in a sandbox is worth. -/
noncomputable def Tryz.pinned : Pinned := { name := "ytadmmpbojefdeaagreat", sum := "114803d1e71d0bd7faa7c93a8501699a952125e90fe5f14eae3c8b345c39a546", checked := Tryz.checked }
namespace Rows
def none {H : Type} : Left H := { results := [], args := [] }

/-- 'barbicanlaw14.VmFuel': WHATEVER THE INPUT: true; the input reads as it did. -/
def vmFuelSpec : ChangeSpec := { name := "vmFuel", fn := fun _ => fun
  | [d1, d2, d3, d4] => { results := [.lit (.bool true)], args := [d1, d2, d3, d4] }
  | _ => none }
def vmFuelRow : OpenClaim := { program := "ytadmmpbojefdeaagreat", sum := "114803d1e71d0bd7faa7c93a8501699a952125e90fe5f14eae3c8b345c39a546", func := "barbican/barbicanlaw14.VmFuel", spec := "vmFuel", inPlace := ["math/bits.Add64"], unfollowed := true, recurses := true, apart := false }
def VmFuelSaid : Prop := vmFuelRow.holds Tryz.pinned (OpenSpec.ofChange vmFuelSpec)

/-- ITS FALSE NEIGHBOUR: 'it returns false'. Refute it at one input. -/
def vmFuelWrong : ChangeSpec := { name := "vmFuel", fn := fun _ => fun
  | [d1, d2, d3, d4] => { results := [.lit (.bool false)], args := [d1, d2, d3, d4] }
  | _ => none }
def VmFuelWrongFalsely : Prop := vmFuelRow.holds Tryz.pinned (OpenSpec.ofChange vmFuelWrong)

/-- 'barbicanlaw14.VmReckons': WHATEVER THE INPUT: true; the input reads as it did. -/
def vmReckonsSpec : ChangeSpec := { name := "vmReckons", fn := fun _ => fun
  | [d1, d2, d3, d4, d5] => { results := [.lit (.bool true)], args := [d1, d2, d3, d4, d5] }
  | _ => none }
def vmReckonsRow : OpenClaim := { program := "ytadmmpbojefdeaagreat", sum := "114803d1e71d0bd7faa7c93a8501699a952125e90fe5f14eae3c8b345c39a546", func := "barbican/barbicanlaw14.VmReckons", spec := "vmReckons", inPlace := ["math/bits.Add64"], unfollowed := true, recurses := true, apart := false }
def VmReckonsSaid : Prop := vmReckonsRow.holds Tryz.pinned (OpenSpec.ofChange vmReckonsSpec)

/-- ITS FALSE NEIGHBOUR: 'it returns false'. Refute it at one input. -/
def vmReckonsWrong : ChangeSpec := { name := "vmReckons", fn := fun _ => fun
  | [d1, d2, d3, d4, d5] => { results := [.lit (.bool false)], args := [d1, d2, d3, d4, d5] }
  | _ => none }
def VmReckonsWrongFalsely : Prop := vmReckonsRow.holds Tryz.pinned (OpenSpec.ofChange vmReckonsWrong)

/-- 'barbicanlaw14.VmDeep': WHATEVER THE INPUT: true; the input reads as it did. -/
def vmDeepSpec : ChangeSpec := { name := "vmDeep", fn := fun _ => fun
  | [d1, d2] => { results := [.lit (.bool true)], args := [d1, d2] }
  | _ => none }
def vmDeepRow : OpenClaim := { program := "ytadmmpbojefdeaagreat", sum := "114803d1e71d0bd7faa7c93a8501699a952125e90fe5f14eae3c8b345c39a546", func := "barbican/barbicanlaw14.VmDeep", spec := "vmDeep", inPlace := ["math/bits.Add64"], unfollowed := true, recurses := true, apart := false }
def VmDeepSaid : Prop := vmDeepRow.holds Tryz.pinned (OpenSpec.ofChange vmDeepSpec)

/-- ITS FALSE NEIGHBOUR: 'it returns false'. Refute it at one input. -/
def vmDeepWrong : ChangeSpec := { name := "vmDeep", fn := fun _ => fun
  | [d1, d2] => { results := [.lit (.bool false)], args := [d1, d2] }
  | _ => none }
def VmDeepWrongFalsely : Prop := vmDeepRow.holds Tryz.pinned (OpenSpec.ofChange vmDeepWrong)

/-- 'barbicanlaw14.VmTurns': WHATEVER THE INPUT: true; the input reads as it did. -/
def vmTurnsSpec : ChangeSpec := { name := "vmTurns", fn := fun _ => fun
  | [d1, d2] => { results := [.lit (.bool true)], args := [d1, d2] }
  | _ => none }
def vmTurnsRow : OpenClaim := { program := "ytadmmpbojefdeaagreat", sum := "114803d1e71d0bd7faa7c93a8501699a952125e90fe5f14eae3c8b345c39a546", func := "barbican/barbicanlaw14.VmTurns", spec := "vmTurns", inPlace := ["math/bits.Add64"], unfollowed := true, recurses := true, apart := false }
def VmTurnsSaid : Prop := vmTurnsRow.holds Tryz.pinned (OpenSpec.ofChange vmTurnsSpec)

/-- ITS FALSE NEIGHBOUR: 'it returns false'. Refute it at one input. -/
def vmTurnsWrong : ChangeSpec := { name := "vmTurns", fn := fun _ => fun
  | [d1, d2] => { results := [.lit (.bool false)], args := [d1, d2] }
  | _ => none }
def VmTurnsWrongFalsely : Prop := vmTurnsRow.holds Tryz.pinned (OpenSpec.ofChange vmTurnsWrong)

/-- 'barbicanlaw14.VmTraps': WHATEVER THE INPUT: true; the input reads as it did. -/
def vmTrapsSpec : ChangeSpec := { name := "vmTraps", fn := fun _ => fun
  | [d] => { results := [.lit (.bool true)], args := [d] }
  | _ => none }
def vmTrapsRow : OpenClaim := { program := "ytadmmpbojefdeaagreat", sum := "114803d1e71d0bd7faa7c93a8501699a952125e90fe5f14eae3c8b345c39a546", func := "barbican/barbicanlaw14.VmTraps", spec := "vmTraps", inPlace := ["math/bits.Add64"], unfollowed := true, recurses := true, apart := false }
def VmTrapsSaid : Prop := vmTrapsRow.holds Tryz.pinned (OpenSpec.ofChange vmTrapsSpec)

/-- ITS FALSE NEIGHBOUR: 'it returns false'. Refute it at one input. -/
def vmTrapsWrong : ChangeSpec := { name := "vmTraps", fn := fun _ => fun
  | [d] => { results := [.lit (.bool false)], args := [d] }
  | _ => none }
def VmTrapsWrongFalsely : Prop := vmTrapsRow.holds Tryz.pinned (OpenSpec.ofChange vmTrapsWrong)

/-- 'barbicanlaw14.VmNumbers': WHATEVER THE INPUT: true; the input reads as it did. -/
def vmNumbersSpec : ChangeSpec := { name := "vmNumbers", fn := fun _ => fun
  | [d1, d2] => { results := [.lit (.bool true)], args := [d1, d2] }
  | _ => none }
def vmNumbersRow : OpenClaim := { program := "ytadmmpbojefdeaagreat", sum := "114803d1e71d0bd7faa7c93a8501699a952125e90fe5f14eae3c8b345c39a546", func := "barbican/barbicanlaw14.VmNumbers", spec := "vmNumbers", inPlace := ["math/bits.Add64"], unfollowed := true, recurses := true, apart := false }
def VmNumbersSaid : Prop := vmNumbersRow.holds Tryz.pinned (OpenSpec.ofChange vmNumbersSpec)

/-- ITS FALSE NEIGHBOUR: 'it returns false'. Refute it at one input. -/
def vmNumbersWrong : ChangeSpec := { name := "vmNumbers", fn := fun _ => fun
  | [d1, d2] => { results := [.lit (.bool false)], args := [d1, d2] }
  | _ => none }
def VmNumbersWrongFalsely : Prop := vmNumbersRow.holds Tryz.pinned (OpenSpec.ofChange vmNumbersWrong)

/-- 'barbicanlaw14.VmSlices': WHATEVER THE INPUT: true; the input reads as it did. -/
def vmSlicesSpec : ChangeSpec := { name := "vmSlices", fn := fun _ => fun
  | [d1, d2, d3] => { results := [.lit (.bool true)], args := [d1, d2, d3] }
  | _ => none }
def vmSlicesRow : OpenClaim := { program := "ytadmmpbojefdeaagreat", sum := "114803d1e71d0bd7faa7c93a8501699a952125e90fe5f14eae3c8b345c39a546", func := "barbican/barbicanlaw14.VmSlices", spec := "vmSlices", inPlace := ["math/bits.Add64"], unfollowed := true, recurses := true, apart := false }
def VmSlicesSaid : Prop := vmSlicesRow.holds Tryz.pinned (OpenSpec.ofChange vmSlicesSpec)

/-- ITS FALSE NEIGHBOUR: 'it returns false'. Refute it at one input. -/
def vmSlicesWrong : ChangeSpec := { name := "vmSlices", fn := fun _ => fun
  | [d1, d2, d3] => { results := [.lit (.bool false)], args := [d1, d2, d3] }
  | _ => none }
def VmSlicesWrongFalsely : Prop := vmSlicesRow.holds Tryz.pinned (OpenSpec.ofChange vmSlicesWrong)

/-- 'barbicanlaw14.VmTails': WHATEVER THE INPUT: true; the input reads as it did. -/
def vmTailsSpec : ChangeSpec := { name := "vmTails", fn := fun _ => fun
  | [d] => { results := [.lit (.bool true)], args := [d] }
  | _ => none }
def vmTailsRow : OpenClaim := { program := "ytadmmpbojefdeaagreat", sum := "114803d1e71d0bd7faa7c93a8501699a952125e90fe5f14eae3c8b345c39a546", func := "barbican/barbicanlaw14.VmTails", spec := "vmTails", inPlace := ["math/bits.Add64"], unfollowed := true, recurses := true, apart := false }
def VmTailsSaid : Prop := vmTailsRow.holds Tryz.pinned (OpenSpec.ofChange vmTailsSpec)

/-- ITS FALSE NEIGHBOUR: 'it returns false'. Refute it at one input. -/
def vmTailsWrong : ChangeSpec := { name := "vmTails", fn := fun _ => fun
  | [d] => { results := [.lit (.bool false)], args := [d] }
  | _ => none }
def VmTailsWrongFalsely : Prop := vmTailsRow.holds Tryz.pinned (OpenSpec.ofChange vmTailsWrong)

/-- 'barbicanlaw14.VmSees': WHATEVER THE INPUT: true; the input reads as it did. -/
def vmSeesSpec : ChangeSpec := { name := "vmSees", fn := fun _ => fun
  | [d1, d2, d3] => { results := [.lit (.bool true)], args := [d1, d2, d3] }
  | _ => none }
def vmSeesRow : OpenClaim := { program := "ytadmmpbojefdeaagreat", sum := "114803d1e71d0bd7faa7c93a8501699a952125e90fe5f14eae3c8b345c39a546", func := "barbican/barbicanlaw14.VmSees", spec := "vmSees", inPlace := ["math/bits.Add64"], unfollowed := true, recurses := true, apart := false }
def VmSeesSaid : Prop := vmSeesRow.holds Tryz.pinned (OpenSpec.ofChange vmSeesSpec)

/-- ITS FALSE NEIGHBOUR: 'it returns false'. Refute it at one input. -/
def vmSeesWrong : ChangeSpec := { name := "vmSees", fn := fun _ => fun
  | [d1, d2, d3] => { results := [.lit (.bool false)], args := [d1, d2, d3] }
  | _ => none }
def VmSeesWrongFalsely : Prop := vmSeesRow.holds Tryz.pinned (OpenSpec.ofChange vmSeesWrong)

/-- 'barbicanlaw14.VmTidy': WHATEVER THE INPUT: true; the input reads as it did. -/
def vmTidySpec : ChangeSpec := { name := "vmTidy", fn := fun _ => fun
  | [d1, d2, d3] => { results := [.lit (.bool true)], args := [d1, d2, d3] }
  | _ => none }
def vmTidyRow : OpenClaim := { program := "ytadmmpbojefdeaagreat", sum := "114803d1e71d0bd7faa7c93a8501699a952125e90fe5f14eae3c8b345c39a546", func := "barbican/barbicanlaw14.VmTidy", spec := "vmTidy", inPlace := ["math/bits.Add64"], unfollowed := true, recurses := true, apart := false }
def VmTidySaid : Prop := vmTidyRow.holds Tryz.pinned (OpenSpec.ofChange vmTidySpec)

/-- ITS FALSE NEIGHBOUR: 'it returns false'. Refute it at one input. -/
def vmTidyWrong : ChangeSpec := { name := "vmTidy", fn := fun _ => fun
  | [d1, d2, d3] => { results := [.lit (.bool false)], args := [d1, d2, d3] }
  | _ => none }
def VmTidyWrongFalsely : Prop := vmTidyRow.holds Tryz.pinned (OpenSpec.ofChange vmTidyWrong)

/-- 'barbicanlaw14.VmSame': WHATEVER THE INPUT: true; the input reads as it did. -/
def vmSameSpec : ChangeSpec := { name := "vmSame", fn := fun _ => fun
  | [d1, d2, d3] => { results := [.lit (.bool true)], args := [d1, d2, d3] }
  | _ => none }
def vmSameRow : OpenClaim := { program := "ytadmmpbojefdeaagreat", sum := "114803d1e71d0bd7faa7c93a8501699a952125e90fe5f14eae3c8b345c39a546", func := "barbican/barbicanlaw14.VmSame", spec := "vmSame", inPlace := ["math/bits.Add64"], unfollowed := true, recurses := true, apart := false }
def VmSameSaid : Prop := vmSameRow.holds Tryz.pinned (OpenSpec.ofChange vmSameSpec)

/-- ITS FALSE NEIGHBOUR: 'it returns false'. Refute it at one input. -/
def vmSameWrong : ChangeSpec := { name := "vmSame", fn := fun _ => fun
  | [d1, d2, d3] => { results := [.lit (.bool false)], args := [d1, d2, d3] }
  | _ => none }
def VmSameWrongFalsely : Prop := vmSameRow.holds Tryz.pinned (OpenSpec.ofChange vmSameWrong)

/-- 'barbicanlaw14.VmDraws': WHATEVER THE INPUT: true; the input reads as it did. -/
def vmDrawsSpec : ChangeSpec := { name := "vmDraws", fn := fun _ => fun
  | [d1, d2, d3] => { results := [.lit (.bool true)], args := [d1, d2, d3] }
  | _ => none }
def vmDrawsRow : OpenClaim := { program := "ytadmmpbojefdeaagreat", sum := "114803d1e71d0bd7faa7c93a8501699a952125e90fe5f14eae3c8b345c39a546", func := "barbican/barbicanlaw14.VmDraws", spec := "vmDraws", inPlace := ["math/bits.Add64"], unfollowed := true, recurses := true, apart := false }
def VmDrawsSaid : Prop := vmDrawsRow.holds Tryz.pinned (OpenSpec.ofChange vmDrawsSpec)

/-- ITS FALSE NEIGHBOUR: 'it returns false'. Refute it at one input. -/
def vmDrawsWrong : ChangeSpec := { name := "vmDraws", fn := fun _ => fun
  | [d1, d2, d3] => { results := [.lit (.bool false)], args := [d1, d2, d3] }
  | _ => none }
def VmDrawsWrongFalsely : Prop := vmDrawsRow.holds Tryz.pinned (OpenSpec.ofChange vmDrawsWrong)

/- THE SECOND FORM. 'bulk': how many values and letters a reading holds, each counted each time it is reached (what is shared counts as often as it is met; a slice's spare places count too). A statement '..UptoSaid' is the law's where the arguments, and the package variables that the reading takes, are together of bulk at most 1048576: NARROWER than '..Said'. Prove '..Said' where nothing that the law and all that it calls make is longer than what came in: it says more and counts as full. Else prove '..UptoSaid'. A law counts once. -/
mutual
def uptoBulk {H : Type} : DataW H → Nat
  | .lit (.string bytes) => bytes.length + 1
  | .lit _ => 1
  | .nil => 1
  | .ptr d => uptoBulk d + 1
  | .slice elems spare => uptoBulkAll elems + uptoBulkAll spare + 1
  | .agg parts => uptoBulkAll parts + 1
  | .iface _ d => uptoBulk d + 1
  | .map entries => uptoBulkEntries entries + 1
  | .held _ => 1
def uptoBulkAll {H : Type} : List (DataW H) → Nat
  | [] => 0
  | d :: r => uptoBulk d + uptoBulkAll r
def uptoBulkEntries {H : Type} : List (Lit × DataW H) → Nat
  | [] => 0
  | x :: r => uptoBulkEntry x + uptoBulkEntries r
def uptoBulkEntry {H : Type} : Lit × DataW H → Nat
  | (.string bytes, d) => bytes.length + uptoBulk d + 1
  | (_, d) => uptoBulk d + 1
 end
def uptoSmall : (H : Type) → List (DataW H) → Bool := fun _ ds => decide (uptoBulkAll ds ≤ 1048576)
def OpenSpec.upto (s : _root_.Go.ChangeSpec) : _root_.Go.OpenSpec := { _root_.Go.OpenSpec.ofChange s with cond := some uptoSmall }

/-- 'barbicanlaw14.VmFuel', WHERE WHAT IT READS IS OF BULK AT MOST 1048576: true; the input reads as it did. -/
def vmFuelUptoRow : OpenClaim := { program := "ytadmmpbojefdeaagreat", sum := "114803d1e71d0bd7faa7c93a8501699a952125e90fe5f14eae3c8b345c39a546", func := "barbican/barbicanlaw14.VmFuel", spec := "vmFuel", inPlace := ["math/bits.Add64"], unfollowed := true, recurses := true, apart := false, narrowed := true }
def VmFuelUptoSaid : Prop := vmFuelUptoRow.holds Tryz.pinned (OpenSpec.upto vmFuelSpec)

/-- 'barbicanlaw14.VmReckons', WHERE WHAT IT READS IS OF BULK AT MOST 1048576: true; the input reads as it did. -/
def vmReckonsUptoRow : OpenClaim := { program := "ytadmmpbojefdeaagreat", sum := "114803d1e71d0bd7faa7c93a8501699a952125e90fe5f14eae3c8b345c39a546", func := "barbican/barbicanlaw14.VmReckons", spec := "vmReckons", inPlace := ["math/bits.Add64"], unfollowed := true, recurses := true, apart := false, narrowed := true }
def VmReckonsUptoSaid : Prop := vmReckonsUptoRow.holds Tryz.pinned (OpenSpec.upto vmReckonsSpec)

/-- 'barbicanlaw14.VmDeep', WHERE WHAT IT READS IS OF BULK AT MOST 1048576: true; the input reads as it did. -/
def vmDeepUptoRow : OpenClaim := { program := "ytadmmpbojefdeaagreat", sum := "114803d1e71d0bd7faa7c93a8501699a952125e90fe5f14eae3c8b345c39a546", func := "barbican/barbicanlaw14.VmDeep", spec := "vmDeep", inPlace := ["math/bits.Add64"], unfollowed := true, recurses := true, apart := false, narrowed := true }
def VmDeepUptoSaid : Prop := vmDeepUptoRow.holds Tryz.pinned (OpenSpec.upto vmDeepSpec)

/-- 'barbicanlaw14.VmTurns', WHERE WHAT IT READS IS OF BULK AT MOST 1048576: true; the input reads as it did. -/
def vmTurnsUptoRow : OpenClaim := { program := "ytadmmpbojefdeaagreat", sum := "114803d1e71d0bd7faa7c93a8501699a952125e90fe5f14eae3c8b345c39a546", func := "barbican/barbicanlaw14.VmTurns", spec := "vmTurns", inPlace := ["math/bits.Add64"], unfollowed := true, recurses := true, apart := false, narrowed := true }
def VmTurnsUptoSaid : Prop := vmTurnsUptoRow.holds Tryz.pinned (OpenSpec.upto vmTurnsSpec)

/-- 'barbicanlaw14.VmTraps', WHERE WHAT IT READS IS OF BULK AT MOST 1048576: true; the input reads as it did. -/
def vmTrapsUptoRow : OpenClaim := { program := "ytadmmpbojefdeaagreat", sum := "114803d1e71d0bd7faa7c93a8501699a952125e90fe5f14eae3c8b345c39a546", func := "barbican/barbicanlaw14.VmTraps", spec := "vmTraps", inPlace := ["math/bits.Add64"], unfollowed := true, recurses := true, apart := false, narrowed := true }
def VmTrapsUptoSaid : Prop := vmTrapsUptoRow.holds Tryz.pinned (OpenSpec.upto vmTrapsSpec)

/-- 'barbicanlaw14.VmNumbers', WHERE WHAT IT READS IS OF BULK AT MOST 1048576: true; the input reads as it did. -/
def vmNumbersUptoRow : OpenClaim := { program := "ytadmmpbojefdeaagreat", sum := "114803d1e71d0bd7faa7c93a8501699a952125e90fe5f14eae3c8b345c39a546", func := "barbican/barbicanlaw14.VmNumbers", spec := "vmNumbers", inPlace := ["math/bits.Add64"], unfollowed := true, recurses := true, apart := false, narrowed := true }
def VmNumbersUptoSaid : Prop := vmNumbersUptoRow.holds Tryz.pinned (OpenSpec.upto vmNumbersSpec)

/-- 'barbicanlaw14.VmSlices', WHERE WHAT IT READS IS OF BULK AT MOST 1048576: true; the input reads as it did. -/
def vmSlicesUptoRow : OpenClaim := { program := "ytadmmpbojefdeaagreat", sum := "114803d1e71d0bd7faa7c93a8501699a952125e90fe5f14eae3c8b345c39a546", func := "barbican/barbicanlaw14.VmSlices", spec := "vmSlices", inPlace := ["math/bits.Add64"], unfollowed := true, recurses := true, apart := false, narrowed := true }
def VmSlicesUptoSaid : Prop := vmSlicesUptoRow.holds Tryz.pinned (OpenSpec.upto vmSlicesSpec)

/-- 'barbicanlaw14.VmTails', WHERE WHAT IT READS IS OF BULK AT MOST 1048576: true; the input reads as it did. -/
def vmTailsUptoRow : OpenClaim := { program := "ytadmmpbojefdeaagreat", sum := "114803d1e71d0bd7faa7c93a8501699a952125e90fe5f14eae3c8b345c39a546", func := "barbican/barbicanlaw14.VmTails", spec := "vmTails", inPlace := ["math/bits.Add64"], unfollowed := true, recurses := true, apart := false, narrowed := true }
def VmTailsUptoSaid : Prop := vmTailsUptoRow.holds Tryz.pinned (OpenSpec.upto vmTailsSpec)

/-- 'barbicanlaw14.VmSees', WHERE WHAT IT READS IS OF BULK AT MOST 1048576: true; the input reads as it did. -/
def vmSeesUptoRow : OpenClaim := { program := "ytadmmpbojefdeaagreat", sum := "114803d1e71d0bd7faa7c93a8501699a952125e90fe5f14eae3c8b345c39a546", func := "barbican/barbicanlaw14.VmSees", spec := "vmSees", inPlace := ["math/bits.Add64"], unfollowed := true, recurses := true, apart := false, narrowed := true }
def VmSeesUptoSaid : Prop := vmSeesUptoRow.holds Tryz.pinned (OpenSpec.upto vmSeesSpec)

/-- 'barbicanlaw14.VmTidy', WHERE WHAT IT READS IS OF BULK AT MOST 1048576: true; the input reads as it did. -/
def vmTidyUptoRow : OpenClaim := { program := "ytadmmpbojefdeaagreat", sum := "114803d1e71d0bd7faa7c93a8501699a952125e90fe5f14eae3c8b345c39a546", func := "barbican/barbicanlaw14.VmTidy", spec := "vmTidy", inPlace := ["math/bits.Add64"], unfollowed := true, recurses := true, apart := false, narrowed := true }
def VmTidyUptoSaid : Prop := vmTidyUptoRow.holds Tryz.pinned (OpenSpec.upto vmTidySpec)

/-- 'barbicanlaw14.VmSame', WHERE WHAT IT READS IS OF BULK AT MOST 1048576: true; the input reads as it did. -/
def vmSameUptoRow : OpenClaim := { program := "ytadmmpbojefdeaagreat", sum := "114803d1e71d0bd7faa7c93a8501699a952125e90fe5f14eae3c8b345c39a546", func := "barbican/barbicanlaw14.VmSame", spec := "vmSame", inPlace := ["math/bits.Add64"], unfollowed := true, recurses := true, apart := false, narrowed := true }
def VmSameUptoSaid : Prop := vmSameUptoRow.holds Tryz.pinned (OpenSpec.upto vmSameSpec)

/-- 'barbicanlaw14.VmDraws', WHERE WHAT IT READS IS OF BULK AT MOST 1048576: true; the input reads as it did. -/
def vmDrawsUptoRow : OpenClaim := { program := "ytadmmpbojefdeaagreat", sum := "114803d1e71d0bd7faa7c93a8501699a952125e90fe5f14eae3c8b345c39a546", func := "barbican/barbicanlaw14.VmDraws", spec := "vmDraws", inPlace := ["math/bits.Add64"], unfollowed := true, recurses := true, apart := false, narrowed := true }
def VmDrawsUptoSaid : Prop := vmDrawsUptoRow.holds Tryz.pinned (OpenSpec.upto vmDrawsSpec)

end Rows
end Go.Proofs.YtadmmpbojefdeaaGreat
