/-
  No cell of these rows narrows 'for every input' (looked for: loops, veiled, ifaces, maps, wideKeys, modest, calm, conditions, laid).
  DERIVED. THE GIVEN ROWS OF THIS SEAT. 9 by the template 'for every input the law returns true; each argument reads behind the call as it read before'; 0 by the template 'total and deterministic' (their statements: YtjhgnohofcahbaaTotals.lean).
  GIVEN WITH THE SEED: the statements are not yours to turn. If you find one false, say at which input.
  Laid BY PROGRAM, IN A SANDBOX (cutbox-rows.mjs): the forced cells as the released guide's own fill.sh prints them over the translation 5cf45b445c016e89… (all of the seat's roots in one cut). By AI agents, Wed Nov 11 2026. No macro, syntax, notation, axiom, sorry.
-/
import Derived.Test.YtjhgnohofcahbaaChecked
import GoSem.Claim
import GoSem.ClaimJoined
import GoSem.ClaimMapViews
import Derived.JoinedTies
import Derived.KernelRfl
namespace Go.Proofs.Ytjhgnohofcahbaa
/- THE CELL 'sum', in the pinned program and in every row, IS THE sha256 OF THE DUMP (.gsa) THAT YtjhgnohofcahbaaProg.lean LOADS. Nothing in Lean hashes anything: it is a label: what it is worth is what the hold of that sum in a sandbox is worth. -/
noncomputable def Try.pinned : Pinned := { name := "ytjhgnohofcahbaa", sum := "5cf45b445c016e8980fa89f8ad36ff5b783c8a62ef9b05499dac4c41d3283d87", checked := Try.checked }
namespace Rows
def none {H : Type} : Left H := { results := [], args := [] }

/-- 'tallymanlaw13.RecordBack': WHATEVER THE INPUT: true; the input reads as it did. -/
def recordBackSpec : ChangeSpec := { name := "recordBack", fn := fun _ => fun
  | [d1, d2, d3, d4, d5] => { results := [.lit (.bool true)], args := [d1, d2, d3, d4, d5] }
  | _ => none }
def recordBackRow : OpenClaim := { program := "ytjhgnohofcahbaa", sum := "5cf45b445c016e8980fa89f8ad36ff5b783c8a62ef9b05499dac4c41d3283d87", func := "tallyman/tallymanlaw13.RecordBack", spec := "recordBack", apart := false }
def RecordBackSaid : Prop := recordBackRow.holds Try.pinned (OpenSpec.ofChange recordBackSpec)

/-- ITS FALSE NEIGHBOUR: 'it returns false'. Refute it at one input. -/
def recordBackWrong : ChangeSpec := { name := "recordBack", fn := fun _ => fun
  | [d1, d2, d3, d4, d5] => { results := [.lit (.bool false)], args := [d1, d2, d3, d4, d5] }
  | _ => none }
def RecordBackWrongFalsely : Prop := recordBackRow.holds Try.pinned (OpenSpec.ofChange recordBackWrong)

/-- 'tallymanlaw13.RecordNames': WHATEVER THE INPUT: true; the input reads as it did. -/
def recordNamesSpec : ChangeSpec := { name := "recordNames", fn := fun _ => fun
  | [] => { results := [.lit (.bool true)], args := [] }
  | _ => none }
def recordNamesRow : OpenClaim := { program := "ytjhgnohofcahbaa", sum := "5cf45b445c016e8980fa89f8ad36ff5b783c8a62ef9b05499dac4c41d3283d87", func := "tallyman/tallymanlaw13.RecordNames", spec := "recordNames", inPlace := ["internal/bytealg.Compare"], apart := false }
def RecordNamesSaid : Prop := recordNamesRow.holds Try.pinned (OpenSpec.ofChange recordNamesSpec)

/-- ITS FALSE NEIGHBOUR: 'it returns false'. Refute it at one input. -/
def recordNamesWrong : ChangeSpec := { name := "recordNames", fn := fun _ => fun
  | [] => { results := [.lit (.bool false)], args := [] }
  | _ => none }
def RecordNamesWrongFalsely : Prop := recordNamesRow.holds Try.pinned (OpenSpec.ofChange recordNamesWrong)

/-- 'tallymanlaw08.SpaceBack': WHATEVER THE INPUT: true; the input reads as it did. -/
def spaceBackSpec : ChangeSpec := { name := "spaceBack", fn := fun _ => fun
  | [d1, d2] => { results := [.lit (.bool true)], args := [d1, d2] }
  | _ => none }
def spaceBackRow : OpenClaim := { program := "ytjhgnohofcahbaa", sum := "5cf45b445c016e8980fa89f8ad36ff5b783c8a62ef9b05499dac4c41d3283d87", func := "tallyman/tallymanlaw08.SpaceBack", spec := "spaceBack", unfollowed := true, recurses := true, apart := false }
def SpaceBackSaid : Prop := spaceBackRow.holds Try.pinned (OpenSpec.ofChange spaceBackSpec)

/-- ITS FALSE NEIGHBOUR: 'it returns false'. Refute it at one input. -/
def spaceBackWrong : ChangeSpec := { name := "spaceBack", fn := fun _ => fun
  | [d1, d2] => { results := [.lit (.bool false)], args := [d1, d2] }
  | _ => none }
def SpaceBackWrongFalsely : Prop := spaceBackRow.holds Try.pinned (OpenSpec.ofChange spaceBackWrong)

/-- 'tallymanlaw13.RecordOrder': WHATEVER THE INPUT: true; the input reads as it did. -/
def recordOrderSpec : ChangeSpec := { name := "recordOrder", fn := fun _ => fun
  | [d1, d2, d3] => { results := [.lit (.bool true)], args := [d1, d2, d3] }
  | _ => none }
def recordOrderRow : OpenClaim := { program := "ytjhgnohofcahbaa", sum := "5cf45b445c016e8980fa89f8ad36ff5b783c8a62ef9b05499dac4c41d3283d87", func := "tallyman/tallymanlaw13.RecordOrder", spec := "recordOrder", inPlace := ["internal/bytealg.Compare"], apart := false }
def RecordOrderSaid : Prop := recordOrderRow.holds Try.pinned (OpenSpec.ofChange recordOrderSpec)

/-- ITS FALSE NEIGHBOUR: 'it returns false'. Refute it at one input. -/
def recordOrderWrong : ChangeSpec := { name := "recordOrder", fn := fun _ => fun
  | [d1, d2, d3] => { results := [.lit (.bool false)], args := [d1, d2, d3] }
  | _ => none }
def RecordOrderWrongFalsely : Prop := recordOrderRow.holds Try.pinned (OpenSpec.ofChange recordOrderWrong)

/-- 'tallymanlaw08.SpaceCounts': WHATEVER THE INPUT: true; the input reads as it did. -/
def spaceCountsSpec : ChangeSpec := { name := "spaceCounts", fn := fun _ => fun
  | [d1, d2] => { results := [.lit (.bool true)], args := [d1, d2] }
  | _ => none }
def spaceCountsRow : OpenClaim := { program := "ytjhgnohofcahbaa", sum := "5cf45b445c016e8980fa89f8ad36ff5b783c8a62ef9b05499dac4c41d3283d87", func := "tallyman/tallymanlaw08.SpaceCounts", spec := "spaceCounts", unfollowed := true, recurses := true, apart := false }
def SpaceCountsSaid : Prop := spaceCountsRow.holds Try.pinned (OpenSpec.ofChange spaceCountsSpec)

/-- ITS FALSE NEIGHBOUR: 'it returns false'. Refute it at one input. -/
def spaceCountsWrong : ChangeSpec := { name := "spaceCounts", fn := fun _ => fun
  | [d1, d2] => { results := [.lit (.bool false)], args := [d1, d2] }
  | _ => none }
def SpaceCountsWrongFalsely : Prop := spaceCountsRow.holds Try.pinned (OpenSpec.ofChange spaceCountsWrong)

/-- 'tallymanlaw13.RecordFits': WHATEVER THE INPUT: true; the input reads as it did. -/
def recordFitsSpec : ChangeSpec := { name := "recordFits", fn := fun _ => fun
  | [d1, d2, d3, d4] => { results := [.lit (.bool true)], args := [d1, d2, d3, d4] }
  | _ => none }
def recordFitsRow : OpenClaim := { program := "ytjhgnohofcahbaa", sum := "5cf45b445c016e8980fa89f8ad36ff5b783c8a62ef9b05499dac4c41d3283d87", func := "tallyman/tallymanlaw13.RecordFits", spec := "recordFits", unfollowed := true, recurses := true, apart := false }
def RecordFitsSaid : Prop := recordFitsRow.holds Try.pinned (OpenSpec.ofChange recordFitsSpec)

/-- ITS FALSE NEIGHBOUR: 'it returns false'. Refute it at one input. -/
def recordFitsWrong : ChangeSpec := { name := "recordFits", fn := fun _ => fun
  | [d1, d2, d3, d4] => { results := [.lit (.bool false)], args := [d1, d2, d3, d4] }
  | _ => none }
def RecordFitsWrongFalsely : Prop := recordFitsRow.holds Try.pinned (OpenSpec.ofChange recordFitsWrong)

/-- 'tallymanlaw08.SpaceNames': WHATEVER THE INPUT: true; the input reads as it did. -/
def spaceNamesSpec : ChangeSpec := { name := "spaceNames", fn := fun _ => fun
  | [] => { results := [.lit (.bool true)], args := [] }
  | _ => none }
def spaceNamesRow : OpenClaim := { program := "ytjhgnohofcahbaa", sum := "5cf45b445c016e8980fa89f8ad36ff5b783c8a62ef9b05499dac4c41d3283d87", func := "tallyman/tallymanlaw08.SpaceNames", spec := "spaceNames", unfollowed := true, recurses := true, apart := false }
def SpaceNamesSaid : Prop := spaceNamesRow.holds Try.pinned (OpenSpec.ofChange spaceNamesSpec)

/-- ITS FALSE NEIGHBOUR: 'it returns false'. Refute it at one input. -/
def spaceNamesWrong : ChangeSpec := { name := "spaceNames", fn := fun _ => fun
  | [] => { results := [.lit (.bool false)], args := [] }
  | _ => none }
def SpaceNamesWrongFalsely : Prop := spaceNamesRow.holds Try.pinned (OpenSpec.ofChange spaceNamesWrong)

/-- 'tallymanlaw08.SpaceCalls': WHATEVER THE INPUT: true; the input reads as it did. -/
def spaceCallsSpec : ChangeSpec := { name := "spaceCalls", fn := fun _ => fun
  | [d1, d2, d3, d4] => { results := [.lit (.bool true)], args := [d1, d2, d3, d4] }
  | _ => none }
def spaceCallsRow : OpenClaim := { program := "ytjhgnohofcahbaa", sum := "5cf45b445c016e8980fa89f8ad36ff5b783c8a62ef9b05499dac4c41d3283d87", func := "tallyman/tallymanlaw08.SpaceCalls", spec := "spaceCalls", unfollowed := true, recurses := true, apart := false }
def SpaceCallsSaid : Prop := spaceCallsRow.holds Try.pinned (OpenSpec.ofChange spaceCallsSpec)

/-- ITS FALSE NEIGHBOUR: 'it returns false'. Refute it at one input. -/
def spaceCallsWrong : ChangeSpec := { name := "spaceCalls", fn := fun _ => fun
  | [d1, d2, d3, d4] => { results := [.lit (.bool false)], args := [d1, d2, d3, d4] }
  | _ => none }
def SpaceCallsWrongFalsely : Prop := spaceCallsRow.holds Try.pinned (OpenSpec.ofChange spaceCallsWrong)

/-- 'tallymanlaw08.SpaceTakes': WHATEVER THE INPUT: true; the input reads as it did. -/
def spaceTakesSpec : ChangeSpec := { name := "spaceTakes", fn := fun _ => fun
  | [d1, d2] => { results := [.lit (.bool true)], args := [d1, d2] }
  | _ => none }
def spaceTakesRow : OpenClaim := { program := "ytjhgnohofcahbaa", sum := "5cf45b445c016e8980fa89f8ad36ff5b783c8a62ef9b05499dac4c41d3283d87", func := "tallyman/tallymanlaw08.SpaceTakes", spec := "spaceTakes", unfollowed := true, recurses := true, apart := false }
def SpaceTakesSaid : Prop := spaceTakesRow.holds Try.pinned (OpenSpec.ofChange spaceTakesSpec)

/-- ITS FALSE NEIGHBOUR: 'it returns false'. Refute it at one input. -/
def spaceTakesWrong : ChangeSpec := { name := "spaceTakes", fn := fun _ => fun
  | [d1, d2] => { results := [.lit (.bool false)], args := [d1, d2] }
  | _ => none }
def SpaceTakesWrongFalsely : Prop := spaceTakesRow.holds Try.pinned (OpenSpec.ofChange spaceTakesWrong)

/- THE SECOND FORM. 'bulk': how many values and letters a reading holds, each counted each time it is reached (what is shared counts as often as it is met; a slice's spare places count too). A statement '..UptoSaid' is the law's where the arguments, and the package variables that the reading takes, are together of bulk at most 1048576: NARROWER than '..Said'. Prove '..Said' where nothing that the law and all that it calls make is longer than what came in: it says more and counts as full. Else prove '..UptoSaid'. A law counts once. -/
mutual
def uptoBulk {H : Type} : DataW H → Nat
  | .lit (.string bytes) => bytes.length + 1
  | .lit _ => 1
  | .nil => 1
  | .ptr d => uptoBulk d + 1
  | .slice elems spare => uptoBulkAll elems + uptoBulkAll spare + 1
  | .agg parts => uptoBulkAll parts + 1
  | .iface _ d => uptoBulk d + 1
  | .map entries => uptoBulkEntries entries + 1
  | .held _ => 1
def uptoBulkAll {H : Type} : List (DataW H) → Nat
  | [] => 0
  | d :: r => uptoBulk d + uptoBulkAll r
def uptoBulkEntries {H : Type} : List (Lit × DataW H) → Nat
  | [] => 0
  | x :: r => uptoBulkEntry x + uptoBulkEntries r
def uptoBulkEntry {H : Type} : Lit × DataW H → Nat
  | (.string bytes, d) => bytes.length + uptoBulk d + 1
  | (_, d) => uptoBulk d + 1
 end
def uptoSmall : (H : Type) → List (DataW H) → Bool := fun _ ds => decide (uptoBulkAll ds ≤ 1048576)
def OpenSpec.upto (s : _root_.Go.ChangeSpec) : _root_.Go.OpenSpec := { _root_.Go.OpenSpec.ofChange s with cond := some uptoSmall }

/-- 'tallymanlaw13.RecordBack', WHERE WHAT IT READS IS OF BULK AT MOST 1048576: true; the input reads as it did. -/
def recordBackUptoRow : OpenClaim := { program := "ytjhgnohofcahbaa", sum := "5cf45b445c016e8980fa89f8ad36ff5b783c8a62ef9b05499dac4c41d3283d87", func := "tallyman/tallymanlaw13.RecordBack", spec := "recordBack", apart := false, narrowed := true }
def RecordBackUptoSaid : Prop := recordBackUptoRow.holds Try.pinned (OpenSpec.upto recordBackSpec)

/-- 'tallymanlaw13.RecordNames', WHERE WHAT IT READS IS OF BULK AT MOST 1048576: true; the input reads as it did. -/
def recordNamesUptoRow : OpenClaim := { program := "ytjhgnohofcahbaa", sum := "5cf45b445c016e8980fa89f8ad36ff5b783c8a62ef9b05499dac4c41d3283d87", func := "tallyman/tallymanlaw13.RecordNames", spec := "recordNames", inPlace := ["internal/bytealg.Compare"], apart := false, narrowed := true }
def RecordNamesUptoSaid : Prop := recordNamesUptoRow.holds Try.pinned (OpenSpec.upto recordNamesSpec)

/-- 'tallymanlaw08.SpaceBack', WHERE WHAT IT READS IS OF BULK AT MOST 1048576: true; the input reads as it did. -/
def spaceBackUptoRow : OpenClaim := { program := "ytjhgnohofcahbaa", sum := "5cf45b445c016e8980fa89f8ad36ff5b783c8a62ef9b05499dac4c41d3283d87", func := "tallyman/tallymanlaw08.SpaceBack", spec := "spaceBack", unfollowed := true, recurses := true, apart := false, narrowed := true }
def SpaceBackUptoSaid : Prop := spaceBackUptoRow.holds Try.pinned (OpenSpec.upto spaceBackSpec)

/-- 'tallymanlaw13.RecordOrder', WHERE WHAT IT READS IS OF BULK AT MOST 1048576: true; the input reads as it did. -/
def recordOrderUptoRow : OpenClaim := { program := "ytjhgnohofcahbaa", sum := "5cf45b445c016e8980fa89f8ad36ff5b783c8a62ef9b05499dac4c41d3283d87", func := "tallyman/tallymanlaw13.RecordOrder", spec := "recordOrder", inPlace := ["internal/bytealg.Compare"], apart := false, narrowed := true }
def RecordOrderUptoSaid : Prop := recordOrderUptoRow.holds Try.pinned (OpenSpec.upto recordOrderSpec)

/-- 'tallymanlaw08.SpaceCounts', WHERE WHAT IT READS IS OF BULK AT MOST 1048576: true; the input reads as it did. -/
def spaceCountsUptoRow : OpenClaim := { program := "ytjhgnohofcahbaa", sum := "5cf45b445c016e8980fa89f8ad36ff5b783c8a62ef9b05499dac4c41d3283d87", func := "tallyman/tallymanlaw08.SpaceCounts", spec := "spaceCounts", unfollowed := true, recurses := true, apart := false, narrowed := true }
def SpaceCountsUptoSaid : Prop := spaceCountsUptoRow.holds Try.pinned (OpenSpec.upto spaceCountsSpec)

/-- 'tallymanlaw13.RecordFits', WHERE WHAT IT READS IS OF BULK AT MOST 1048576: true; the input reads as it did. -/
def recordFitsUptoRow : OpenClaim := { program := "ytjhgnohofcahbaa", sum := "5cf45b445c016e8980fa89f8ad36ff5b783c8a62ef9b05499dac4c41d3283d87", func := "tallyman/tallymanlaw13.RecordFits", spec := "recordFits", unfollowed := true, recurses := true, apart := false, narrowed := true }
def RecordFitsUptoSaid : Prop := recordFitsUptoRow.holds Try.pinned (OpenSpec.upto recordFitsSpec)

/-- 'tallymanlaw08.SpaceNames', WHERE WHAT IT READS IS OF BULK AT MOST 1048576: true; the input reads as it did. -/
def spaceNamesUptoRow : OpenClaim := { program := "ytjhgnohofcahbaa", sum := "5cf45b445c016e8980fa89f8ad36ff5b783c8a62ef9b05499dac4c41d3283d87", func := "tallyman/tallymanlaw08.SpaceNames", spec := "spaceNames", unfollowed := true, recurses := true, apart := false, narrowed := true }
def SpaceNamesUptoSaid : Prop := spaceNamesUptoRow.holds Try.pinned (OpenSpec.upto spaceNamesSpec)

/-- 'tallymanlaw08.SpaceCalls', WHERE WHAT IT READS IS OF BULK AT MOST 1048576: true; the input reads as it did. -/
def spaceCallsUptoRow : OpenClaim := { program := "ytjhgnohofcahbaa", sum := "5cf45b445c016e8980fa89f8ad36ff5b783c8a62ef9b05499dac4c41d3283d87", func := "tallyman/tallymanlaw08.SpaceCalls", spec := "spaceCalls", unfollowed := true, recurses := true, apart := false, narrowed := true }
def SpaceCallsUptoSaid : Prop := spaceCallsUptoRow.holds Try.pinned (OpenSpec.upto spaceCallsSpec)

/-- 'tallymanlaw08.SpaceTakes', WHERE WHAT IT READS IS OF BULK AT MOST 1048576: true; the input reads as it did. -/
def spaceTakesUptoRow : OpenClaim := { program := "ytjhgnohofcahbaa", sum := "5cf45b445c016e8980fa89f8ad36ff5b783c8a62ef9b05499dac4c41d3283d87", func := "tallyman/tallymanlaw08.SpaceTakes", spec := "spaceTakes", unfollowed := true, recurses := true, apart := false, narrowed := true }
def SpaceTakesUptoSaid : Prop := spaceTakesUptoRow.holds Try.pinned (OpenSpec.upto spaceTakesSpec)

end Rows
end Go.Proofs.Ytjhgnohofcahbaa
