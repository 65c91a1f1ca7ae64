/-
  No cell of these rows narrows 'for every input' (looked for: loops, veiled, ifaces, maps, wideKeys, modest, calm, conditions, laid).
  DERIVED. THE GIVEN ROWS OF THIS SEAT. 5 by the template 'for every input the law returns true; each argument reads behind the call as it read before'; 0 by the template 'total and deterministic' (their statements: YtbedpjpddcjpkaaTotals.lean).
  GIVEN WITH THE SEED: the statements are not yours to turn. If you find one false, say at which input.
  Laid BY PROGRAM, IN A SANDBOX (cutbox-rows.mjs): the forced cells as the released guide's own fill.sh prints them over the translation 9f3d546a36a961cd… (all of the seat's roots in one cut). By AI agents, Wed Nov 11 2026. No macro, syntax, notation, axiom, sorry.
-/
import Derived.Test.YtbedpjpddcjpkaaChecked
import GoSem.Claim
import GoSem.ClaimJoined
import GoSem.ClaimMapViews
import Derived.JoinedTies
import Derived.KernelRfl
namespace Go.Proofs.Ytbedpjpddcjpkaa
/- THE CELL 'sum', in the pinned program and in every row, IS THE sha256 OF THE DUMP (.gsa) THAT YtbedpjpddcjpkaaProg.lean LOADS. Nothing in Lean hashes anything: it is a label: what it is worth is what the hold of that sum in a sandbox is worth. -/
noncomputable def Try.pinned : Pinned := { name := "ytbedpjpddcjpkaa", sum := "9f3d546a36a961cd3db1c5680ea5e7addb416a23999210ecb7b7c558d9cb3461", checked := Try.checked }
namespace Rows
def none {H : Type} : Left H := { results := [], args := [] }

/-- 'tallymanlaw04.SectorCrash': WHATEVER THE INPUT: true; the input reads as it did. -/
def sectorCrashSpec : ChangeSpec := { name := "sectorCrash", fn := fun _ => fun
  | [d1, d2, d3] => { results := [.lit (.bool true)], args := [d1, d2, d3] }
  | _ => none }
def sectorCrashRow : OpenClaim := { program := "ytbedpjpddcjpkaa", sum := "9f3d546a36a961cd3db1c5680ea5e7addb416a23999210ecb7b7c558d9cb3461", func := "tallyman/tallymanlaw04.SectorCrash", spec := "sectorCrash", apart := false }
def SectorCrashSaid : Prop := sectorCrashRow.holds Try.pinned (OpenSpec.ofChange sectorCrashSpec)

/-- ITS FALSE NEIGHBOUR: 'it returns false'. Refute it at one input. -/
def sectorCrashWrong : ChangeSpec := { name := "sectorCrash", fn := fun _ => fun
  | [d1, d2, d3] => { results := [.lit (.bool false)], args := [d1, d2, d3] }
  | _ => none }
def SectorCrashWrongFalsely : Prop := sectorCrashRow.holds Try.pinned (OpenSpec.ofChange sectorCrashWrong)

/-- 'tallymanlaw04.SectorNames': WHATEVER THE INPUT: true; the input reads as it did. -/
def sectorNamesSpec : ChangeSpec := { name := "sectorNames", fn := fun _ => fun
  | [] => { results := [.lit (.bool true)], args := [] }
  | _ => none }
def sectorNamesRow : OpenClaim := { program := "ytbedpjpddcjpkaa", sum := "9f3d546a36a961cd3db1c5680ea5e7addb416a23999210ecb7b7c558d9cb3461", func := "tallyman/tallymanlaw04.SectorNames", spec := "sectorNames", apart := false }
def SectorNamesSaid : Prop := sectorNamesRow.holds Try.pinned (OpenSpec.ofChange sectorNamesSpec)

/-- ITS FALSE NEIGHBOUR: 'it returns false'. Refute it at one input. -/
def sectorNamesWrong : ChangeSpec := { name := "sectorNames", fn := fun _ => fun
  | [] => { results := [.lit (.bool false)], args := [] }
  | _ => none }
def SectorNamesWrongFalsely : Prop := sectorNamesRow.holds Try.pinned (OpenSpec.ofChange sectorNamesWrong)

/-- 'tallymanlaw04.SectorScript': WHATEVER THE INPUT: true; the input reads as it did. -/
def sectorScriptSpec : ChangeSpec := { name := "sectorScript", fn := fun _ => fun
  | [d1, d2] => { results := [.lit (.bool true)], args := [d1, d2] }
  | _ => none }
def sectorScriptRow : OpenClaim := { program := "ytbedpjpddcjpkaa", sum := "9f3d546a36a961cd3db1c5680ea5e7addb416a23999210ecb7b7c558d9cb3461", func := "tallyman/tallymanlaw04.SectorScript", spec := "sectorScript", apart := false }
def SectorScriptSaid : Prop := sectorScriptRow.holds Try.pinned (OpenSpec.ofChange sectorScriptSpec)

/-- ITS FALSE NEIGHBOUR: 'it returns false'. Refute it at one input. -/
def sectorScriptWrong : ChangeSpec := { name := "sectorScript", fn := fun _ => fun
  | [d1, d2] => { results := [.lit (.bool false)], args := [d1, d2] }
  | _ => none }
def SectorScriptWrongFalsely : Prop := sectorScriptRow.holds Try.pinned (OpenSpec.ofChange sectorScriptWrong)

/-- 'tallymanlaw04.SectorNil': WHATEVER THE INPUT: true; the input reads as it did. -/
def sectorNilSpec : ChangeSpec := { name := "sectorNil", fn := fun _ => fun
  | [d1, d2, d3] => { results := [.lit (.bool true)], args := [d1, d2, d3] }
  | _ => none }
def sectorNilRow : OpenClaim := { program := "ytbedpjpddcjpkaa", sum := "9f3d546a36a961cd3db1c5680ea5e7addb416a23999210ecb7b7c558d9cb3461", func := "tallyman/tallymanlaw04.SectorNil", spec := "sectorNil", apart := false }
def SectorNilSaid : Prop := sectorNilRow.holds Try.pinned (OpenSpec.ofChange sectorNilSpec)

/-- ITS FALSE NEIGHBOUR: 'it returns false'. Refute it at one input. -/
def sectorNilWrong : ChangeSpec := { name := "sectorNil", fn := fun _ => fun
  | [d1, d2, d3] => { results := [.lit (.bool false)], args := [d1, d2, d3] }
  | _ => none }
def SectorNilWrongFalsely : Prop := sectorNilRow.holds Try.pinned (OpenSpec.ofChange sectorNilWrong)

/-- 'tallymanlaw04.SectorFails': WHATEVER THE INPUT: true; the input reads as it did. -/
def sectorFailsSpec : ChangeSpec := { name := "sectorFails", fn := fun _ => fun
  | [d1, d2, d3] => { results := [.lit (.bool true)], args := [d1, d2, d3] }
  | _ => none }
def sectorFailsRow : OpenClaim := { program := "ytbedpjpddcjpkaa", sum := "9f3d546a36a961cd3db1c5680ea5e7addb416a23999210ecb7b7c558d9cb3461", func := "tallyman/tallymanlaw04.SectorFails", spec := "sectorFails", apart := false }
def SectorFailsSaid : Prop := sectorFailsRow.holds Try.pinned (OpenSpec.ofChange sectorFailsSpec)

/-- ITS FALSE NEIGHBOUR: 'it returns false'. Refute it at one input. -/
def sectorFailsWrong : ChangeSpec := { name := "sectorFails", fn := fun _ => fun
  | [d1, d2, d3] => { results := [.lit (.bool false)], args := [d1, d2, d3] }
  | _ => none }
def SectorFailsWrongFalsely : Prop := sectorFailsRow.holds Try.pinned (OpenSpec.ofChange sectorFailsWrong)

/- THE SECOND FORM. 'bulk': how many values and letters a reading holds, each counted each time it is reached (what is shared counts as often as it is met; a slice's spare places count too). A statement '..UptoSaid' is the law's where the arguments, and the package variables that the reading takes, are together of bulk at most 1048576: NARROWER than '..Said'. Prove '..Said' where nothing that the law and all that it calls make is longer than what came in: it says more and counts as full. Else prove '..UptoSaid'. A law counts once. -/
mutual
def uptoBulk {H : Type} : DataW H → Nat
  | .lit (.string bytes) => bytes.length + 1
  | .lit _ => 1
  | .nil => 1
  | .ptr d => uptoBulk d + 1
  | .slice elems spare => uptoBulkAll elems + uptoBulkAll spare + 1
  | .agg parts => uptoBulkAll parts + 1
  | .iface _ d => uptoBulk d + 1
  | .map entries => uptoBulkEntries entries + 1
  | .held _ => 1
def uptoBulkAll {H : Type} : List (DataW H) → Nat
  | [] => 0
  | d :: r => uptoBulk d + uptoBulkAll r
def uptoBulkEntries {H : Type} : List (Lit × DataW H) → Nat
  | [] => 0
  | x :: r => uptoBulkEntry x + uptoBulkEntries r
def uptoBulkEntry {H : Type} : Lit × DataW H → Nat
  | (.string bytes, d) => bytes.length + uptoBulk d + 1
  | (_, d) => uptoBulk d + 1
 end
def uptoSmall : (H : Type) → List (DataW H) → Bool := fun _ ds => decide (uptoBulkAll ds ≤ 1048576)
def OpenSpec.upto (s : _root_.Go.ChangeSpec) : _root_.Go.OpenSpec := { _root_.Go.OpenSpec.ofChange s with cond := some uptoSmall }

/-- 'tallymanlaw04.SectorCrash', WHERE WHAT IT READS IS OF BULK AT MOST 1048576: true; the input reads as it did. -/
def sectorCrashUptoRow : OpenClaim := { program := "ytbedpjpddcjpkaa", sum := "9f3d546a36a961cd3db1c5680ea5e7addb416a23999210ecb7b7c558d9cb3461", func := "tallyman/tallymanlaw04.SectorCrash", spec := "sectorCrash", apart := false, narrowed := true }
def SectorCrashUptoSaid : Prop := sectorCrashUptoRow.holds Try.pinned (OpenSpec.upto sectorCrashSpec)

/-- 'tallymanlaw04.SectorNames', WHERE WHAT IT READS IS OF BULK AT MOST 1048576: true; the input reads as it did. -/
def sectorNamesUptoRow : OpenClaim := { program := "ytbedpjpddcjpkaa", sum := "9f3d546a36a961cd3db1c5680ea5e7addb416a23999210ecb7b7c558d9cb3461", func := "tallyman/tallymanlaw04.SectorNames", spec := "sectorNames", apart := false, narrowed := true }
def SectorNamesUptoSaid : Prop := sectorNamesUptoRow.holds Try.pinned (OpenSpec.upto sectorNamesSpec)

/-- 'tallymanlaw04.SectorScript', WHERE WHAT IT READS IS OF BULK AT MOST 1048576: true; the input reads as it did. -/
def sectorScriptUptoRow : OpenClaim := { program := "ytbedpjpddcjpkaa", sum := "9f3d546a36a961cd3db1c5680ea5e7addb416a23999210ecb7b7c558d9cb3461", func := "tallyman/tallymanlaw04.SectorScript", spec := "sectorScript", apart := false, narrowed := true }
def SectorScriptUptoSaid : Prop := sectorScriptUptoRow.holds Try.pinned (OpenSpec.upto sectorScriptSpec)

/-- 'tallymanlaw04.SectorNil', WHERE WHAT IT READS IS OF BULK AT MOST 1048576: true; the input reads as it did. -/
def sectorNilUptoRow : OpenClaim := { program := "ytbedpjpddcjpkaa", sum := "9f3d546a36a961cd3db1c5680ea5e7addb416a23999210ecb7b7c558d9cb3461", func := "tallyman/tallymanlaw04.SectorNil", spec := "sectorNil", apart := false, narrowed := true }
def SectorNilUptoSaid : Prop := sectorNilUptoRow.holds Try.pinned (OpenSpec.upto sectorNilSpec)

/-- 'tallymanlaw04.SectorFails', WHERE WHAT IT READS IS OF BULK AT MOST 1048576: true; the input reads as it did. -/
def sectorFailsUptoRow : OpenClaim := { program := "ytbedpjpddcjpkaa", sum := "9f3d546a36a961cd3db1c5680ea5e7addb416a23999210ecb7b7c558d9cb3461", func := "tallyman/tallymanlaw04.SectorFails", spec := "sectorFails", apart := false, narrowed := true }
def SectorFailsUptoSaid : Prop := sectorFailsUptoRow.holds Try.pinned (OpenSpec.upto sectorFailsSpec)

end Rows
end Go.Proofs.Ytbedpjpddcjpkaa
