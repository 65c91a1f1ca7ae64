/-
  No cell of these rows narrows 'for every input' (looked for: loops, veiled, ifaces, maps, wideKeys, modest, calm, conditions, laid).
  DERIVED. THE GIVEN ROWS OF THIS SEAT. 6 by the template 'for every input the law returns true; each argument reads behind the call as it read before'; 0 by the template 'total and deterministic' (their statements: YtihljjfnjclefaaTotals.lean).
  GIVEN WITH THE SEED: the statements are not yours to turn. If you find one false, say at which input.
  Laid BY PROGRAM, IN A SANDBOX (cutbox-rows.mjs): the forced cells as the released guide's own fill.sh prints them over the translation c5826eb72ace4965… (all of the seat's roots in one cut). By AI agents, Wed Nov 11 2026. No macro, syntax, notation, axiom, sorry.
-/
import Derived.Test.YtihljjfnjclefaaChecked
import GoSem.Claim
import GoSem.ClaimJoined
import GoSem.ClaimMapViews
import Derived.JoinedTies
import Derived.KernelRfl
namespace Go.Proofs.Ytihljjfnjclefaa
/- THE CELL 'sum', in the pinned program and in every row, IS THE sha256 OF THE DUMP (.gsa) THAT YtihljjfnjclefaaProg.lean LOADS. Nothing in Lean hashes anything: it is a label: what it is worth is what the hold of that sum in a sandbox is worth. -/
noncomputable def Try.pinned : Pinned := { name := "ytihljjfnjclefaa", sum := "c5826eb72ace4965b6c658b28015b9256fcaa185d7e7ee2bb50294f97ad6e7ee", checked := Try.checked }
namespace Rows
def none {H : Type} : Left H := { results := [], args := [] }

/-- 'tallymanlaw06.RootNames': WHATEVER THE INPUT: true; the input reads as it did. -/
def rootNamesSpec : ChangeSpec := { name := "rootNames", fn := fun _ => fun
  | [] => { results := [.lit (.bool true)], args := [] }
  | _ => none }
def rootNamesRow : OpenClaim := { program := "ytihljjfnjclefaa", sum := "c5826eb72ace4965b6c658b28015b9256fcaa185d7e7ee2bb50294f97ad6e7ee", func := "tallyman/tallymanlaw06.RootNames", spec := "rootNames", unfollowed := true, recurses := true, apart := false }
def RootNamesSaid : Prop := rootNamesRow.holds Try.pinned (OpenSpec.ofChange rootNamesSpec)

/-- ITS FALSE NEIGHBOUR: 'it returns false'. Refute it at one input. -/
def rootNamesWrong : ChangeSpec := { name := "rootNames", fn := fun _ => fun
  | [] => { results := [.lit (.bool false)], args := [] }
  | _ => none }
def RootNamesWrongFalsely : Prop := rootNamesRow.holds Try.pinned (OpenSpec.ofChange rootNamesWrong)

/-- 'tallymanlaw06.RootCalls': WHATEVER THE INPUT: true; the input reads as it did. -/
def rootCallsSpec : ChangeSpec := { name := "rootCalls", fn := fun _ => fun
  | [d1, d2, d3, d4, d5, d6, d7] => { results := [.lit (.bool true)], args := [d1, d2, d3, d4, d5, d6, d7] }
  | _ => none }
def rootCallsRow : OpenClaim := { program := "ytihljjfnjclefaa", sum := "c5826eb72ace4965b6c658b28015b9256fcaa185d7e7ee2bb50294f97ad6e7ee", func := "tallyman/tallymanlaw06.RootCalls", spec := "rootCalls", unfollowed := true, recurses := true, apart := false }
def RootCallsSaid : Prop := rootCallsRow.holds Try.pinned (OpenSpec.ofChange rootCallsSpec)

/-- ITS FALSE NEIGHBOUR: 'it returns false'. Refute it at one input. -/
def rootCallsWrong : ChangeSpec := { name := "rootCalls", fn := fun _ => fun
  | [d1, d2, d3, d4, d5, d6, d7] => { results := [.lit (.bool false)], args := [d1, d2, d3, d4, d5, d6, d7] }
  | _ => none }
def RootCallsWrongFalsely : Prop := rootCallsRow.holds Try.pinned (OpenSpec.ofChange rootCallsWrong)

/-- 'tallymanlaw06.RootBack': WHATEVER THE INPUT: true; the input reads as it did. -/
def rootBackSpec : ChangeSpec := { name := "rootBack", fn := fun _ => fun
  | [d1, d2, d3, d4] => { results := [.lit (.bool true)], args := [d1, d2, d3, d4] }
  | _ => none }
def rootBackRow : OpenClaim := { program := "ytihljjfnjclefaa", sum := "c5826eb72ace4965b6c658b28015b9256fcaa185d7e7ee2bb50294f97ad6e7ee", func := "tallyman/tallymanlaw06.RootBack", spec := "rootBack", unfollowed := true, recurses := true, apart := false }
def RootBackSaid : Prop := rootBackRow.holds Try.pinned (OpenSpec.ofChange rootBackSpec)

/-- ITS FALSE NEIGHBOUR: 'it returns false'. Refute it at one input. -/
def rootBackWrong : ChangeSpec := { name := "rootBack", fn := fun _ => fun
  | [d1, d2, d3, d4] => { results := [.lit (.bool false)], args := [d1, d2, d3, d4] }
  | _ => none }
def RootBackWrongFalsely : Prop := rootBackRow.holds Try.pinned (OpenSpec.ofChange rootBackWrong)

/-- 'tallymanlaw06.RootChoose': WHATEVER THE INPUT: true; the input reads as it did. -/
def rootChooseSpec : ChangeSpec := { name := "rootChoose", fn := fun _ => fun
  | [d1, d2] => { results := [.lit (.bool true)], args := [d1, d2] }
  | _ => none }
def rootChooseRow : OpenClaim := { program := "ytihljjfnjclefaa", sum := "c5826eb72ace4965b6c658b28015b9256fcaa185d7e7ee2bb50294f97ad6e7ee", func := "tallyman/tallymanlaw06.RootChoose", spec := "rootChoose", unfollowed := true, recurses := true, apart := false }
def RootChooseSaid : Prop := rootChooseRow.holds Try.pinned (OpenSpec.ofChange rootChooseSpec)

/-- ITS FALSE NEIGHBOUR: 'it returns false'. Refute it at one input. -/
def rootChooseWrong : ChangeSpec := { name := "rootChoose", fn := fun _ => fun
  | [d1, d2] => { results := [.lit (.bool false)], args := [d1, d2] }
  | _ => none }
def RootChooseWrongFalsely : Prop := rootChooseRow.holds Try.pinned (OpenSpec.ofChange rootChooseWrong)

/-- 'tallymanlaw06.RootDisk': WHATEVER THE INPUT: true; the input reads as it did. -/
def rootDiskSpec : ChangeSpec := { name := "rootDisk", fn := fun _ => fun
  | [d1, d2, d3, d4] => { results := [.lit (.bool true)], args := [d1, d2, d3, d4] }
  | _ => none }
def rootDiskRow : OpenClaim := { program := "ytihljjfnjclefaa", sum := "c5826eb72ace4965b6c658b28015b9256fcaa185d7e7ee2bb50294f97ad6e7ee", func := "tallyman/tallymanlaw06.RootDisk", spec := "rootDisk", unfollowed := true, recurses := true, apart := false }
def RootDiskSaid : Prop := rootDiskRow.holds Try.pinned (OpenSpec.ofChange rootDiskSpec)

/-- ITS FALSE NEIGHBOUR: 'it returns false'. Refute it at one input. -/
def rootDiskWrong : ChangeSpec := { name := "rootDisk", fn := fun _ => fun
  | [d1, d2, d3, d4] => { results := [.lit (.bool false)], args := [d1, d2, d3, d4] }
  | _ => none }
def RootDiskWrongFalsely : Prop := rootDiskRow.holds Try.pinned (OpenSpec.ofChange rootDiskWrong)

/-- 'tallymanlaw06.RootSafe': WHATEVER THE INPUT: true; the input reads as it did. -/
def rootSafeSpec : ChangeSpec := { name := "rootSafe", fn := fun _ => fun
  | [d1, d2, d3, d4, d5] => { results := [.lit (.bool true)], args := [d1, d2, d3, d4, d5] }
  | _ => none }
def rootSafeRow : OpenClaim := { program := "ytihljjfnjclefaa", sum := "c5826eb72ace4965b6c658b28015b9256fcaa185d7e7ee2bb50294f97ad6e7ee", func := "tallyman/tallymanlaw06.RootSafe", spec := "rootSafe", unfollowed := true, recurses := true, apart := false }
def RootSafeSaid : Prop := rootSafeRow.holds Try.pinned (OpenSpec.ofChange rootSafeSpec)

/-- ITS FALSE NEIGHBOUR: 'it returns false'. Refute it at one input. -/
def rootSafeWrong : ChangeSpec := { name := "rootSafe", fn := fun _ => fun
  | [d1, d2, d3, d4, d5] => { results := [.lit (.bool false)], args := [d1, d2, d3, d4, d5] }
  | _ => none }
def RootSafeWrongFalsely : Prop := rootSafeRow.holds Try.pinned (OpenSpec.ofChange rootSafeWrong)

/- THE SECOND FORM. 'bulk': how many values and letters a reading holds, each counted each time it is reached (what is shared counts as often as it is met; a slice's spare places count too). A statement '..UptoSaid' is the law's where the arguments, and the package variables that the reading takes, are together of bulk at most 1048576: NARROWER than '..Said'. Prove '..Said' where nothing that the law and all that it calls make is longer than what came in: it says more and counts as full. Else prove '..UptoSaid'. A law counts once. -/
mutual
def uptoBulk {H : Type} : DataW H → Nat
  | .lit (.string bytes) => bytes.length + 1
  | .lit _ => 1
  | .nil => 1
  | .ptr d => uptoBulk d + 1
  | .slice elems spare => uptoBulkAll elems + uptoBulkAll spare + 1
  | .agg parts => uptoBulkAll parts + 1
  | .iface _ d => uptoBulk d + 1
  | .map entries => uptoBulkEntries entries + 1
  | .held _ => 1
def uptoBulkAll {H : Type} : List (DataW H) → Nat
  | [] => 0
  | d :: r => uptoBulk d + uptoBulkAll r
def uptoBulkEntries {H : Type} : List (Lit × DataW H) → Nat
  | [] => 0
  | x :: r => uptoBulkEntry x + uptoBulkEntries r
def uptoBulkEntry {H : Type} : Lit × DataW H → Nat
  | (.string bytes, d) => bytes.length + uptoBulk d + 1
  | (_, d) => uptoBulk d + 1
 end
def uptoSmall : (H : Type) → List (DataW H) → Bool := fun _ ds => decide (uptoBulkAll ds ≤ 1048576)
def OpenSpec.upto (s : _root_.Go.ChangeSpec) : _root_.Go.OpenSpec := { _root_.Go.OpenSpec.ofChange s with cond := some uptoSmall }

/-- 'tallymanlaw06.RootNames', WHERE WHAT IT READS IS OF BULK AT MOST 1048576: true; the input reads as it did. -/
def rootNamesUptoRow : OpenClaim := { program := "ytihljjfnjclefaa", sum := "c5826eb72ace4965b6c658b28015b9256fcaa185d7e7ee2bb50294f97ad6e7ee", func := "tallyman/tallymanlaw06.RootNames", spec := "rootNames", unfollowed := true, recurses := true, apart := false, narrowed := true }
def RootNamesUptoSaid : Prop := rootNamesUptoRow.holds Try.pinned (OpenSpec.upto rootNamesSpec)

/-- 'tallymanlaw06.RootCalls', WHERE WHAT IT READS IS OF BULK AT MOST 1048576: true; the input reads as it did. -/
def rootCallsUptoRow : OpenClaim := { program := "ytihljjfnjclefaa", sum := "c5826eb72ace4965b6c658b28015b9256fcaa185d7e7ee2bb50294f97ad6e7ee", func := "tallyman/tallymanlaw06.RootCalls", spec := "rootCalls", unfollowed := true, recurses := true, apart := false, narrowed := true }
def RootCallsUptoSaid : Prop := rootCallsUptoRow.holds Try.pinned (OpenSpec.upto rootCallsSpec)

/-- 'tallymanlaw06.RootBack', WHERE WHAT IT READS IS OF BULK AT MOST 1048576: true; the input reads as it did. -/
def rootBackUptoRow : OpenClaim := { program := "ytihljjfnjclefaa", sum := "c5826eb72ace4965b6c658b28015b9256fcaa185d7e7ee2bb50294f97ad6e7ee", func := "tallyman/tallymanlaw06.RootBack", spec := "rootBack", unfollowed := true, recurses := true, apart := false, narrowed := true }
def RootBackUptoSaid : Prop := rootBackUptoRow.holds Try.pinned (OpenSpec.upto rootBackSpec)

/-- 'tallymanlaw06.RootChoose', WHERE WHAT IT READS IS OF BULK AT MOST 1048576: true; the input reads as it did. -/
def rootChooseUptoRow : OpenClaim := { program := "ytihljjfnjclefaa", sum := "c5826eb72ace4965b6c658b28015b9256fcaa185d7e7ee2bb50294f97ad6e7ee", func := "tallyman/tallymanlaw06.RootChoose", spec := "rootChoose", unfollowed := true, recurses := true, apart := false, narrowed := true }
def RootChooseUptoSaid : Prop := rootChooseUptoRow.holds Try.pinned (OpenSpec.upto rootChooseSpec)

/-- 'tallymanlaw06.RootDisk', WHERE WHAT IT READS IS OF BULK AT MOST 1048576: true; the input reads as it did. -/
def rootDiskUptoRow : OpenClaim := { program := "ytihljjfnjclefaa", sum := "c5826eb72ace4965b6c658b28015b9256fcaa185d7e7ee2bb50294f97ad6e7ee", func := "tallyman/tallymanlaw06.RootDisk", spec := "rootDisk", unfollowed := true, recurses := true, apart := false, narrowed := true }
def RootDiskUptoSaid : Prop := rootDiskUptoRow.holds Try.pinned (OpenSpec.upto rootDiskSpec)

/-- 'tallymanlaw06.RootSafe', WHERE WHAT IT READS IS OF BULK AT MOST 1048576: true; the input reads as it did. -/
def rootSafeUptoRow : OpenClaim := { program := "ytihljjfnjclefaa", sum := "c5826eb72ace4965b6c658b28015b9256fcaa185d7e7ee2bb50294f97ad6e7ee", func := "tallyman/tallymanlaw06.RootSafe", spec := "rootSafe", unfollowed := true, recurses := true, apart := false, narrowed := true }
def RootSafeUptoSaid : Prop := rootSafeUptoRow.holds Try.pinned (OpenSpec.upto rootSafeSpec)

end Rows
end Go.Proofs.Ytihljjfnjclefaa
