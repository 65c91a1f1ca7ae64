/-
  No cell of these rows narrows 'for every input' (looked for: loops, veiled, ifaces, maps, wideKeys, modest, calm, conditions, laid).
  DERIVED. THE GIVEN ROWS OF THIS SEAT. 10 by the template 'for every input the law returns true; each argument reads behind the call as it read before'; 0 by the template 'total and deterministic' (their statements: YtegmpejcolmnoaaTotals.lean).
  GIVEN WITH THE SEED: the statements are not yours to turn. If you find one false, say at which input.
  Laid BY PROGRAM, IN A SANDBOX (cutbox-rows.mjs): the forced cells as the released guide's own fill.sh prints them over the translation 990bed572002b20b… (all of the seat's roots in one cut). By AI agents, Wed Nov 11 2026. No macro, syntax, notation, axiom, sorry.
-/
import Derived.Test.YtegmpejcolmnoaaChecked
import GoSem.Claim
import GoSem.ClaimJoined
import GoSem.ClaimMapViews
import Derived.JoinedTies
import Derived.KernelRfl
namespace Go.Proofs.Ytegmpejcolmnoaa
/- THE CELL 'sum', in the pinned program and in every row, IS THE sha256 OF THE DUMP (.gsa) THAT YtegmpejcolmnoaaProg.lean LOADS. Nothing in Lean hashes anything: it is a label: what it is worth is what the hold of that sum in a sandbox is worth. -/
noncomputable def Try.pinned : Pinned := { name := "ytegmpejcolmnoaa", sum := "990bed572002b20b4a221868653254394afc9a94f5ff0e18ca267a587f746439", checked := Try.checked }
namespace Rows
def none {H : Type} : Left H := { results := [], args := [] }

/-- 'tallymanlaw02.XhashSums': WHATEVER THE INPUT: true; the input reads as it did. -/
def xhashSumsSpec : ChangeSpec := { name := "xhashSums", fn := fun _ => fun
  | [d1, d2, d3, d4, d5] => { results := [.lit (.bool true)], args := [d1, d2, d3, d4, d5] }
  | _ => none }
def xhashSumsRow : OpenClaim := { program := "ytegmpejcolmnoaa", sum := "990bed572002b20b4a221868653254394afc9a94f5ff0e18ca267a587f746439", func := "tallyman/tallymanlaw02.XhashSums", spec := "xhashSums", apart := false }
def XhashSumsSaid : Prop := xhashSumsRow.holds Try.pinned (OpenSpec.ofChange xhashSumsSpec)

/-- ITS FALSE NEIGHBOUR: 'it returns false'. Refute it at one input. -/
def xhashSumsWrong : ChangeSpec := { name := "xhashSums", fn := fun _ => fun
  | [d1, d2, d3, d4, d5] => { results := [.lit (.bool false)], args := [d1, d2, d3, d4, d5] }
  | _ => none }
def XhashSumsWrongFalsely : Prop := xhashSumsRow.holds Try.pinned (OpenSpec.ofChange xhashSumsWrong)

/-- 'tallymanlaw02.XhashOne': WHATEVER THE INPUT: true; the input reads as it did. -/
def xhashOneSpec : ChangeSpec := { name := "xhashOne", fn := fun _ => fun
  | [d1, d2, d3, d4] => { results := [.lit (.bool true)], args := [d1, d2, d3, d4] }
  | _ => none }
def xhashOneRow : OpenClaim := { program := "ytegmpejcolmnoaa", sum := "990bed572002b20b4a221868653254394afc9a94f5ff0e18ca267a587f746439", func := "tallyman/tallymanlaw02.XhashOne", spec := "xhashOne", apart := false }
def XhashOneSaid : Prop := xhashOneRow.holds Try.pinned (OpenSpec.ofChange xhashOneSpec)

/-- ITS FALSE NEIGHBOUR: 'it returns false'. Refute it at one input. -/
def xhashOneWrong : ChangeSpec := { name := "xhashOne", fn := fun _ => fun
  | [d1, d2, d3, d4] => { results := [.lit (.bool false)], args := [d1, d2, d3, d4] }
  | _ => none }
def XhashOneWrongFalsely : Prop := xhashOneRow.holds Try.pinned (OpenSpec.ofChange xhashOneWrong)

/-- 'tallymanlaw01.OctetLays': WHATEVER THE INPUT: true; the input reads as it did. -/
def octetLaysSpec : ChangeSpec := { name := "octetLays", fn := fun _ => fun
  | [d1, d2, d3, d4] => { results := [.lit (.bool true)], args := [d1, d2, d3, d4] }
  | _ => none }
def octetLaysRow : OpenClaim := { program := "ytegmpejcolmnoaa", sum := "990bed572002b20b4a221868653254394afc9a94f5ff0e18ca267a587f746439", func := "tallyman/tallymanlaw01.OctetLays", spec := "octetLays", apart := false }
def OctetLaysSaid : Prop := octetLaysRow.holds Try.pinned (OpenSpec.ofChange octetLaysSpec)

/-- ITS FALSE NEIGHBOUR: 'it returns false'. Refute it at one input. -/
def octetLaysWrong : ChangeSpec := { name := "octetLays", fn := fun _ => fun
  | [d1, d2, d3, d4] => { results := [.lit (.bool false)], args := [d1, d2, d3, d4] }
  | _ => none }
def OctetLaysWrongFalsely : Prop := octetLaysRow.holds Try.pinned (OpenSpec.ofChange octetLaysWrong)

/-- 'tallymanlaw01.OctetOrder': WHATEVER THE INPUT: true; the input reads as it did. -/
def octetOrderSpec : ChangeSpec := { name := "octetOrder", fn := fun _ => fun
  | [d1, d2, d3] => { results := [.lit (.bool true)], args := [d1, d2, d3] }
  | _ => none }
def octetOrderRow : OpenClaim := { program := "ytegmpejcolmnoaa", sum := "990bed572002b20b4a221868653254394afc9a94f5ff0e18ca267a587f746439", func := "tallyman/tallymanlaw01.OctetOrder", spec := "octetOrder", apart := false }
def OctetOrderSaid : Prop := octetOrderRow.holds Try.pinned (OpenSpec.ofChange octetOrderSpec)

/-- ITS FALSE NEIGHBOUR: 'it returns false'. Refute it at one input. -/
def octetOrderWrong : ChangeSpec := { name := "octetOrder", fn := fun _ => fun
  | [d1, d2, d3] => { results := [.lit (.bool false)], args := [d1, d2, d3] }
  | _ => none }
def OctetOrderWrongFalsely : Prop := octetOrderRow.holds Try.pinned (OpenSpec.ofChange octetOrderWrong)

/-- 'tallymanlaw02.XhashNames': WHATEVER THE INPUT: true; the input reads as it did. -/
def xhashNamesSpec : ChangeSpec := { name := "xhashNames", fn := fun _ => fun
  | [] => { results := [.lit (.bool true)], args := [] }
  | _ => none }
def xhashNamesRow : OpenClaim := { program := "ytegmpejcolmnoaa", sum := "990bed572002b20b4a221868653254394afc9a94f5ff0e18ca267a587f746439", func := "tallyman/tallymanlaw02.XhashNames", spec := "xhashNames", apart := false }
def XhashNamesSaid : Prop := xhashNamesRow.holds Try.pinned (OpenSpec.ofChange xhashNamesSpec)

/-- ITS FALSE NEIGHBOUR: 'it returns false'. Refute it at one input. -/
def xhashNamesWrong : ChangeSpec := { name := "xhashNames", fn := fun _ => fun
  | [] => { results := [.lit (.bool false)], args := [] }
  | _ => none }
def XhashNamesWrongFalsely : Prop := xhashNamesRow.holds Try.pinned (OpenSpec.ofChange xhashNamesWrong)

/-- 'tallymanlaw02.XhashBytes': WHATEVER THE INPUT: true; the input reads as it did. -/
def xhashBytesSpec : ChangeSpec := { name := "xhashBytes", fn := fun _ => fun
  | [d1, d2, d3] => { results := [.lit (.bool true)], args := [d1, d2, d3] }
  | _ => none }
def xhashBytesRow : OpenClaim := { program := "ytegmpejcolmnoaa", sum := "990bed572002b20b4a221868653254394afc9a94f5ff0e18ca267a587f746439", func := "tallyman/tallymanlaw02.XhashBytes", spec := "xhashBytes", apart := false }
def XhashBytesSaid : Prop := xhashBytesRow.holds Try.pinned (OpenSpec.ofChange xhashBytesSpec)

/-- ITS FALSE NEIGHBOUR: 'it returns false'. Refute it at one input. -/
def xhashBytesWrong : ChangeSpec := { name := "xhashBytes", fn := fun _ => fun
  | [d1, d2, d3] => { results := [.lit (.bool false)], args := [d1, d2, d3] }
  | _ => none }
def XhashBytesWrongFalsely : Prop := xhashBytesRow.holds Try.pinned (OpenSpec.ofChange xhashBytesWrong)

/-- 'tallymanlaw02.XhashParts': WHATEVER THE INPUT: true; the input reads as it did. -/
def xhashPartsSpec : ChangeSpec := { name := "xhashParts", fn := fun _ => fun
  | [d1, d2, d3, d4, d5] => { results := [.lit (.bool true)], args := [d1, d2, d3, d4, d5] }
  | _ => none }
def xhashPartsRow : OpenClaim := { program := "ytegmpejcolmnoaa", sum := "990bed572002b20b4a221868653254394afc9a94f5ff0e18ca267a587f746439", func := "tallyman/tallymanlaw02.XhashParts", spec := "xhashParts", unfollowed := true, recurses := true, apart := false }
def XhashPartsSaid : Prop := xhashPartsRow.holds Try.pinned (OpenSpec.ofChange xhashPartsSpec)

/-- ITS FALSE NEIGHBOUR: 'it returns false'. Refute it at one input. -/
def xhashPartsWrong : ChangeSpec := { name := "xhashParts", fn := fun _ => fun
  | [d1, d2, d3, d4, d5] => { results := [.lit (.bool false)], args := [d1, d2, d3, d4, d5] }
  | _ => none }
def XhashPartsWrongFalsely : Prop := xhashPartsRow.holds Try.pinned (OpenSpec.ofChange xhashPartsWrong)

/-- 'tallymanlaw01.OctetBack': WHATEVER THE INPUT: true; the input reads as it did. -/
def octetBackSpec : ChangeSpec := { name := "octetBack", fn := fun _ => fun
  | [d1, d2, d3, d4] => { results := [.lit (.bool true)], args := [d1, d2, d3, d4] }
  | _ => none }
def octetBackRow : OpenClaim := { program := "ytegmpejcolmnoaa", sum := "990bed572002b20b4a221868653254394afc9a94f5ff0e18ca267a587f746439", func := "tallyman/tallymanlaw01.OctetBack", spec := "octetBack", apart := false }
def OctetBackSaid : Prop := octetBackRow.holds Try.pinned (OpenSpec.ofChange octetBackSpec)

/-- ITS FALSE NEIGHBOUR: 'it returns false'. Refute it at one input. -/
def octetBackWrong : ChangeSpec := { name := "octetBack", fn := fun _ => fun
  | [d1, d2, d3, d4] => { results := [.lit (.bool false)], args := [d1, d2, d3, d4] }
  | _ => none }
def OctetBackWrongFalsely : Prop := octetBackRow.holds Try.pinned (OpenSpec.ofChange octetBackWrong)

/-- 'tallymanlaw01.OctetNames': WHATEVER THE INPUT: true; the input reads as it did. -/
def octetNamesSpec : ChangeSpec := { name := "octetNames", fn := fun _ => fun
  | [] => { results := [.lit (.bool true)], args := [] }
  | _ => none }
def octetNamesRow : OpenClaim := { program := "ytegmpejcolmnoaa", sum := "990bed572002b20b4a221868653254394afc9a94f5ff0e18ca267a587f746439", func := "tallyman/tallymanlaw01.OctetNames", spec := "octetNames", apart := false }
def OctetNamesSaid : Prop := octetNamesRow.holds Try.pinned (OpenSpec.ofChange octetNamesSpec)

/-- ITS FALSE NEIGHBOUR: 'it returns false'. Refute it at one input. -/
def octetNamesWrong : ChangeSpec := { name := "octetNames", fn := fun _ => fun
  | [] => { results := [.lit (.bool false)], args := [] }
  | _ => none }
def OctetNamesWrongFalsely : Prop := octetNamesRow.holds Try.pinned (OpenSpec.ofChange octetNamesWrong)

/-- 'tallymanlaw01.OctetBounds': WHATEVER THE INPUT: true; the input reads as it did. -/
def octetBoundsSpec : ChangeSpec := { name := "octetBounds", fn := fun _ => fun
  | [d1, d2] => { results := [.lit (.bool true)], args := [d1, d2] }
  | _ => none }
def octetBoundsRow : OpenClaim := { program := "ytegmpejcolmnoaa", sum := "990bed572002b20b4a221868653254394afc9a94f5ff0e18ca267a587f746439", func := "tallyman/tallymanlaw01.OctetBounds", spec := "octetBounds", apart := false }
def OctetBoundsSaid : Prop := octetBoundsRow.holds Try.pinned (OpenSpec.ofChange octetBoundsSpec)

/-- ITS FALSE NEIGHBOUR: 'it returns false'. Refute it at one input. -/
def octetBoundsWrong : ChangeSpec := { name := "octetBounds", fn := fun _ => fun
  | [d1, d2] => { results := [.lit (.bool false)], args := [d1, d2] }
  | _ => none }
def OctetBoundsWrongFalsely : Prop := octetBoundsRow.holds Try.pinned (OpenSpec.ofChange octetBoundsWrong)

/- THE SECOND FORM. 'bulk': how many values and letters a reading holds, each counted each time it is reached (what is shared counts as often as it is met; a slice's spare places count too). A statement '..UptoSaid' is the law's where the arguments, and the package variables that the reading takes, are together of bulk at most 1048576: NARROWER than '..Said'. Prove '..Said' where nothing that the law and all that it calls make is longer than what came in: it says more and counts as full. Else prove '..UptoSaid'. A law counts once. -/
mutual
def uptoBulk {H : Type} : DataW H → Nat
  | .lit (.string bytes) => bytes.length + 1
  | .lit _ => 1
  | .nil => 1
  | .ptr d => uptoBulk d + 1
  | .slice elems spare => uptoBulkAll elems + uptoBulkAll spare + 1
  | .agg parts => uptoBulkAll parts + 1
  | .iface _ d => uptoBulk d + 1
  | .map entries => uptoBulkEntries entries + 1
  | .held _ => 1
def uptoBulkAll {H : Type} : List (DataW H) → Nat
  | [] => 0
  | d :: r => uptoBulk d + uptoBulkAll r
def uptoBulkEntries {H : Type} : List (Lit × DataW H) → Nat
  | [] => 0
  | x :: r => uptoBulkEntry x + uptoBulkEntries r
def uptoBulkEntry {H : Type} : Lit × DataW H → Nat
  | (.string bytes, d) => bytes.length + uptoBulk d + 1
  | (_, d) => uptoBulk d + 1
 end
def uptoSmall : (H : Type) → List (DataW H) → Bool := fun _ ds => decide (uptoBulkAll ds ≤ 1048576)
def OpenSpec.upto (s : _root_.Go.ChangeSpec) : _root_.Go.OpenSpec := { _root_.Go.OpenSpec.ofChange s with cond := some uptoSmall }

/-- 'tallymanlaw02.XhashSums', WHERE WHAT IT READS IS OF BULK AT MOST 1048576: true; the input reads as it did. -/
def xhashSumsUptoRow : OpenClaim := { program := "ytegmpejcolmnoaa", sum := "990bed572002b20b4a221868653254394afc9a94f5ff0e18ca267a587f746439", func := "tallyman/tallymanlaw02.XhashSums", spec := "xhashSums", apart := false, narrowed := true }
def XhashSumsUptoSaid : Prop := xhashSumsUptoRow.holds Try.pinned (OpenSpec.upto xhashSumsSpec)

/-- 'tallymanlaw02.XhashOne', WHERE WHAT IT READS IS OF BULK AT MOST 1048576: true; the input reads as it did. -/
def xhashOneUptoRow : OpenClaim := { program := "ytegmpejcolmnoaa", sum := "990bed572002b20b4a221868653254394afc9a94f5ff0e18ca267a587f746439", func := "tallyman/tallymanlaw02.XhashOne", spec := "xhashOne", apart := false, narrowed := true }
def XhashOneUptoSaid : Prop := xhashOneUptoRow.holds Try.pinned (OpenSpec.upto xhashOneSpec)

/-- 'tallymanlaw01.OctetLays', WHERE WHAT IT READS IS OF BULK AT MOST 1048576: true; the input reads as it did. -/
def octetLaysUptoRow : OpenClaim := { program := "ytegmpejcolmnoaa", sum := "990bed572002b20b4a221868653254394afc9a94f5ff0e18ca267a587f746439", func := "tallyman/tallymanlaw01.OctetLays", spec := "octetLays", apart := false, narrowed := true }
def OctetLaysUptoSaid : Prop := octetLaysUptoRow.holds Try.pinned (OpenSpec.upto octetLaysSpec)

/-- 'tallymanlaw01.OctetOrder', WHERE WHAT IT READS IS OF BULK AT MOST 1048576: true; the input reads as it did. -/
def octetOrderUptoRow : OpenClaim := { program := "ytegmpejcolmnoaa", sum := "990bed572002b20b4a221868653254394afc9a94f5ff0e18ca267a587f746439", func := "tallyman/tallymanlaw01.OctetOrder", spec := "octetOrder", apart := false, narrowed := true }
def OctetOrderUptoSaid : Prop := octetOrderUptoRow.holds Try.pinned (OpenSpec.upto octetOrderSpec)

/-- 'tallymanlaw02.XhashNames', WHERE WHAT IT READS IS OF BULK AT MOST 1048576: true; the input reads as it did. -/
def xhashNamesUptoRow : OpenClaim := { program := "ytegmpejcolmnoaa", sum := "990bed572002b20b4a221868653254394afc9a94f5ff0e18ca267a587f746439", func := "tallyman/tallymanlaw02.XhashNames", spec := "xhashNames", apart := false, narrowed := true }
def XhashNamesUptoSaid : Prop := xhashNamesUptoRow.holds Try.pinned (OpenSpec.upto xhashNamesSpec)

/-- 'tallymanlaw02.XhashBytes', WHERE WHAT IT READS IS OF BULK AT MOST 1048576: true; the input reads as it did. -/
def xhashBytesUptoRow : OpenClaim := { program := "ytegmpejcolmnoaa", sum := "990bed572002b20b4a221868653254394afc9a94f5ff0e18ca267a587f746439", func := "tallyman/tallymanlaw02.XhashBytes", spec := "xhashBytes", apart := false, narrowed := true }
def XhashBytesUptoSaid : Prop := xhashBytesUptoRow.holds Try.pinned (OpenSpec.upto xhashBytesSpec)

/-- 'tallymanlaw02.XhashParts', WHERE WHAT IT READS IS OF BULK AT MOST 1048576: true; the input reads as it did. -/
def xhashPartsUptoRow : OpenClaim := { program := "ytegmpejcolmnoaa", sum := "990bed572002b20b4a221868653254394afc9a94f5ff0e18ca267a587f746439", func := "tallyman/tallymanlaw02.XhashParts", spec := "xhashParts", unfollowed := true, recurses := true, apart := false, narrowed := true }
def XhashPartsUptoSaid : Prop := xhashPartsUptoRow.holds Try.pinned (OpenSpec.upto xhashPartsSpec)

/-- 'tallymanlaw01.OctetBack', WHERE WHAT IT READS IS OF BULK AT MOST 1048576: true; the input reads as it did. -/
def octetBackUptoRow : OpenClaim := { program := "ytegmpejcolmnoaa", sum := "990bed572002b20b4a221868653254394afc9a94f5ff0e18ca267a587f746439", func := "tallyman/tallymanlaw01.OctetBack", spec := "octetBack", apart := false, narrowed := true }
def OctetBackUptoSaid : Prop := octetBackUptoRow.holds Try.pinned (OpenSpec.upto octetBackSpec)

/-- 'tallymanlaw01.OctetNames', WHERE WHAT IT READS IS OF BULK AT MOST 1048576: true; the input reads as it did. -/
def octetNamesUptoRow : OpenClaim := { program := "ytegmpejcolmnoaa", sum := "990bed572002b20b4a221868653254394afc9a94f5ff0e18ca267a587f746439", func := "tallyman/tallymanlaw01.OctetNames", spec := "octetNames", apart := false, narrowed := true }
def OctetNamesUptoSaid : Prop := octetNamesUptoRow.holds Try.pinned (OpenSpec.upto octetNamesSpec)

/-- 'tallymanlaw01.OctetBounds', WHERE WHAT IT READS IS OF BULK AT MOST 1048576: true; the input reads as it did. -/
def octetBoundsUptoRow : OpenClaim := { program := "ytegmpejcolmnoaa", sum := "990bed572002b20b4a221868653254394afc9a94f5ff0e18ca267a587f746439", func := "tallyman/tallymanlaw01.OctetBounds", spec := "octetBounds", apart := false, narrowed := true }
def OctetBoundsUptoSaid : Prop := octetBoundsUptoRow.holds Try.pinned (OpenSpec.upto octetBoundsSpec)

end Rows
end Go.Proofs.Ytegmpejcolmnoaa
