/-
  DERIVED. GIVEN WITH THE SEED: THE CARDS: each row of YtoidlmhebnlnbaaDoorRows.lean that lists a variable, with what it lists TIED to the program's text (the seventh form; the later family's looks); each row that meets fmt, with fmt's text TOLD by the authors' own Lean function (tested against real Go, not proved from fmt's source: count such statements apart). THE CARD IS WHAT COUNTS. Prove the row's statement (the work); the ties are given (YtoidlmhebnlnbaaDoorTie.lean); close each card by the builder's one call (the guide's Derived/Test/ToyasCard.lean, 'card_holds'). Laid BY PROGRAM, IN A SANDBOX (cutbox-door.mjs). By AI agents, Wed Nov 11 2026. No macro, syntax, notation, axiom, sorry.
-/
import Derived.Test.YtoidlmhebnlnbaaDoorRows
import GoSem.ClaimSeven
namespace Go.Proofs.YtoidlmhebnlnbaaDoor
namespace Rows

/-- THE TIED CARD OF 'tallymanlaw09.ChainNames'. -/
def chainNamesCard : Claim7 := { stood := { row := chainNamesRow, standIns := [], harness := (true, "460074da4bd7b5da3f75386370c46c0450cc3bfd57412ff86a2428a0138497a3"), looks := false }, kinds := [], alts := [], laidByText := true, laidKinds := [.data, .pinned], laidTests := true, laidLooks := .later }
def ChainNamesCardSaid : Prop := Claim7.holds Tryd.pinned (.plain (OpenSpec.ofChange chainNamesSpec)) chainNamesCard

/-- THE TIED CARD OF 'tallymanlaw09.ChainEnds'. -/
def chainEndsCard : Claim7 := { stood := { row := chainEndsRow, standIns := [], harness := (true, "460074da4bd7b5da3f75386370c46c0450cc3bfd57412ff86a2428a0138497a3"), looks := false }, kinds := [], alts := [], laidByText := true, laidKinds := [.data, .pinned], laidTests := true, laidLooks := .later }
def ChainEndsCardSaid : Prop := Claim7.holds Tryd.pinned (.plain (OpenSpec.ofChange chainEndsSpec)) chainEndsCard

/-- THE TIED CARD OF 'tallymanlaw09.ChainNeeds'. -/
def chainNeedsCard : Claim7 := { stood := { row := chainNeedsRow, standIns := [], harness := (true, "460074da4bd7b5da3f75386370c46c0450cc3bfd57412ff86a2428a0138497a3"), looks := false }, kinds := [], alts := [], laidByText := true, laidKinds := [.data, .pinned], laidTests := true, laidLooks := .later }
def ChainNeedsCardSaid : Prop := Claim7.holds Tryd.pinned (.plain (OpenSpec.ofChange chainNeedsSpec)) chainNeedsCard

/-- THE TIED CARD OF 'tallymanlaw09.ChainBack'. -/
def chainBackCard : Claim7 := { stood := { row := chainBackRow, standIns := [], harness := (true, "460074da4bd7b5da3f75386370c46c0450cc3bfd57412ff86a2428a0138497a3"), looks := false }, kinds := [], alts := [], laidByText := true, laidKinds := [.data, .pinned], laidTests := true, laidLooks := .later }
def ChainBackCardSaid : Prop := Claim7.holds Tryd.pinned (.plain (OpenSpec.ofChange chainBackSpec)) chainBackCard

/-- THE SECOND FORM's CARD OF 'tallymanlaw09.ChainNames'. -/
def chainNamesUptoCard : Claim7 := { stood := { row := chainNamesUptoRow, standIns := [], harness := (true, "460074da4bd7b5da3f75386370c46c0450cc3bfd57412ff86a2428a0138497a3"), looks := false }, kinds := [], alts := [], laidByText := true, laidKinds := [.data, .pinned], laidTests := true, laidLooks := .later }
def ChainNamesUptoCardSaid : Prop := Claim7.holds Tryd.pinned (.plain (OpenSpec.upto chainNamesSpec)) chainNamesUptoCard

/-- THE SECOND FORM's CARD OF 'tallymanlaw09.ChainEnds'. -/
def chainEndsUptoCard : Claim7 := { stood := { row := chainEndsUptoRow, standIns := [], harness := (true, "460074da4bd7b5da3f75386370c46c0450cc3bfd57412ff86a2428a0138497a3"), looks := false }, kinds := [], alts := [], laidByText := true, laidKinds := [.data, .pinned], laidTests := true, laidLooks := .later }
def ChainEndsUptoCardSaid : Prop := Claim7.holds Tryd.pinned (.plain (OpenSpec.upto chainEndsSpec)) chainEndsUptoCard

/-- THE SECOND FORM's CARD OF 'tallymanlaw09.ChainNeeds'. -/
def chainNeedsUptoCard : Claim7 := { stood := { row := chainNeedsUptoRow, standIns := [], harness := (true, "460074da4bd7b5da3f75386370c46c0450cc3bfd57412ff86a2428a0138497a3"), looks := false }, kinds := [], alts := [], laidByText := true, laidKinds := [.data, .pinned], laidTests := true, laidLooks := .later }
def ChainNeedsUptoCardSaid : Prop := Claim7.holds Tryd.pinned (.plain (OpenSpec.upto chainNeedsSpec)) chainNeedsUptoCard

/-- THE SECOND FORM's CARD OF 'tallymanlaw09.ChainBack'. -/
def chainBackUptoCard : Claim7 := { stood := { row := chainBackUptoRow, standIns := [], harness := (true, "460074da4bd7b5da3f75386370c46c0450cc3bfd57412ff86a2428a0138497a3"), looks := false }, kinds := [], alts := [], laidByText := true, laidKinds := [.data, .pinned], laidTests := true, laidLooks := .later }
def ChainBackUptoCardSaid : Prop := Claim7.holds Tryd.pinned (.plain (OpenSpec.upto chainBackSpec)) chainBackUptoCard
end Rows
end Go.Proofs.YtoidlmhebnlnbaaDoor
