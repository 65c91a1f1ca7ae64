/-
  DERIVED. GIVEN WITH THE SEED: THE CARDS: each row of YtihljjfnjclefaaDoorRows.lean that lists a variable, with what it lists TIED to the program's text (the seventh form; the later family's looks); each row that meets fmt, with fmt's text TOLD by the authors' own Lean function (tested against real Go, not proved from fmt's source: count such statements apart). THE CARD IS WHAT COUNTS. Prove the row's statement (the work); the ties are given (YtihljjfnjclefaaDoorTie.lean); close each card by the builder's one call (the guide's Derived/Test/ToyasCard.lean, 'card_holds'). Laid BY PROGRAM, IN A SANDBOX (cutbox-door.mjs). By AI agents, Wed Nov 11 2026. No macro, syntax, notation, axiom, sorry.
-/
import Derived.Test.YtihljjfnjclefaaDoorRows
import GoSem.ClaimSeven
namespace Go.Proofs.YtihljjfnjclefaaDoor
namespace Rows

/-- THE TIED CARD OF 'tallymanlaw05.PageTorn'. -/
def pageTornCard : Claim7 := { stood := { row := pageTornRow, standIns := [], harness := (true, "f417c69a458b713b4eb6e33a5d03ce23f234fadc99521650c49564728b87b99f"), looks := false }, kinds := [], alts := [], laidByText := true, laidKinds := [.data, .pinned], laidTests := true, laidLooks := .later }
def PageTornCardSaid : Prop := Claim7.holds Tryd.pinned (.plain (OpenSpec.ofChange pageTornSpec)) pageTornCard

/-- THE TIED CARD OF 'tallymanlaw05.PageCalls'. -/
def pageCallsCard : Claim7 := { stood := { row := pageCallsRow, standIns := [], harness := (true, "f417c69a458b713b4eb6e33a5d03ce23f234fadc99521650c49564728b87b99f"), looks := false }, kinds := [], alts := [], laidByText := true, laidKinds := [.data, .pinned], laidTests := true, laidLooks := .later }
def PageCallsCardSaid : Prop := Claim7.holds Tryd.pinned (.plain (OpenSpec.ofChange pageCallsSpec)) pageCallsCard

/-- THE TIED CARD OF 'tallymanlaw05.PageBack'. -/
def pageBackCard : Claim7 := { stood := { row := pageBackRow, standIns := [], harness := (true, "f417c69a458b713b4eb6e33a5d03ce23f234fadc99521650c49564728b87b99f"), looks := false }, kinds := [], alts := [], laidByText := true, laidKinds := [.data, .pinned], laidTests := true, laidLooks := .later }
def PageBackCardSaid : Prop := Claim7.holds Tryd.pinned (.plain (OpenSpec.ofChange pageBackSpec)) pageBackCard

/-- THE TIED CARD OF 'tallymanlaw05.PageNames'. -/
def pageNamesCard : Claim7 := { stood := { row := pageNamesRow, standIns := [], harness := (true, "f417c69a458b713b4eb6e33a5d03ce23f234fadc99521650c49564728b87b99f"), looks := false }, kinds := [], alts := [], laidByText := true, laidKinds := [.data, .pinned], laidTests := true, laidLooks := .later }
def PageNamesCardSaid : Prop := Claim7.holds Tryd.pinned (.plain (OpenSpec.ofChange pageNamesSpec)) pageNamesCard

/-- THE TIED CARD OF 'tallymanlaw05.PageApart'. -/
def pageApartCard : Claim7 := { stood := { row := pageApartRow, standIns := [], harness := (true, "f417c69a458b713b4eb6e33a5d03ce23f234fadc99521650c49564728b87b99f"), looks := false }, kinds := [], alts := [], laidByText := true, laidKinds := [.data, .pinned], laidTests := true, laidLooks := .later }
def PageApartCardSaid : Prop := Claim7.holds Tryd.pinned (.plain (OpenSpec.ofChange pageApartSpec)) pageApartCard

/-- THE TIED CARD OF 'tallymanlaw05.PageDisk'. -/
def pageDiskCard : Claim7 := { stood := { row := pageDiskRow, standIns := [], harness := (true, "f417c69a458b713b4eb6e33a5d03ce23f234fadc99521650c49564728b87b99f"), looks := false }, kinds := [], alts := [], laidByText := true, laidKinds := [.data, .pinned], laidTests := true, laidLooks := .later }
def PageDiskCardSaid : Prop := Claim7.holds Tryd.pinned (.plain (OpenSpec.ofChange pageDiskSpec)) pageDiskCard

/-- THE SECOND FORM's CARD OF 'tallymanlaw05.PageTorn'. -/
def pageTornUptoCard : Claim7 := { stood := { row := pageTornUptoRow, standIns := [], harness := (true, "f417c69a458b713b4eb6e33a5d03ce23f234fadc99521650c49564728b87b99f"), looks := false }, kinds := [], alts := [], laidByText := true, laidKinds := [.data, .pinned], laidTests := true, laidLooks := .later }
def PageTornUptoCardSaid : Prop := Claim7.holds Tryd.pinned (.plain (OpenSpec.upto pageTornSpec)) pageTornUptoCard

/-- THE SECOND FORM's CARD OF 'tallymanlaw05.PageCalls'. -/
def pageCallsUptoCard : Claim7 := { stood := { row := pageCallsUptoRow, standIns := [], harness := (true, "f417c69a458b713b4eb6e33a5d03ce23f234fadc99521650c49564728b87b99f"), looks := false }, kinds := [], alts := [], laidByText := true, laidKinds := [.data, .pinned], laidTests := true, laidLooks := .later }
def PageCallsUptoCardSaid : Prop := Claim7.holds Tryd.pinned (.plain (OpenSpec.upto pageCallsSpec)) pageCallsUptoCard

/-- THE SECOND FORM's CARD OF 'tallymanlaw05.PageBack'. -/
def pageBackUptoCard : Claim7 := { stood := { row := pageBackUptoRow, standIns := [], harness := (true, "f417c69a458b713b4eb6e33a5d03ce23f234fadc99521650c49564728b87b99f"), looks := false }, kinds := [], alts := [], laidByText := true, laidKinds := [.data, .pinned], laidTests := true, laidLooks := .later }
def PageBackUptoCardSaid : Prop := Claim7.holds Tryd.pinned (.plain (OpenSpec.upto pageBackSpec)) pageBackUptoCard

/-- THE SECOND FORM's CARD OF 'tallymanlaw05.PageNames'. -/
def pageNamesUptoCard : Claim7 := { stood := { row := pageNamesUptoRow, standIns := [], harness := (true, "f417c69a458b713b4eb6e33a5d03ce23f234fadc99521650c49564728b87b99f"), looks := false }, kinds := [], alts := [], laidByText := true, laidKinds := [.data, .pinned], laidTests := true, laidLooks := .later }
def PageNamesUptoCardSaid : Prop := Claim7.holds Tryd.pinned (.plain (OpenSpec.upto pageNamesSpec)) pageNamesUptoCard

/-- THE SECOND FORM's CARD OF 'tallymanlaw05.PageApart'. -/
def pageApartUptoCard : Claim7 := { stood := { row := pageApartUptoRow, standIns := [], harness := (true, "f417c69a458b713b4eb6e33a5d03ce23f234fadc99521650c49564728b87b99f"), looks := false }, kinds := [], alts := [], laidByText := true, laidKinds := [.data, .pinned], laidTests := true, laidLooks := .later }
def PageApartUptoCardSaid : Prop := Claim7.holds Tryd.pinned (.plain (OpenSpec.upto pageApartSpec)) pageApartUptoCard

/-- THE SECOND FORM's CARD OF 'tallymanlaw05.PageDisk'. -/
def pageDiskUptoCard : Claim7 := { stood := { row := pageDiskUptoRow, standIns := [], harness := (true, "f417c69a458b713b4eb6e33a5d03ce23f234fadc99521650c49564728b87b99f"), looks := false }, kinds := [], alts := [], laidByText := true, laidKinds := [.data, .pinned], laidTests := true, laidLooks := .later }
def PageDiskUptoCardSaid : Prop := Claim7.holds Tryd.pinned (.plain (OpenSpec.upto pageDiskSpec)) pageDiskUptoCard
end Rows
end Go.Proofs.YtihljjfnjclefaaDoor
