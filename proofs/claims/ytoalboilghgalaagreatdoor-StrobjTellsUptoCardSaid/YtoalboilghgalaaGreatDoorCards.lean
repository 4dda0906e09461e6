/-
  DERIVED. GIVEN WITH THE SEED: THE CARDS: each row of YtoalboilghgalaaGreatDoorRows.lean that lists a variable, with what it lists TIED to the program's text (the seventh form; the later family's looks); each row that meets fmt, with fmt's text TOLD by the authors' own Lean function (tested against real Go, not proved from fmt's source: count such statements apart). THE CARD IS WHAT COUNTS. Prove the row's statement (the work); the ties are given (YtoalboilghgalaaGreatDoorTie.lean); close each card by the builder's one call (the guide's Derived/Test/ToyasCard.lean, 'card_holds'). Laid BY PROGRAM, IN A SANDBOX (cutbox-door.mjs). By AI agents, Wed Nov 11 2026. No macro, syntax, notation, axiom, sorry.
-/
import Derived.Test.YtoalboilghgalaaGreatDoorRows
import GoSem.ClaimSeven
namespace Go.Proofs.YtoalboilghgalaaGreatDoor
namespace Rows

/-- THE TIED CARD OF 'cameolaw16.StrobjTells'. -/
def strobjTellsCard : Claim7 := { stood := { row := strobjTellsRow, standIns := [], harness := (true, "07ff5d1ffe630ad973302fcc99dfb0e0579eb241f7b5bce461b1287d3a0e7bba"), looks := true }, kinds := [], alts := [], laidByText := true, laidKinds := [.data, .data, .data, .data, .pinned], laidTests := true, laidLooks := .later }
def StrobjTellsCardSaid : Prop := Claim7.holds Tryz.pinned (.plain (OpenSpec.ofChange strobjTellsSpec)) strobjTellsCard

/-- THE TIED CARD OF 'cameolaw21.IntegrityPrefix'. -/
def integrityPrefixCard : Claim7 := { stood := { row := integrityPrefixRow, standIns := [], harness := (true, "07ff5d1ffe630ad973302fcc99dfb0e0579eb241f7b5bce461b1287d3a0e7bba"), looks := true }, kinds := [], alts := [], laidByText := true, laidKinds := [.data, .pinned], laidTests := true, laidLooks := .later }
def IntegrityPrefixCardSaid : Prop := Claim7.holds Tryz.pinned (.plain (OpenSpec.ofChange integrityPrefixSpec)) integrityPrefixCard

/-- THE TIED CARD OF 'cameolaw20.NamespaceLive'. -/
def namespaceLiveCard : Claim7 := { stood := { row := namespaceLiveRow, standIns := [], harness := (true, "07ff5d1ffe630ad973302fcc99dfb0e0579eb241f7b5bce461b1287d3a0e7bba"), looks := true }, kinds := [], alts := [], laidByText := true, laidKinds := [.data, .pinned], laidTests := true, laidLooks := .later }
def NamespaceLiveCardSaid : Prop := Claim7.holds Tryz.pinned (.plain (OpenSpec.ofChange namespaceLiveSpec)) namespaceLiveCard

/-- THE SECOND FORM's CARD OF 'cameolaw16.StrobjTells'. -/
def strobjTellsUptoCard : Claim7 := { stood := { row := strobjTellsUptoRow, standIns := [], harness := (true, "07ff5d1ffe630ad973302fcc99dfb0e0579eb241f7b5bce461b1287d3a0e7bba"), looks := true }, kinds := [], alts := [], laidByText := true, laidKinds := [.data, .data, .data, .data, .pinned], laidTests := true, laidLooks := .later }
def StrobjTellsUptoCardSaid : Prop := Claim7.holds Tryz.pinned (.plain (OpenSpec.upto strobjTellsSpec)) strobjTellsUptoCard

/-- THE SECOND FORM's CARD OF 'cameolaw21.IntegrityPrefix'. -/
def integrityPrefixUptoCard : Claim7 := { stood := { row := integrityPrefixUptoRow, standIns := [], harness := (true, "07ff5d1ffe630ad973302fcc99dfb0e0579eb241f7b5bce461b1287d3a0e7bba"), looks := true }, kinds := [], alts := [], laidByText := true, laidKinds := [.data, .pinned], laidTests := true, laidLooks := .later }
def IntegrityPrefixUptoCardSaid : Prop := Claim7.holds Tryz.pinned (.plain (OpenSpec.upto integrityPrefixSpec)) integrityPrefixUptoCard

/-- THE SECOND FORM's CARD OF 'cameolaw20.NamespaceLive'. -/
def namespaceLiveUptoCard : Claim7 := { stood := { row := namespaceLiveUptoRow, standIns := [], harness := (true, "07ff5d1ffe630ad973302fcc99dfb0e0579eb241f7b5bce461b1287d3a0e7bba"), looks := true }, kinds := [], alts := [], laidByText := true, laidKinds := [.data, .pinned], laidTests := true, laidLooks := .later }
def NamespaceLiveUptoCardSaid : Prop := Claim7.holds Tryz.pinned (.plain (OpenSpec.upto namespaceLiveSpec)) namespaceLiveUptoCard
end Rows
end Go.Proofs.YtoalboilghgalaaGreatDoor
