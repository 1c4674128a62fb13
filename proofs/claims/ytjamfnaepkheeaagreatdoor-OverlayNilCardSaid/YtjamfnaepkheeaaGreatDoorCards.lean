/-
  DERIVED. GIVEN WITH THE SEED: THE CARDS: each row of YtjamfnaepkheeaaGreatDoorRows.lean that lists a variable, with what it lists TIED to the program's text (the seventh form; the later family's looks); each row that meets fmt, with fmt's text TOLD by the authors' own Lean function (tested against real Go, not proved from fmt's source: count such statements apart). THE CARD IS WHAT COUNTS. Prove the row's statement (the work); the ties are given (YtjamfnaepkheeaaGreatDoorTie.lean); close each card by the builder's one call (the guide's Derived/Test/ToyasCard.lean, 'card_holds'). Laid BY PROGRAM, IN A SANDBOX (cutbox-door.mjs). By AI agents, Wed Nov 11 2026. No macro, syntax, notation, axiom, sorry.
-/
import Derived.Test.YtjamfnaepkheeaaGreatDoorRows
import GoSem.ClaimSeven
namespace Go.Proofs.YtjamfnaepkheeaaGreatDoor
namespace Rows

/-- THE TIED CARD OF 'arbourlaw14.ForestDeltas'. -/
def forestDeltasCard : Claim7 := { stood := { row := forestDeltasRow, standIns := [], harness := (true, "d7eacff909f9eed4124b8692fb6309aba15e0d5fb453d6a494f21b4ff1cd1b35"), looks := false }, kinds := [], alts := [], laidByText := true, laidKinds := [.data, .data, .data], laidTests := true, laidLooks := .later }
def ForestDeltasCardSaid : Prop := Claim7.holds Tryz.pinned (.plain (OpenSpec.ofChange forestDeltasSpec)) forestDeltasCard

/-- THE TIED CARD OF 'arbourlaw19.BrokerNil'. -/
def brokerNilCard : Claim7 := { stood := { row := brokerNilRow, standIns := [], harness := (true, "d7eacff909f9eed4124b8692fb6309aba15e0d5fb453d6a494f21b4ff1cd1b35"), looks := false }, kinds := [], alts := [], laidByText := true, laidKinds := [.data, .data, .data], laidTests := true, laidLooks := .later }
def BrokerNilCardSaid : Prop := Claim7.holds Tryz.pinned (.plain (OpenSpec.ofChange brokerNilSpec)) brokerNilCard

/-- THE TIED CARD OF 'arbourlaw20.OverlayNil'. -/
def overlayNilCard : Claim7 := { stood := { row := overlayNilRow, standIns := [], harness := (true, "d7eacff909f9eed4124b8692fb6309aba15e0d5fb453d6a494f21b4ff1cd1b35"), looks := false }, kinds := [], alts := [], laidByText := true, laidKinds := [.data, .data, .data], laidTests := true, laidLooks := .later }
def OverlayNilCardSaid : Prop := Claim7.holds Tryz.pinned (.plain (OpenSpec.ofChange overlayNilSpec)) overlayNilCard

/-- THE SECOND FORM's CARD OF 'arbourlaw14.ForestDeltas'. -/
def forestDeltasUptoCard : Claim7 := { stood := { row := forestDeltasUptoRow, standIns := [], harness := (true, "d7eacff909f9eed4124b8692fb6309aba15e0d5fb453d6a494f21b4ff1cd1b35"), looks := false }, kinds := [], alts := [], laidByText := true, laidKinds := [.data, .data, .data], laidTests := true, laidLooks := .later }
def ForestDeltasUptoCardSaid : Prop := Claim7.holds Tryz.pinned (.plain (OpenSpec.upto forestDeltasSpec)) forestDeltasUptoCard

/-- THE SECOND FORM's CARD OF 'arbourlaw19.BrokerNil'. -/
def brokerNilUptoCard : Claim7 := { stood := { row := brokerNilUptoRow, standIns := [], harness := (true, "d7eacff909f9eed4124b8692fb6309aba15e0d5fb453d6a494f21b4ff1cd1b35"), looks := false }, kinds := [], alts := [], laidByText := true, laidKinds := [.data, .data, .data], laidTests := true, laidLooks := .later }
def BrokerNilUptoCardSaid : Prop := Claim7.holds Tryz.pinned (.plain (OpenSpec.upto brokerNilSpec)) brokerNilUptoCard

/-- THE SECOND FORM's CARD OF 'arbourlaw20.OverlayNil'. -/
def overlayNilUptoCard : Claim7 := { stood := { row := overlayNilUptoRow, standIns := [], harness := (true, "d7eacff909f9eed4124b8692fb6309aba15e0d5fb453d6a494f21b4ff1cd1b35"), looks := false }, kinds := [], alts := [], laidByText := true, laidKinds := [.data, .data, .data], laidTests := true, laidLooks := .later }
def OverlayNilUptoCardSaid : Prop := Claim7.holds Tryz.pinned (.plain (OpenSpec.upto overlayNilSpec)) overlayNilUptoCard
end Rows
end Go.Proofs.YtjamfnaepkheeaaGreatDoor
