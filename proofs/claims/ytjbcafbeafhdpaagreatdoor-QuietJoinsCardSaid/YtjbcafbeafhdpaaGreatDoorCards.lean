/-
  DERIVED. GIVEN WITH THE SEED: THE CARDS: each row of YtjbcafbeafhdpaaGreatDoorRows.lean that lists a variable, with what it lists TIED to the program's text (the seventh form; the later family's looks); each row that meets fmt, with fmt's text TOLD by the authors' own Lean function (tested against real Go, not proved from fmt's source: count such statements apart). THE CARD IS WHAT COUNTS. Prove the row's statement (the work); the ties are given (YtjbcafbeafhdpaaGreatDoorTie.lean); close each card by the builder's one call (the guide's Derived/Test/ToyasCard.lean, 'card_holds'). Laid BY PROGRAM, IN A SANDBOX (cutbox-door.mjs). By AI agents, Wed Nov 11 2026. No macro, syntax, notation, axiom, sorry.
-/
import Derived.Test.YtjbcafbeafhdpaaGreatDoorRows
import GoSem.ClaimSeven
namespace Go.Proofs.YtjbcafbeafhdpaaGreatDoor
namespace Rows

/-- THE TIED CARD OF 'minuetlaw25.Bounds'. -/
def boundsCard : Claim7 := { stood := { row := boundsRow, standIns := [], harness := (true, "6a9bfc0be4613dfbc3b591c14ba1d1d69fdce732a1d5f32a880a5121ba65ccb7"), looks := true }, kinds := [], alts := [], laidByText := true, laidKinds := [.data, .data, .data, .sentinel, .sentinel], laidTests := true, laidLooks := .later }
def BoundsCardSaid : Prop := Claim7.holds Tryz.pinned (.plain (OpenSpec.ofChange boundsSpec)) boundsCard

/-- THE TIED CARD OF 'minuetlaw25.QuietTurns'. -/
def quietTurnsCard : Claim7 := { stood := { row := quietTurnsRow, standIns := [], harness := (true, "6a9bfc0be4613dfbc3b591c14ba1d1d69fdce732a1d5f32a880a5121ba65ccb7"), looks := true }, kinds := [], alts := [], laidByText := true, laidKinds := [.data, .data, .data, .sentinel, .sentinel], laidTests := true, laidLooks := .later }
def QuietTurnsCardSaid : Prop := Claim7.holds Tryz.pinned (.plain (OpenSpec.ofChange quietTurnsSpec)) quietTurnsCard

/-- THE TIED CARD OF 'minuetlaw25.QuietJoins'. -/
def quietJoinsCard : Claim7 := { stood := { row := quietJoinsRow, standIns := [], harness := (true, "6a9bfc0be4613dfbc3b591c14ba1d1d69fdce732a1d5f32a880a5121ba65ccb7"), looks := true }, kinds := [], alts := [], laidByText := true, laidKinds := [.data, .data, .data, .sentinel, .sentinel], laidTests := true, laidLooks := .later }
def QuietJoinsCardSaid : Prop := Claim7.holds Tryz.pinned (.plain (OpenSpec.ofChange quietJoinsSpec)) quietJoinsCard

/-- THE SECOND FORM's CARD OF 'minuetlaw25.Bounds'. -/
def boundsUptoCard : Claim7 := { stood := { row := boundsUptoRow, standIns := [], harness := (true, "6a9bfc0be4613dfbc3b591c14ba1d1d69fdce732a1d5f32a880a5121ba65ccb7"), looks := true }, kinds := [], alts := [], laidByText := true, laidKinds := [.data, .data, .data, .sentinel, .sentinel], laidTests := true, laidLooks := .later }
def BoundsUptoCardSaid : Prop := Claim7.holds Tryz.pinned (.plain (OpenSpec.upto boundsSpec)) boundsUptoCard

/-- THE SECOND FORM's CARD OF 'minuetlaw25.QuietTurns'. -/
def quietTurnsUptoCard : Claim7 := { stood := { row := quietTurnsUptoRow, standIns := [], harness := (true, "6a9bfc0be4613dfbc3b591c14ba1d1d69fdce732a1d5f32a880a5121ba65ccb7"), looks := true }, kinds := [], alts := [], laidByText := true, laidKinds := [.data, .data, .data, .sentinel, .sentinel], laidTests := true, laidLooks := .later }
def QuietTurnsUptoCardSaid : Prop := Claim7.holds Tryz.pinned (.plain (OpenSpec.upto quietTurnsSpec)) quietTurnsUptoCard

/-- THE SECOND FORM's CARD OF 'minuetlaw25.QuietJoins'. -/
def quietJoinsUptoCard : Claim7 := { stood := { row := quietJoinsUptoRow, standIns := [], harness := (true, "6a9bfc0be4613dfbc3b591c14ba1d1d69fdce732a1d5f32a880a5121ba65ccb7"), looks := true }, kinds := [], alts := [], laidByText := true, laidKinds := [.data, .data, .data, .sentinel, .sentinel], laidTests := true, laidLooks := .later }
def QuietJoinsUptoCardSaid : Prop := Claim7.holds Tryz.pinned (.plain (OpenSpec.upto quietJoinsSpec)) quietJoinsUptoCard
end Rows
end Go.Proofs.YtjbcafbeafhdpaaGreatDoor
