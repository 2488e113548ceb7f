/-
  DERIVED. GIVEN WITH THE SEED: THE CARDS: each row of YtoojdknfommpbaaDoorRows.lean that lists a variable, with what it lists TIED to the program's text (the seventh form; the later family's looks); each row that meets fmt, with fmt's text TOLD by the authors' own Lean function (tested against real Go, not proved from fmt's source: count such statements apart). THE CARD IS WHAT COUNTS. Prove the row's statement (the work); the ties are given (YtoojdknfommpbaaDoorTie.lean); close each card by the builder's one call (the guide's Derived/Test/ToyasCard.lean, 'card_holds'). Laid BY PROGRAM, IN A SANDBOX (cutbox-door.mjs). By AI agents, Wed Nov 11 2026. No macro, syntax, notation, axiom, sorry.
-/
import Derived.Test.YtoojdknfommpbaaDoorRows
import GoSem.ClaimSeven
namespace Go.Proofs.YtoojdknfommpbaaDoor
namespace Rows

/-- THE TIED CARD OF 'draymanlaw06.StampSeals'. -/
def stampSealsCard : Claim7 := { stood := { row := stampSealsRow, standIns := [], harness := (true, "b550f0e98977ae6861351d428f1b2fba536dbf7f3578ecf1ecf9482e0c573850"), looks := false }, kinds := [], alts := [], laidByText := true, laidKinds := [.data, .pinned], laidTests := true, laidLooks := .later }
def StampSealsCardSaid : Prop := Claim7.holds Tryd.pinned (.plain (OpenSpec.ofChange stampSealsSpec)) stampSealsCard

/-- THE TIED CARD OF 'draymanlaw06.StampOpens'. -/
def stampOpensCard : Claim7 := { stood := { row := stampOpensRow, standIns := [], harness := (true, "b550f0e98977ae6861351d428f1b2fba536dbf7f3578ecf1ecf9482e0c573850"), looks := false }, kinds := [], alts := [], laidByText := true, laidKinds := [.data, .pinned], laidTests := true, laidLooks := .later }
def StampOpensCardSaid : Prop := Claim7.holds Tryd.pinned (.plain (OpenSpec.ofChange stampOpensSpec)) stampOpensCard

/-- THE TIED CARD OF 'draymanlaw06.StampBack'. -/
def stampBackCard : Claim7 := { stood := { row := stampBackRow, standIns := [], harness := (true, "b550f0e98977ae6861351d428f1b2fba536dbf7f3578ecf1ecf9482e0c573850"), looks := false }, kinds := [], alts := [], laidByText := true, laidKinds := [.data, .pinned], laidTests := true, laidLooks := .later }
def StampBackCardSaid : Prop := Claim7.holds Tryd.pinned (.plain (OpenSpec.ofChange stampBackSpec)) stampBackCard

/-- THE TIED CARD OF 'draymanlaw06.StampTorn'. -/
def stampTornCard : Claim7 := { stood := { row := stampTornRow, standIns := [], harness := (true, "b550f0e98977ae6861351d428f1b2fba536dbf7f3578ecf1ecf9482e0c573850"), looks := false }, kinds := [], alts := [], laidByText := true, laidKinds := [.data, .pinned], laidTests := true, laidLooks := .later }
def StampTornCardSaid : Prop := Claim7.holds Tryd.pinned (.plain (OpenSpec.ofChange stampTornSpec)) stampTornCard

/-- THE TIED CARD OF 'draymanlaw07.SuperTells'. -/
def superTellsCard : Claim7 := { stood := { row := superTellsRow, standIns := [], harness := (true, "b550f0e98977ae6861351d428f1b2fba536dbf7f3578ecf1ecf9482e0c573850"), looks := false }, kinds := [], alts := [], laidByText := true, laidKinds := [.data, .pinned], laidTests := true, laidLooks := .later }
def SuperTellsCardSaid : Prop := Claim7.holds Tryd.pinned (.plain (OpenSpec.ofChange superTellsSpec)) superTellsCard

/-- THE TIED CARD OF 'draymanlaw07.SuperBest'. -/
def superBestCard : Claim7 := { stood := { row := superBestRow, standIns := [], harness := (true, "b550f0e98977ae6861351d428f1b2fba536dbf7f3578ecf1ecf9482e0c573850"), looks := false }, kinds := [], alts := [], laidByText := true, laidKinds := [.data, .pinned], laidTests := true, laidLooks := .later }
def SuperBestCardSaid : Prop := Claim7.holds Tryd.pinned (.plain (OpenSpec.ofChange superBestSpec)) superBestCard

/-- THE TIED CARD OF 'draymanlaw07.SuperBack'. -/
def superBackCard : Claim7 := { stood := { row := superBackRow, standIns := [], harness := (true, "b550f0e98977ae6861351d428f1b2fba536dbf7f3578ecf1ecf9482e0c573850"), looks := false }, kinds := [], alts := [], laidByText := true, laidKinds := [.data, .pinned], laidTests := true, laidLooks := .later }
def SuperBackCardSaid : Prop := Claim7.holds Tryd.pinned (.plain (OpenSpec.ofChange superBackSpec)) superBackCard

/-- THE TIED CARD OF 'draymanlaw07.SuperTurns'. -/
def superTurnsCard : Claim7 := { stood := { row := superTurnsRow, standIns := [], harness := (true, "b550f0e98977ae6861351d428f1b2fba536dbf7f3578ecf1ecf9482e0c573850"), looks := false }, kinds := [], alts := [], laidByText := true, laidKinds := [.data, .pinned], laidTests := true, laidLooks := .later }
def SuperTurnsCardSaid : Prop := Claim7.holds Tryd.pinned (.plain (OpenSpec.ofChange superTurnsSpec)) superTurnsCard

/-- THE TIED CARD OF 'draymanlaw09.SegsErase'. -/
def segsEraseCard : Claim7 := { stood := { row := segsEraseRow, standIns := [], harness := (true, "b550f0e98977ae6861351d428f1b2fba536dbf7f3578ecf1ecf9482e0c573850"), looks := false }, kinds := [], alts := [], laidByText := true, laidKinds := [.data, .pinned], laidTests := true, laidLooks := .later }
def SegsEraseCardSaid : Prop := Claim7.holds Tryd.pinned (.plain (OpenSpec.ofChange segsEraseSpec)) segsEraseCard

/-- THE SECOND FORM's CARD OF 'draymanlaw06.StampSeals'. -/
def stampSealsUptoCard : Claim7 := { stood := { row := stampSealsUptoRow, standIns := [], harness := (true, "b550f0e98977ae6861351d428f1b2fba536dbf7f3578ecf1ecf9482e0c573850"), looks := false }, kinds := [], alts := [], laidByText := true, laidKinds := [.data, .pinned], laidTests := true, laidLooks := .later }
def StampSealsUptoCardSaid : Prop := Claim7.holds Tryd.pinned (.plain (OpenSpec.upto stampSealsSpec)) stampSealsUptoCard

/-- THE SECOND FORM's CARD OF 'draymanlaw06.StampOpens'. -/
def stampOpensUptoCard : Claim7 := { stood := { row := stampOpensUptoRow, standIns := [], harness := (true, "b550f0e98977ae6861351d428f1b2fba536dbf7f3578ecf1ecf9482e0c573850"), looks := false }, kinds := [], alts := [], laidByText := true, laidKinds := [.data, .pinned], laidTests := true, laidLooks := .later }
def StampOpensUptoCardSaid : Prop := Claim7.holds Tryd.pinned (.plain (OpenSpec.upto stampOpensSpec)) stampOpensUptoCard

/-- THE SECOND FORM's CARD OF 'draymanlaw06.StampBack'. -/
def stampBackUptoCard : Claim7 := { stood := { row := stampBackUptoRow, standIns := [], harness := (true, "b550f0e98977ae6861351d428f1b2fba536dbf7f3578ecf1ecf9482e0c573850"), looks := false }, kinds := [], alts := [], laidByText := true, laidKinds := [.data, .pinned], laidTests := true, laidLooks := .later }
def StampBackUptoCardSaid : Prop := Claim7.holds Tryd.pinned (.plain (OpenSpec.upto stampBackSpec)) stampBackUptoCard

/-- THE SECOND FORM's CARD OF 'draymanlaw06.StampTorn'. -/
def stampTornUptoCard : Claim7 := { stood := { row := stampTornUptoRow, standIns := [], harness := (true, "b550f0e98977ae6861351d428f1b2fba536dbf7f3578ecf1ecf9482e0c573850"), looks := false }, kinds := [], alts := [], laidByText := true, laidKinds := [.data, .pinned], laidTests := true, laidLooks := .later }
def StampTornUptoCardSaid : Prop := Claim7.holds Tryd.pinned (.plain (OpenSpec.upto stampTornSpec)) stampTornUptoCard

/-- THE SECOND FORM's CARD OF 'draymanlaw07.SuperTells'. -/
def superTellsUptoCard : Claim7 := { stood := { row := superTellsUptoRow, standIns := [], harness := (true, "b550f0e98977ae6861351d428f1b2fba536dbf7f3578ecf1ecf9482e0c573850"), looks := false }, kinds := [], alts := [], laidByText := true, laidKinds := [.data, .pinned], laidTests := true, laidLooks := .later }
def SuperTellsUptoCardSaid : Prop := Claim7.holds Tryd.pinned (.plain (OpenSpec.upto superTellsSpec)) superTellsUptoCard

/-- THE SECOND FORM's CARD OF 'draymanlaw07.SuperBest'. -/
def superBestUptoCard : Claim7 := { stood := { row := superBestUptoRow, standIns := [], harness := (true, "b550f0e98977ae6861351d428f1b2fba536dbf7f3578ecf1ecf9482e0c573850"), looks := false }, kinds := [], alts := [], laidByText := true, laidKinds := [.data, .pinned], laidTests := true, laidLooks := .later }
def SuperBestUptoCardSaid : Prop := Claim7.holds Tryd.pinned (.plain (OpenSpec.upto superBestSpec)) superBestUptoCard

/-- THE SECOND FORM's CARD OF 'draymanlaw07.SuperBack'. -/
def superBackUptoCard : Claim7 := { stood := { row := superBackUptoRow, standIns := [], harness := (true, "b550f0e98977ae6861351d428f1b2fba536dbf7f3578ecf1ecf9482e0c573850"), looks := false }, kinds := [], alts := [], laidByText := true, laidKinds := [.data, .pinned], laidTests := true, laidLooks := .later }
def SuperBackUptoCardSaid : Prop := Claim7.holds Tryd.pinned (.plain (OpenSpec.upto superBackSpec)) superBackUptoCard

/-- THE SECOND FORM's CARD OF 'draymanlaw07.SuperTurns'. -/
def superTurnsUptoCard : Claim7 := { stood := { row := superTurnsUptoRow, standIns := [], harness := (true, "b550f0e98977ae6861351d428f1b2fba536dbf7f3578ecf1ecf9482e0c573850"), looks := false }, kinds := [], alts := [], laidByText := true, laidKinds := [.data, .pinned], laidTests := true, laidLooks := .later }
def SuperTurnsUptoCardSaid : Prop := Claim7.holds Tryd.pinned (.plain (OpenSpec.upto superTurnsSpec)) superTurnsUptoCard

/-- THE SECOND FORM's CARD OF 'draymanlaw09.SegsErase'. -/
def segsEraseUptoCard : Claim7 := { stood := { row := segsEraseUptoRow, standIns := [], harness := (true, "b550f0e98977ae6861351d428f1b2fba536dbf7f3578ecf1ecf9482e0c573850"), looks := false }, kinds := [], alts := [], laidByText := true, laidKinds := [.data, .pinned], laidTests := true, laidLooks := .later }
def SegsEraseUptoCardSaid : Prop := Claim7.holds Tryd.pinned (.plain (OpenSpec.upto segsEraseSpec)) segsEraseUptoCard
end Rows
end Go.Proofs.YtoojdknfommpbaaDoor
