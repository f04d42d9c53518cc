/-
  DERIVED. GIVEN WITH THE SEED: THE CARDS: each row of YtplmfdbiinjccaaDoorRows.lean that lists a variable, with what it lists TIED to the program's text (the seventh form; the later family's looks); each row that meets fmt, with fmt's text TOLD by the authors' own Lean function (tested against real Go, not proved from fmt's source: count such statements apart). THE CARD IS WHAT COUNTS. Prove the row's statement (the work); the ties are given (YtplmfdbiinjccaaDoorTie.lean); close each card by the builder's one call (the guide's Derived/Test/ToyasCard.lean, 'card_holds'). Laid BY PROGRAM, IN A SANDBOX (cutbox-door.mjs). By AI agents, Wed Nov 11 2026. No macro, syntax, notation, axiom, sorry.
-/
import Derived.Test.YtplmfdbiinjccaaDoorRows
import GoSem.ClaimSeven
namespace Go.Proofs.YtplmfdbiinjccaaDoor
namespace Rows

/-- THE TIED CARD OF 'geminationlaw03.MaskTells'. -/
def maskTellsCard : Claim7 := { stood := { row := maskTellsRow, standIns := [], harness := (true, "5ec41c6569b464e9bcaf15c2386acc8fc19eed8e7aa0c4479cdab6ebe9800a7d"), looks := false }, kinds := [], alts := [], laidByText := true, laidKinds := [.data], laidTests := true, laidLooks := .later }
def MaskTellsCardSaid : Prop := Claim7.holds Tryd.pinned (.plain (OpenSpec.ofChange maskTellsSpec)) maskTellsCard

/-- THE TIED CARD OF 'geminationlaw03.MaskMakes'. -/
def maskMakesCard : Claim7 := { stood := { row := maskMakesRow, standIns := [], harness := (true, "5ec41c6569b464e9bcaf15c2386acc8fc19eed8e7aa0c4479cdab6ebe9800a7d"), looks := false }, kinds := [], alts := [], laidByText := true, laidKinds := [.data], laidTests := true, laidLooks := .later }
def MaskMakesCardSaid : Prop := Claim7.holds Tryd.pinned (.plain (OpenSpec.ofChange maskMakesSpec)) maskMakesCard

/-- THE TIED CARD OF 'geminationlaw03.MaskOnes'. -/
def maskOnesCard : Claim7 := { stood := { row := maskOnesRow, standIns := [], harness := (true, "5ec41c6569b464e9bcaf15c2386acc8fc19eed8e7aa0c4479cdab6ebe9800a7d"), looks := false }, kinds := [], alts := [], laidByText := true, laidKinds := [.data], laidTests := true, laidLooks := .later }
def MaskOnesCardSaid : Prop := Claim7.holds Tryd.pinned (.plain (OpenSpec.ofChange maskOnesSpec)) maskOnesCard

/-- THE SECOND FORM's CARD OF 'geminationlaw03.MaskTells'. -/
def maskTellsUptoCard : Claim7 := { stood := { row := maskTellsUptoRow, standIns := [], harness := (true, "5ec41c6569b464e9bcaf15c2386acc8fc19eed8e7aa0c4479cdab6ebe9800a7d"), looks := false }, kinds := [], alts := [], laidByText := true, laidKinds := [.data], laidTests := true, laidLooks := .later }
def MaskTellsUptoCardSaid : Prop := Claim7.holds Tryd.pinned (.plain (OpenSpec.upto maskTellsSpec)) maskTellsUptoCard

/-- THE SECOND FORM's CARD OF 'geminationlaw03.MaskMakes'. -/
def maskMakesUptoCard : Claim7 := { stood := { row := maskMakesUptoRow, standIns := [], harness := (true, "5ec41c6569b464e9bcaf15c2386acc8fc19eed8e7aa0c4479cdab6ebe9800a7d"), looks := false }, kinds := [], alts := [], laidByText := true, laidKinds := [.data], laidTests := true, laidLooks := .later }
def MaskMakesUptoCardSaid : Prop := Claim7.holds Tryd.pinned (.plain (OpenSpec.upto maskMakesSpec)) maskMakesUptoCard

/-- THE SECOND FORM's CARD OF 'geminationlaw03.MaskOnes'. -/
def maskOnesUptoCard : Claim7 := { stood := { row := maskOnesUptoRow, standIns := [], harness := (true, "5ec41c6569b464e9bcaf15c2386acc8fc19eed8e7aa0c4479cdab6ebe9800a7d"), looks := false }, kinds := [], alts := [], laidByText := true, laidKinds := [.data], laidTests := true, laidLooks := .later }
def MaskOnesUptoCardSaid : Prop := Claim7.holds Tryd.pinned (.plain (OpenSpec.upto maskOnesSpec)) maskOnesUptoCard
end Rows
end Go.Proofs.YtplmfdbiinjccaaDoor
