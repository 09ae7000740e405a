/-
  DERIVED. GIVEN WITH THE SEED: THE CARDS: each row of YtidnkmbicedmjaaDoorRows.lean that lists a variable, with what it lists TIED to the program's text (the seventh form; the later family's looks); each row that meets fmt, with fmt's text TOLD by the authors' own Lean function (tested against real Go, not proved from fmt's source: count such statements apart). THE CARD IS WHAT COUNTS. Prove the row's statement (the work); the ties are given (YtidnkmbicedmjaaDoorTie.lean); close each card by the builder's one call (the guide's Derived/Test/ToyasCard.lean, 'card_holds'). Laid BY PROGRAM, IN A SANDBOX (cutbox-door.mjs). By AI agents, Wed Nov 11 2026. No macro, syntax, notation, axiom, sorry.
-/
import Derived.Test.YtidnkmbicedmjaaDoorRows
import GoSem.ClaimSeven
namespace Go.Proofs.YtidnkmbicedmjaaDoor
namespace Rows

/-- THE TIED CARD OF 'remontoirlaw09.CallerServes'. -/
def callerServesCard : Claim7 := { stood := { row := callerServesRow, standIns := [], harness := (true, "15a444d860ab70237edbbbaa20021c204f911982827b5336cbbc8993985c0627"), looks := false }, kinds := [], alts := [], laidByText := true, laidKinds := [.funcs], laidTests := true, laidLooks := .later }
def CallerServesCardSaid : Prop := Claim7.holds Tryd.pinned (.plain (OpenSpec.ofChange callerServesSpec)) callerServesCard

/-- THE TIED CARD OF 'remontoirlaw09.CallerCounts'. -/
def callerCountsCard : Claim7 := { stood := { row := callerCountsRow, standIns := [], harness := (true, "15a444d860ab70237edbbbaa20021c204f911982827b5336cbbc8993985c0627"), looks := false }, kinds := [], alts := [], laidByText := true, laidKinds := [.funcs], laidTests := true, laidLooks := .later }
def CallerCountsCardSaid : Prop := Claim7.holds Tryd.pinned (.plain (OpenSpec.ofChange callerCountsSpec)) callerCountsCard

/-- THE TIED CARD OF 'remontoirlaw09.CallerPays'. -/
def callerPaysCard : Claim7 := { stood := { row := callerPaysRow, standIns := [], harness := (true, "15a444d860ab70237edbbbaa20021c204f911982827b5336cbbc8993985c0627"), looks := false }, kinds := [], alts := [], laidByText := true, laidKinds := [.funcs], laidTests := true, laidLooks := .later }
def CallerPaysCardSaid : Prop := Claim7.holds Tryd.pinned (.plain (OpenSpec.ofChange callerPaysSpec)) callerPaysCard

/-- THE TIED CARD OF 'remontoirlaw09.CallerWhiches'. -/
def callerWhichesCard : Claim7 := { stood := { row := callerWhichesRow, standIns := [], harness := (true, "15a444d860ab70237edbbbaa20021c204f911982827b5336cbbc8993985c0627"), looks := false }, kinds := [], alts := [], laidByText := true, laidKinds := [.funcs], laidTests := true, laidLooks := .later }
def CallerWhichesCardSaid : Prop := Claim7.holds Tryd.pinned (.plain (OpenSpec.ofChange callerWhichesSpec)) callerWhichesCard

/-- THE TIED CARD OF 'remontoirlaw09.CallerTurn'. -/
def callerTurnCard : Claim7 := { stood := { row := callerTurnRow, standIns := [], harness := (true, "15a444d860ab70237edbbbaa20021c204f911982827b5336cbbc8993985c0627"), looks := false }, kinds := [], alts := [], laidByText := true, laidKinds := [.funcs], laidTests := true, laidLooks := .later }
def CallerTurnCardSaid : Prop := Claim7.holds Tryd.pinned (.plain (OpenSpec.ofChange callerTurnSpec)) callerTurnCard

/-- THE TIED CARD OF 'remontoirlaw09.CallerWhole'. -/
def callerWholeCard : Claim7 := { stood := { row := callerWholeRow, standIns := [], harness := (true, "15a444d860ab70237edbbbaa20021c204f911982827b5336cbbc8993985c0627"), looks := false }, kinds := [], alts := [], laidByText := true, laidKinds := [.funcs], laidTests := true, laidLooks := .later }
def CallerWholeCardSaid : Prop := Claim7.holds Tryd.pinned (.plain (OpenSpec.ofChange callerWholeSpec)) callerWholeCard

/-- THE TIED CARD OF 'remontoirlaw09.CallerFewest'. -/
def callerFewestCard : Claim7 := { stood := { row := callerFewestRow, standIns := [], harness := (true, "15a444d860ab70237edbbbaa20021c204f911982827b5336cbbc8993985c0627"), looks := false }, kinds := [], alts := [], laidByText := true, laidKinds := [.funcs], laidTests := true, laidLooks := .later }
def CallerFewestCardSaid : Prop := Claim7.holds Tryd.pinned (.plain (OpenSpec.ofChange callerFewestSpec)) callerFewestCard

/-- THE TIED CARD OF 'remontoirlaw09.CallerLost'. -/
def callerLostCard : Claim7 := { stood := { row := callerLostRow, standIns := [], harness := (true, "15a444d860ab70237edbbbaa20021c204f911982827b5336cbbc8993985c0627"), looks := false }, kinds := [], alts := [], laidByText := true, laidKinds := [.funcs], laidTests := true, laidLooks := .later }
def CallerLostCardSaid : Prop := Claim7.holds Tryd.pinned (.plain (OpenSpec.ofChange callerLostSpec)) callerLostCard

/-- THE TIED CARD OF 'remontoirlaw09.CallerBusy'. -/
def callerBusyCard : Claim7 := { stood := { row := callerBusyRow, standIns := [], harness := (true, "15a444d860ab70237edbbbaa20021c204f911982827b5336cbbc8993985c0627"), looks := false }, kinds := [], alts := [], laidByText := true, laidKinds := [.funcs], laidTests := true, laidLooks := .later }
def CallerBusyCardSaid : Prop := Claim7.holds Tryd.pinned (.plain (OpenSpec.ofChange callerBusySpec)) callerBusyCard

/-- THE TIED CARD OF 'remontoirlaw09.CallerCoin'. -/
def callerCoinCard : Claim7 := { stood := { row := callerCoinRow, standIns := [], harness := (true, "15a444d860ab70237edbbbaa20021c204f911982827b5336cbbc8993985c0627"), looks := false }, kinds := [], alts := [], laidByText := true, laidKinds := [.funcs], laidTests := true, laidLooks := .later }
def CallerCoinCardSaid : Prop := Claim7.holds Tryd.pinned (.plain (OpenSpec.ofChange callerCoinSpec)) callerCoinCard

/-- THE TIED CARD OF 'remontoirlaw09.CallerChange'. -/
def callerChangeCard : Claim7 := { stood := { row := callerChangeRow, standIns := [], harness := (true, "15a444d860ab70237edbbbaa20021c204f911982827b5336cbbc8993985c0627"), looks := false }, kinds := [], alts := [], laidByText := true, laidKinds := [.funcs], laidTests := true, laidLooks := .later }
def CallerChangeCardSaid : Prop := Claim7.holds Tryd.pinned (.plain (OpenSpec.ofChange callerChangeSpec)) callerChangeCard

/-- THE TIED CARD OF 'remontoirlaw09.CallerWhich'. -/
def callerWhichCard : Claim7 := { stood := { row := callerWhichRow, standIns := [], harness := (true, "15a444d860ab70237edbbbaa20021c204f911982827b5336cbbc8993985c0627"), looks := false }, kinds := [], alts := [], laidByText := true, laidKinds := [.funcs], laidTests := true, laidLooks := .later }
def CallerWhichCardSaid : Prop := Claim7.holds Tryd.pinned (.plain (OpenSpec.ofChange callerWhichSpec)) callerWhichCard

/-- THE TIED CARD OF 'remontoirlaw09.CallerKnown'. -/
def callerKnownCard : Claim7 := { stood := { row := callerKnownRow, standIns := [], harness := (true, "15a444d860ab70237edbbbaa20021c204f911982827b5336cbbc8993985c0627"), looks := false }, kinds := [], alts := [], laidByText := true, laidKinds := [.funcs], laidTests := true, laidLooks := .later }
def CallerKnownCardSaid : Prop := Claim7.holds Tryd.pinned (.plain (OpenSpec.ofChange callerKnownSpec)) callerKnownCard

/-- THE SECOND FORM's CARD OF 'remontoirlaw09.CallerServes'. -/
def callerServesUptoCard : Claim7 := { stood := { row := callerServesUptoRow, standIns := [], harness := (true, "15a444d860ab70237edbbbaa20021c204f911982827b5336cbbc8993985c0627"), looks := false }, kinds := [], alts := [], laidByText := true, laidKinds := [.funcs], laidTests := true, laidLooks := .later }
def CallerServesUptoCardSaid : Prop := Claim7.holds Tryd.pinned (.plain (OpenSpec.upto callerServesSpec)) callerServesUptoCard

/-- THE SECOND FORM's CARD OF 'remontoirlaw09.CallerCounts'. -/
def callerCountsUptoCard : Claim7 := { stood := { row := callerCountsUptoRow, standIns := [], harness := (true, "15a444d860ab70237edbbbaa20021c204f911982827b5336cbbc8993985c0627"), looks := false }, kinds := [], alts := [], laidByText := true, laidKinds := [.funcs], laidTests := true, laidLooks := .later }
def CallerCountsUptoCardSaid : Prop := Claim7.holds Tryd.pinned (.plain (OpenSpec.upto callerCountsSpec)) callerCountsUptoCard

/-- THE SECOND FORM's CARD OF 'remontoirlaw09.CallerPays'. -/
def callerPaysUptoCard : Claim7 := { stood := { row := callerPaysUptoRow, standIns := [], harness := (true, "15a444d860ab70237edbbbaa20021c204f911982827b5336cbbc8993985c0627"), looks := false }, kinds := [], alts := [], laidByText := true, laidKinds := [.funcs], laidTests := true, laidLooks := .later }
def CallerPaysUptoCardSaid : Prop := Claim7.holds Tryd.pinned (.plain (OpenSpec.upto callerPaysSpec)) callerPaysUptoCard

/-- THE SECOND FORM's CARD OF 'remontoirlaw09.CallerWhiches'. -/
def callerWhichesUptoCard : Claim7 := { stood := { row := callerWhichesUptoRow, standIns := [], harness := (true, "15a444d860ab70237edbbbaa20021c204f911982827b5336cbbc8993985c0627"), looks := false }, kinds := [], alts := [], laidByText := true, laidKinds := [.funcs], laidTests := true, laidLooks := .later }
def CallerWhichesUptoCardSaid : Prop := Claim7.holds Tryd.pinned (.plain (OpenSpec.upto callerWhichesSpec)) callerWhichesUptoCard

/-- THE SECOND FORM's CARD OF 'remontoirlaw09.CallerTurn'. -/
def callerTurnUptoCard : Claim7 := { stood := { row := callerTurnUptoRow, standIns := [], harness := (true, "15a444d860ab70237edbbbaa20021c204f911982827b5336cbbc8993985c0627"), looks := false }, kinds := [], alts := [], laidByText := true, laidKinds := [.funcs], laidTests := true, laidLooks := .later }
def CallerTurnUptoCardSaid : Prop := Claim7.holds Tryd.pinned (.plain (OpenSpec.upto callerTurnSpec)) callerTurnUptoCard

/-- THE SECOND FORM's CARD OF 'remontoirlaw09.CallerWhole'. -/
def callerWholeUptoCard : Claim7 := { stood := { row := callerWholeUptoRow, standIns := [], harness := (true, "15a444d860ab70237edbbbaa20021c204f911982827b5336cbbc8993985c0627"), looks := false }, kinds := [], alts := [], laidByText := true, laidKinds := [.funcs], laidTests := true, laidLooks := .later }
def CallerWholeUptoCardSaid : Prop := Claim7.holds Tryd.pinned (.plain (OpenSpec.upto callerWholeSpec)) callerWholeUptoCard

/-- THE SECOND FORM's CARD OF 'remontoirlaw09.CallerFewest'. -/
def callerFewestUptoCard : Claim7 := { stood := { row := callerFewestUptoRow, standIns := [], harness := (true, "15a444d860ab70237edbbbaa20021c204f911982827b5336cbbc8993985c0627"), looks := false }, kinds := [], alts := [], laidByText := true, laidKinds := [.funcs], laidTests := true, laidLooks := .later }
def CallerFewestUptoCardSaid : Prop := Claim7.holds Tryd.pinned (.plain (OpenSpec.upto callerFewestSpec)) callerFewestUptoCard

/-- THE SECOND FORM's CARD OF 'remontoirlaw09.CallerLost'. -/
def callerLostUptoCard : Claim7 := { stood := { row := callerLostUptoRow, standIns := [], harness := (true, "15a444d860ab70237edbbbaa20021c204f911982827b5336cbbc8993985c0627"), looks := false }, kinds := [], alts := [], laidByText := true, laidKinds := [.funcs], laidTests := true, laidLooks := .later }
def CallerLostUptoCardSaid : Prop := Claim7.holds Tryd.pinned (.plain (OpenSpec.upto callerLostSpec)) callerLostUptoCard

/-- THE SECOND FORM's CARD OF 'remontoirlaw09.CallerBusy'. -/
def callerBusyUptoCard : Claim7 := { stood := { row := callerBusyUptoRow, standIns := [], harness := (true, "15a444d860ab70237edbbbaa20021c204f911982827b5336cbbc8993985c0627"), looks := false }, kinds := [], alts := [], laidByText := true, laidKinds := [.funcs], laidTests := true, laidLooks := .later }
def CallerBusyUptoCardSaid : Prop := Claim7.holds Tryd.pinned (.plain (OpenSpec.upto callerBusySpec)) callerBusyUptoCard

/-- THE SECOND FORM's CARD OF 'remontoirlaw09.CallerCoin'. -/
def callerCoinUptoCard : Claim7 := { stood := { row := callerCoinUptoRow, standIns := [], harness := (true, "15a444d860ab70237edbbbaa20021c204f911982827b5336cbbc8993985c0627"), looks := false }, kinds := [], alts := [], laidByText := true, laidKinds := [.funcs], laidTests := true, laidLooks := .later }
def CallerCoinUptoCardSaid : Prop := Claim7.holds Tryd.pinned (.plain (OpenSpec.upto callerCoinSpec)) callerCoinUptoCard

/-- THE SECOND FORM's CARD OF 'remontoirlaw09.CallerChange'. -/
def callerChangeUptoCard : Claim7 := { stood := { row := callerChangeUptoRow, standIns := [], harness := (true, "15a444d860ab70237edbbbaa20021c204f911982827b5336cbbc8993985c0627"), looks := false }, kinds := [], alts := [], laidByText := true, laidKinds := [.funcs], laidTests := true, laidLooks := .later }
def CallerChangeUptoCardSaid : Prop := Claim7.holds Tryd.pinned (.plain (OpenSpec.upto callerChangeSpec)) callerChangeUptoCard

/-- THE SECOND FORM's CARD OF 'remontoirlaw09.CallerWhich'. -/
def callerWhichUptoCard : Claim7 := { stood := { row := callerWhichUptoRow, standIns := [], harness := (true, "15a444d860ab70237edbbbaa20021c204f911982827b5336cbbc8993985c0627"), looks := false }, kinds := [], alts := [], laidByText := true, laidKinds := [.funcs], laidTests := true, laidLooks := .later }
def CallerWhichUptoCardSaid : Prop := Claim7.holds Tryd.pinned (.plain (OpenSpec.upto callerWhichSpec)) callerWhichUptoCard

/-- THE SECOND FORM's CARD OF 'remontoirlaw09.CallerKnown'. -/
def callerKnownUptoCard : Claim7 := { stood := { row := callerKnownUptoRow, standIns := [], harness := (true, "15a444d860ab70237edbbbaa20021c204f911982827b5336cbbc8993985c0627"), looks := false }, kinds := [], alts := [], laidByText := true, laidKinds := [.funcs], laidTests := true, laidLooks := .later }
def CallerKnownUptoCardSaid : Prop := Claim7.holds Tryd.pinned (.plain (OpenSpec.upto callerKnownSpec)) callerKnownUptoCard
end Rows
end Go.Proofs.YtidnkmbicedmjaaDoor
