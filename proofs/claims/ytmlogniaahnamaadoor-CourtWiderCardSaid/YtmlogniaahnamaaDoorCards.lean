/-
  DERIVED. GIVEN WITH THE SEED: THE CARDS: each row of YtmlogniaahnamaaDoorRows.lean that lists a variable, with what it lists TIED to the program's text (the seventh form; the later family's looks); each row that meets fmt, with fmt's text TOLD by the authors' own Lean function (tested against real Go, not proved from fmt's source: count such statements apart). THE CARD IS WHAT COUNTS. Prove the row's statement (the work); the ties are given (YtmlogniaahnamaaDoorTie.lean); close each card by the builder's one call (the guide's Derived/Test/ToyasCard.lean, 'card_holds'). Laid BY PROGRAM, IN A SANDBOX (cutbox-door.mjs). By AI agents, Wed Nov 11 2026. No macro, syntax, notation, axiom, sorry.
-/
import Derived.Test.YtmlogniaahnamaaDoorRows
import GoSem.ClaimSeven
namespace Go.Proofs.YtmlogniaahnamaaDoor
namespace Rows

/-- THE TIED CARD OF 'remontoirlaw10.CourtOpposite'. -/
def courtOppositeCard : Claim7 := { stood := { row := courtOppositeRow, standIns := [], harness := (true, "b95b42dadd929d77cff44bea088f8ad660737f81128461e1ef79d96d58ec8136"), looks := false }, kinds := [], alts := [], laidByText := true, laidKinds := [.funcs, .funcs], laidTests := true, laidLooks := .later }
def CourtOppositeCardSaid : Prop := Claim7.holds Tryd.pinned (.plain (OpenSpec.ofChange courtOppositeSpec)) courtOppositeCard

/-- THE TIED CARD OF 'remontoirlaw10.CourtMore'. -/
def courtMoreCard : Claim7 := { stood := { row := courtMoreRow, standIns := [], harness := (true, "b95b42dadd929d77cff44bea088f8ad660737f81128461e1ef79d96d58ec8136"), looks := false }, kinds := [], alts := [], laidByText := true, laidKinds := [.funcs, .funcs], laidTests := true, laidLooks := .later }
def CourtMoreCardSaid : Prop := Claim7.holds Tryd.pinned (.plain (OpenSpec.ofChange courtMoreSpec)) courtMoreCard

/-- THE TIED CARD OF 'remontoirlaw10.CourtWider'. -/
def courtWiderCard : Claim7 := { stood := { row := courtWiderRow, standIns := [], harness := (true, "b95b42dadd929d77cff44bea088f8ad660737f81128461e1ef79d96d58ec8136"), looks := false }, kinds := [], alts := [], laidByText := true, laidKinds := [.funcs, .funcs], laidTests := true, laidLooks := .later }
def CourtWiderCardSaid : Prop := Claim7.holds Tryd.pinned (.plain (OpenSpec.ofChange courtWiderSpec)) courtWiderCard

/-- THE TIED CARD OF 'remontoirlaw10.CourtWhen'. -/
def courtWhenCard : Claim7 := { stood := { row := courtWhenRow, standIns := [], harness := (true, "b95b42dadd929d77cff44bea088f8ad660737f81128461e1ef79d96d58ec8136"), looks := false }, kinds := [], alts := [], laidByText := true, laidKinds := [.funcs, .funcs], laidTests := true, laidLooks := .later }
def CourtWhenCardSaid : Prop := Claim7.holds Tryd.pinned (.plain (OpenSpec.ofChange courtWhenSpec)) courtWhenCard

/-- THE TIED CARD OF 'remontoirlaw10.CourtStricter'. -/
def courtStricterCard : Claim7 := { stood := { row := courtStricterRow, standIns := [], harness := (true, "b95b42dadd929d77cff44bea088f8ad660737f81128461e1ef79d96d58ec8136"), looks := false }, kinds := [], alts := [], laidByText := true, laidKinds := [.funcs, .funcs], laidTests := true, laidLooks := .later }
def CourtStricterCardSaid : Prop := Claim7.holds Tryd.pinned (.plain (OpenSpec.ofChange courtStricterSpec)) courtStricterCard

/-- THE TIED CARD OF 'remontoirlaw10.CourtKnown'. -/
def courtKnownCard : Claim7 := { stood := { row := courtKnownRow, standIns := [], harness := (true, "b95b42dadd929d77cff44bea088f8ad660737f81128461e1ef79d96d58ec8136"), looks := false }, kinds := [], alts := [], laidByText := true, laidKinds := [.funcs, .funcs], laidTests := true, laidLooks := .later }
def CourtKnownCardSaid : Prop := Claim7.holds Tryd.pinned (.plain (OpenSpec.ofChange courtKnownSpec)) courtKnownCard

/-- THE SECOND FORM's CARD OF 'remontoirlaw10.CourtOpposite'. -/
def courtOppositeUptoCard : Claim7 := { stood := { row := courtOppositeUptoRow, standIns := [], harness := (true, "b95b42dadd929d77cff44bea088f8ad660737f81128461e1ef79d96d58ec8136"), looks := false }, kinds := [], alts := [], laidByText := true, laidKinds := [.funcs, .funcs], laidTests := true, laidLooks := .later }
def CourtOppositeUptoCardSaid : Prop := Claim7.holds Tryd.pinned (.plain (OpenSpec.upto courtOppositeSpec)) courtOppositeUptoCard

/-- THE SECOND FORM's CARD OF 'remontoirlaw10.CourtMore'. -/
def courtMoreUptoCard : Claim7 := { stood := { row := courtMoreUptoRow, standIns := [], harness := (true, "b95b42dadd929d77cff44bea088f8ad660737f81128461e1ef79d96d58ec8136"), looks := false }, kinds := [], alts := [], laidByText := true, laidKinds := [.funcs, .funcs], laidTests := true, laidLooks := .later }
def CourtMoreUptoCardSaid : Prop := Claim7.holds Tryd.pinned (.plain (OpenSpec.upto courtMoreSpec)) courtMoreUptoCard

/-- THE SECOND FORM's CARD OF 'remontoirlaw10.CourtWider'. -/
def courtWiderUptoCard : Claim7 := { stood := { row := courtWiderUptoRow, standIns := [], harness := (true, "b95b42dadd929d77cff44bea088f8ad660737f81128461e1ef79d96d58ec8136"), looks := false }, kinds := [], alts := [], laidByText := true, laidKinds := [.funcs, .funcs], laidTests := true, laidLooks := .later }
def CourtWiderUptoCardSaid : Prop := Claim7.holds Tryd.pinned (.plain (OpenSpec.upto courtWiderSpec)) courtWiderUptoCard

/-- THE SECOND FORM's CARD OF 'remontoirlaw10.CourtWhen'. -/
def courtWhenUptoCard : Claim7 := { stood := { row := courtWhenUptoRow, standIns := [], harness := (true, "b95b42dadd929d77cff44bea088f8ad660737f81128461e1ef79d96d58ec8136"), looks := false }, kinds := [], alts := [], laidByText := true, laidKinds := [.funcs, .funcs], laidTests := true, laidLooks := .later }
def CourtWhenUptoCardSaid : Prop := Claim7.holds Tryd.pinned (.plain (OpenSpec.upto courtWhenSpec)) courtWhenUptoCard

/-- THE SECOND FORM's CARD OF 'remontoirlaw10.CourtStricter'. -/
def courtStricterUptoCard : Claim7 := { stood := { row := courtStricterUptoRow, standIns := [], harness := (true, "b95b42dadd929d77cff44bea088f8ad660737f81128461e1ef79d96d58ec8136"), looks := false }, kinds := [], alts := [], laidByText := true, laidKinds := [.funcs, .funcs], laidTests := true, laidLooks := .later }
def CourtStricterUptoCardSaid : Prop := Claim7.holds Tryd.pinned (.plain (OpenSpec.upto courtStricterSpec)) courtStricterUptoCard

/-- THE SECOND FORM's CARD OF 'remontoirlaw10.CourtKnown'. -/
def courtKnownUptoCard : Claim7 := { stood := { row := courtKnownUptoRow, standIns := [], harness := (true, "b95b42dadd929d77cff44bea088f8ad660737f81128461e1ef79d96d58ec8136"), looks := false }, kinds := [], alts := [], laidByText := true, laidKinds := [.funcs, .funcs], laidTests := true, laidLooks := .later }
def CourtKnownUptoCardSaid : Prop := Claim7.holds Tryd.pinned (.plain (OpenSpec.upto courtKnownSpec)) courtKnownUptoCard
end Rows
end Go.Proofs.YtmlogniaahnamaaDoor
