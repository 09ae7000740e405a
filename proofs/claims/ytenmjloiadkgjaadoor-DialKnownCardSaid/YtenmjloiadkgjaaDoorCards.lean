/-
  DERIVED. GIVEN WITH THE SEED: THE CARDS: each row of YtenmjloiadkgjaaDoorRows.lean that lists a variable, with what it lists TIED to the program's text (the seventh form; the later family's looks); each row that meets fmt, with fmt's text TOLD by the authors' own Lean function (tested against real Go, not proved from fmt's source: count such statements apart). THE CARD IS WHAT COUNTS. Prove the row's statement (the work); the ties are given (YtenmjloiadkgjaaDoorTie.lean); close each card by the builder's one call (the guide's Derived/Test/ToyasCard.lean, 'card_holds'). Laid BY PROGRAM, IN A SANDBOX (cutbox-door.mjs). By AI agents, Wed Nov 11 2026. No macro, syntax, notation, axiom, sorry.
-/
import Derived.Test.YtenmjloiadkgjaaDoorRows
import GoSem.ClaimSeven
namespace Go.Proofs.YtenmjloiadkgjaaDoor
namespace Rows

/-- THE TIED CARD OF 'remontoirlaw01.DialReads'. -/
def dialReadsCard : Claim7 := { stood := { row := dialReadsRow, standIns := [], harness := (true, "a5edf5e1637c99f748b980d70c75e4f4cc6dce32d3f873c538a1626054c31f6d"), looks := false }, kinds := [], alts := [], laidByText := true, laidKinds := [.funcs], laidTests := true, laidLooks := .later }
def DialReadsCardSaid : Prop := Claim7.holds Tryd.pinned (.plain (OpenSpec.ofChange dialReadsSpec)) dialReadsCard

/-- THE TIED CARD OF 'remontoirlaw01.DialAparts'. -/
def dialApartsCard : Claim7 := { stood := { row := dialApartsRow, standIns := [], harness := (true, "a5edf5e1637c99f748b980d70c75e4f4cc6dce32d3f873c538a1626054c31f6d"), looks := false }, kinds := [], alts := [], laidByText := true, laidKinds := [.funcs], laidTests := true, laidLooks := .later }
def DialApartsCardSaid : Prop := Claim7.holds Tryd.pinned (.plain (OpenSpec.ofChange dialApartsSpec)) dialApartsCard

/-- THE TIED CARD OF 'remontoirlaw01.DialTowns'. -/
def dialTownsCard : Claim7 := { stood := { row := dialTownsRow, standIns := [], harness := (true, "a5edf5e1637c99f748b980d70c75e4f4cc6dce32d3f873c538a1626054c31f6d"), looks := false }, kinds := [], alts := [], laidByText := true, laidKinds := [.funcs], laidTests := true, laidLooks := .later }
def DialTownsCardSaid : Prop := Claim7.holds Tryd.pinned (.plain (OpenSpec.ofChange dialTownsSpec)) dialTownsCard

/-- THE TIED CARD OF 'remontoirlaw01.DialTwices'. -/
def dialTwicesCard : Claim7 := { stood := { row := dialTwicesRow, standIns := [], harness := (true, "a5edf5e1637c99f748b980d70c75e4f4cc6dce32d3f873c538a1626054c31f6d"), looks := false }, kinds := [], alts := [], laidByText := true, laidKinds := [.funcs], laidTests := true, laidLooks := .later }
def DialTwicesCardSaid : Prop := Claim7.holds Tryd.pinned (.plain (OpenSpec.ofChange dialTwicesSpec)) dialTwicesCard

/-- THE TIED CARD OF 'remontoirlaw01.DialInverse'. -/
def dialInverseCard : Claim7 := { stood := { row := dialInverseRow, standIns := [], harness := (true, "a5edf5e1637c99f748b980d70c75e4f4cc6dce32d3f873c538a1626054c31f6d"), looks := false }, kinds := [], alts := [], laidByText := true, laidKinds := [.funcs], laidTests := true, laidLooks := .later }
def DialInverseCardSaid : Prop := Claim7.holds Tryd.pinned (.plain (OpenSpec.ofChange dialInverseSpec)) dialInverseCard

/-- THE TIED CARD OF 'remontoirlaw01.DialDays'. -/
def dialDaysCard : Claim7 := { stood := { row := dialDaysRow, standIns := [], harness := (true, "a5edf5e1637c99f748b980d70c75e4f4cc6dce32d3f873c538a1626054c31f6d"), looks := false }, kinds := [], alts := [], laidByText := true, laidKinds := [.funcs], laidTests := true, laidLooks := .later }
def DialDaysCardSaid : Prop := Claim7.holds Tryd.pinned (.plain (OpenSpec.ofChange dialDaysSpec)) dialDaysCard

/-- THE TIED CARD OF 'remontoirlaw01.DialDecreed'. -/
def dialDecreedCard : Claim7 := { stood := { row := dialDecreedRow, standIns := [], harness := (true, "a5edf5e1637c99f748b980d70c75e4f4cc6dce32d3f873c538a1626054c31f6d"), looks := false }, kinds := [], alts := [], laidByText := true, laidKinds := [.funcs], laidTests := true, laidLooks := .later }
def DialDecreedCardSaid : Prop := Claim7.holds Tryd.pinned (.plain (OpenSpec.ofChange dialDecreedSpec)) dialDecreedCard

/-- THE TIED CARD OF 'remontoirlaw01.DialApart'. -/
def dialApartCard : Claim7 := { stood := { row := dialApartRow, standIns := [], harness := (true, "a5edf5e1637c99f748b980d70c75e4f4cc6dce32d3f873c538a1626054c31f6d"), looks := false }, kinds := [], alts := [], laidByText := true, laidKinds := [.funcs], laidTests := true, laidLooks := .later }
def DialApartCardSaid : Prop := Claim7.holds Tryd.pinned (.plain (OpenSpec.ofChange dialApartSpec)) dialApartCard

/-- THE TIED CARD OF 'remontoirlaw01.DialNext'. -/
def dialNextCard : Claim7 := { stood := { row := dialNextRow, standIns := [], harness := (true, "a5edf5e1637c99f748b980d70c75e4f4cc6dce32d3f873c538a1626054c31f6d"), looks := false }, kinds := [], alts := [], laidByText := true, laidKinds := [.funcs], laidTests := true, laidLooks := .later }
def DialNextCardSaid : Prop := Claim7.holds Tryd.pinned (.plain (OpenSpec.ofChange dialNextSpec)) dialNextCard

/-- THE TIED CARD OF 'remontoirlaw01.DialLocal'. -/
def dialLocalCard : Claim7 := { stood := { row := dialLocalRow, standIns := [], harness := (true, "a5edf5e1637c99f748b980d70c75e4f4cc6dce32d3f873c538a1626054c31f6d"), looks := false }, kinds := [], alts := [], laidByText := true, laidKinds := [.funcs], laidTests := true, laidLooks := .later }
def DialLocalCardSaid : Prop := Claim7.holds Tryd.pinned (.plain (OpenSpec.ofChange dialLocalSpec)) dialLocalCard

/-- THE TIED CARD OF 'remontoirlaw01.DialOnce'. -/
def dialOnceCard : Claim7 := { stood := { row := dialOnceRow, standIns := [], harness := (true, "a5edf5e1637c99f748b980d70c75e4f4cc6dce32d3f873c538a1626054c31f6d"), looks := false }, kinds := [], alts := [], laidByText := true, laidKinds := [.funcs], laidTests := true, laidLooks := .later }
def DialOnceCardSaid : Prop := Claim7.holds Tryd.pinned (.plain (OpenSpec.ofChange dialOnceSpec)) dialOnceCard

/-- THE TIED CARD OF 'remontoirlaw01.DialTwice'. -/
def dialTwiceCard : Claim7 := { stood := { row := dialTwiceRow, standIns := [], harness := (true, "a5edf5e1637c99f748b980d70c75e4f4cc6dce32d3f873c538a1626054c31f6d"), looks := false }, kinds := [], alts := [], laidByText := true, laidKinds := [.funcs], laidTests := true, laidLooks := .later }
def DialTwiceCardSaid : Prop := Claim7.holds Tryd.pinned (.plain (OpenSpec.ofChange dialTwiceSpec)) dialTwiceCard

/-- THE TIED CARD OF 'remontoirlaw01.DialKnown'. -/
def dialKnownCard : Claim7 := { stood := { row := dialKnownRow, standIns := [], harness := (true, "a5edf5e1637c99f748b980d70c75e4f4cc6dce32d3f873c538a1626054c31f6d"), looks := false }, kinds := [], alts := [], laidByText := true, laidKinds := [.funcs], laidTests := true, laidLooks := .later }
def DialKnownCardSaid : Prop := Claim7.holds Tryd.pinned (.plain (OpenSpec.ofChange dialKnownSpec)) dialKnownCard

/-- THE SECOND FORM's CARD OF 'remontoirlaw01.DialReads'. -/
def dialReadsUptoCard : Claim7 := { stood := { row := dialReadsUptoRow, standIns := [], harness := (true, "a5edf5e1637c99f748b980d70c75e4f4cc6dce32d3f873c538a1626054c31f6d"), looks := false }, kinds := [], alts := [], laidByText := true, laidKinds := [.funcs], laidTests := true, laidLooks := .later }
def DialReadsUptoCardSaid : Prop := Claim7.holds Tryd.pinned (.plain (OpenSpec.upto dialReadsSpec)) dialReadsUptoCard

/-- THE SECOND FORM's CARD OF 'remontoirlaw01.DialAparts'. -/
def dialApartsUptoCard : Claim7 := { stood := { row := dialApartsUptoRow, standIns := [], harness := (true, "a5edf5e1637c99f748b980d70c75e4f4cc6dce32d3f873c538a1626054c31f6d"), looks := false }, kinds := [], alts := [], laidByText := true, laidKinds := [.funcs], laidTests := true, laidLooks := .later }
def DialApartsUptoCardSaid : Prop := Claim7.holds Tryd.pinned (.plain (OpenSpec.upto dialApartsSpec)) dialApartsUptoCard

/-- THE SECOND FORM's CARD OF 'remontoirlaw01.DialTowns'. -/
def dialTownsUptoCard : Claim7 := { stood := { row := dialTownsUptoRow, standIns := [], harness := (true, "a5edf5e1637c99f748b980d70c75e4f4cc6dce32d3f873c538a1626054c31f6d"), looks := false }, kinds := [], alts := [], laidByText := true, laidKinds := [.funcs], laidTests := true, laidLooks := .later }
def DialTownsUptoCardSaid : Prop := Claim7.holds Tryd.pinned (.plain (OpenSpec.upto dialTownsSpec)) dialTownsUptoCard

/-- THE SECOND FORM's CARD OF 'remontoirlaw01.DialTwices'. -/
def dialTwicesUptoCard : Claim7 := { stood := { row := dialTwicesUptoRow, standIns := [], harness := (true, "a5edf5e1637c99f748b980d70c75e4f4cc6dce32d3f873c538a1626054c31f6d"), looks := false }, kinds := [], alts := [], laidByText := true, laidKinds := [.funcs], laidTests := true, laidLooks := .later }
def DialTwicesUptoCardSaid : Prop := Claim7.holds Tryd.pinned (.plain (OpenSpec.upto dialTwicesSpec)) dialTwicesUptoCard

/-- THE SECOND FORM's CARD OF 'remontoirlaw01.DialInverse'. -/
def dialInverseUptoCard : Claim7 := { stood := { row := dialInverseUptoRow, standIns := [], harness := (true, "a5edf5e1637c99f748b980d70c75e4f4cc6dce32d3f873c538a1626054c31f6d"), looks := false }, kinds := [], alts := [], laidByText := true, laidKinds := [.funcs], laidTests := true, laidLooks := .later }
def DialInverseUptoCardSaid : Prop := Claim7.holds Tryd.pinned (.plain (OpenSpec.upto dialInverseSpec)) dialInverseUptoCard

/-- THE SECOND FORM's CARD OF 'remontoirlaw01.DialDays'. -/
def dialDaysUptoCard : Claim7 := { stood := { row := dialDaysUptoRow, standIns := [], harness := (true, "a5edf5e1637c99f748b980d70c75e4f4cc6dce32d3f873c538a1626054c31f6d"), looks := false }, kinds := [], alts := [], laidByText := true, laidKinds := [.funcs], laidTests := true, laidLooks := .later }
def DialDaysUptoCardSaid : Prop := Claim7.holds Tryd.pinned (.plain (OpenSpec.upto dialDaysSpec)) dialDaysUptoCard

/-- THE SECOND FORM's CARD OF 'remontoirlaw01.DialDecreed'. -/
def dialDecreedUptoCard : Claim7 := { stood := { row := dialDecreedUptoRow, standIns := [], harness := (true, "a5edf5e1637c99f748b980d70c75e4f4cc6dce32d3f873c538a1626054c31f6d"), looks := false }, kinds := [], alts := [], laidByText := true, laidKinds := [.funcs], laidTests := true, laidLooks := .later }
def DialDecreedUptoCardSaid : Prop := Claim7.holds Tryd.pinned (.plain (OpenSpec.upto dialDecreedSpec)) dialDecreedUptoCard

/-- THE SECOND FORM's CARD OF 'remontoirlaw01.DialApart'. -/
def dialApartUptoCard : Claim7 := { stood := { row := dialApartUptoRow, standIns := [], harness := (true, "a5edf5e1637c99f748b980d70c75e4f4cc6dce32d3f873c538a1626054c31f6d"), looks := false }, kinds := [], alts := [], laidByText := true, laidKinds := [.funcs], laidTests := true, laidLooks := .later }
def DialApartUptoCardSaid : Prop := Claim7.holds Tryd.pinned (.plain (OpenSpec.upto dialApartSpec)) dialApartUptoCard

/-- THE SECOND FORM's CARD OF 'remontoirlaw01.DialNext'. -/
def dialNextUptoCard : Claim7 := { stood := { row := dialNextUptoRow, standIns := [], harness := (true, "a5edf5e1637c99f748b980d70c75e4f4cc6dce32d3f873c538a1626054c31f6d"), looks := false }, kinds := [], alts := [], laidByText := true, laidKinds := [.funcs], laidTests := true, laidLooks := .later }
def DialNextUptoCardSaid : Prop := Claim7.holds Tryd.pinned (.plain (OpenSpec.upto dialNextSpec)) dialNextUptoCard

/-- THE SECOND FORM's CARD OF 'remontoirlaw01.DialLocal'. -/
def dialLocalUptoCard : Claim7 := { stood := { row := dialLocalUptoRow, standIns := [], harness := (true, "a5edf5e1637c99f748b980d70c75e4f4cc6dce32d3f873c538a1626054c31f6d"), looks := false }, kinds := [], alts := [], laidByText := true, laidKinds := [.funcs], laidTests := true, laidLooks := .later }
def DialLocalUptoCardSaid : Prop := Claim7.holds Tryd.pinned (.plain (OpenSpec.upto dialLocalSpec)) dialLocalUptoCard

/-- THE SECOND FORM's CARD OF 'remontoirlaw01.DialOnce'. -/
def dialOnceUptoCard : Claim7 := { stood := { row := dialOnceUptoRow, standIns := [], harness := (true, "a5edf5e1637c99f748b980d70c75e4f4cc6dce32d3f873c538a1626054c31f6d"), looks := false }, kinds := [], alts := [], laidByText := true, laidKinds := [.funcs], laidTests := true, laidLooks := .later }
def DialOnceUptoCardSaid : Prop := Claim7.holds Tryd.pinned (.plain (OpenSpec.upto dialOnceSpec)) dialOnceUptoCard

/-- THE SECOND FORM's CARD OF 'remontoirlaw01.DialTwice'. -/
def dialTwiceUptoCard : Claim7 := { stood := { row := dialTwiceUptoRow, standIns := [], harness := (true, "a5edf5e1637c99f748b980d70c75e4f4cc6dce32d3f873c538a1626054c31f6d"), looks := false }, kinds := [], alts := [], laidByText := true, laidKinds := [.funcs], laidTests := true, laidLooks := .later }
def DialTwiceUptoCardSaid : Prop := Claim7.holds Tryd.pinned (.plain (OpenSpec.upto dialTwiceSpec)) dialTwiceUptoCard

/-- THE SECOND FORM's CARD OF 'remontoirlaw01.DialKnown'. -/
def dialKnownUptoCard : Claim7 := { stood := { row := dialKnownUptoRow, standIns := [], harness := (true, "a5edf5e1637c99f748b980d70c75e4f4cc6dce32d3f873c538a1626054c31f6d"), looks := false }, kinds := [], alts := [], laidByText := true, laidKinds := [.funcs], laidTests := true, laidLooks := .later }
def DialKnownUptoCardSaid : Prop := Claim7.holds Tryd.pinned (.plain (OpenSpec.upto dialKnownSpec)) dialKnownUptoCard
end Rows
end Go.Proofs.YtenmjloiadkgjaaDoor
