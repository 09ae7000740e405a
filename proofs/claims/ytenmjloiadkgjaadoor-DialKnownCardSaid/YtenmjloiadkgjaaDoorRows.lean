/-
  NARROWER THAN 'FOR EVERY INPUT', by the rows' own cells (each row's printed sentence says how): DialReads: laid · DialAparts: laid · DialTowns: laid · DialTwices: laid · DialInverse: laid · DialDays: laid · DialDecreed: laid · DialApart: laid · DialNext: laid · DialLocal: laid · DialOnce: laid · DialTwice: laid · DialKnown: laid.
  DERIVED. THE GIVEN ROWS OF THIS SEAT. 13 by the template 'for every input the law returns true; each argument reads behind the call as it read before'; 0 by the template 'total and deterministic' (their statements: YtenmjloiadkgjaaDoorTotals.lean).
  GIVEN WITH THE SEED: the statements are not yours to turn. If you find one false, say at which input.
  Laid BY PROGRAM, IN A SANDBOX (cutbox-rows.mjs): the forced cells as the released guide's own fill.sh prints them over the translation b5d9320022294b27… (all of the seat's roots in one cut). By AI agents, Wed Nov 11 2026. No macro, syntax, notation, axiom, sorry.
-/
import Derived.Test.YtenmjloiadkgjaaDoorChecked
import GoSem.Claim
import GoSem.ClaimJoined
import GoSem.ClaimMapViews
import Derived.JoinedTies
import Derived.KernelRfl
namespace Go.Proofs.YtenmjloiadkgjaaDoor
/- THE CELL 'sum', in the pinned program and in every row, IS THE sha256 OF THE DUMP (.gsa) THAT YtenmjloiadkgjaaDoorProg.lean LOADS. Nothing in Lean hashes anything: it is a label: what it is worth is what the hold of that sum in a sandbox is worth. -/
noncomputable def Tryd.pinned : Pinned := { name := "ytenmjloiadkgjaadoor", sum := "b5d9320022294b27e664ab8ec638b4d90cb4afe8437861dabfa1785bb9a06d35", checked := Tryd.checked }
namespace Rows
def none {H : Type} : Left H := { results := [], args := [] }

/- WHAT THE LISTED PACKAGE-LEVEL VARIABLES READ AS WHEN THE CALL BEGINS. Each datum BY PROGRAM (the guide's laid-datum.mjs) off the statement by which the dump's own 'gosem.cut.vars' lays the variable. In a bare row this is a premise. The card (YtenmjloiadkgjaaDoorCards.lean) ties it to the program's text. -/
def laid_remontoir_dial_parts {H : Type} : DataW H := .iface "func table" (.agg [.iface "func" (.lit (.string [40, 114, 101, 109, 111, 110, 116, 111, 105, 114, 47, 100, 105, 97, 108, 46, 99, 97, 108, 101, 110, 100, 97, 114, 41, 46, 104, 111, 117, 114])), .iface "func" (.lit (.string [40, 114, 101, 109, 111, 110, 116, 111, 105, 114, 47, 100, 105, 97, 108, 46, 99, 97, 108, 101, 110, 100, 97, 114, 41, 46, 109, 105, 110, 117, 116, 101]))])

/-- 'remontoirlaw01.DialReads': WHATEVER THE INPUT: true; the input reads as it did. -/
def dialReadsSpec : ChangeSpec := { name := "dialReads", fn := fun _ => fun
  | [d1, d2, d3] => { results := [.lit (.bool true)], args := [d1, d2, d3] }
  | _ => none }
def dialReadsRow : OpenClaim := { program := "ytenmjloiadkgjaadoor", sum := "b5d9320022294b27e664ab8ec638b4d90cb4afe8437861dabfa1785bb9a06d35", func := "remontoir/remontoirlaw01.DialReads", spec := "dialReads", unfollowed := true, recurses := true, named := ["remontoir/dial.parts"], plainKeys := false, apart := false, laid := [("remontoir/dial.parts", laid_remontoir_dial_parts)] }
def DialReadsSaid : Prop := dialReadsRow.holds Tryd.pinned (OpenSpec.ofChange dialReadsSpec)

/-- ITS FALSE NEIGHBOUR: 'it returns false'. Refute it at one input. -/
def dialReadsWrong : ChangeSpec := { name := "dialReads", fn := fun _ => fun
  | [d1, d2, d3] => { results := [.lit (.bool false)], args := [d1, d2, d3] }
  | _ => none }
def DialReadsWrongFalsely : Prop := dialReadsRow.holds Tryd.pinned (OpenSpec.ofChange dialReadsWrong)

/-- 'remontoirlaw01.DialAparts': WHATEVER THE INPUT: true; the input reads as it did. -/
def dialApartsSpec : ChangeSpec := { name := "dialAparts", fn := fun _ => fun
  | [d1, d2, d3] => { results := [.lit (.bool true)], args := [d1, d2, d3] }
  | _ => none }
def dialApartsRow : OpenClaim := { program := "ytenmjloiadkgjaadoor", sum := "b5d9320022294b27e664ab8ec638b4d90cb4afe8437861dabfa1785bb9a06d35", func := "remontoir/remontoirlaw01.DialAparts", spec := "dialAparts", unfollowed := true, recurses := true, named := ["remontoir/dial.parts"], plainKeys := false, apart := false, laid := [("remontoir/dial.parts", laid_remontoir_dial_parts)] }
def DialApartsSaid : Prop := dialApartsRow.holds Tryd.pinned (OpenSpec.ofChange dialApartsSpec)

/-- ITS FALSE NEIGHBOUR: 'it returns false'. Refute it at one input. -/
def dialApartsWrong : ChangeSpec := { name := "dialAparts", fn := fun _ => fun
  | [d1, d2, d3] => { results := [.lit (.bool false)], args := [d1, d2, d3] }
  | _ => none }
def DialApartsWrongFalsely : Prop := dialApartsRow.holds Tryd.pinned (OpenSpec.ofChange dialApartsWrong)

/-- 'remontoirlaw01.DialTowns': WHATEVER THE INPUT: true; the input reads as it did. -/
def dialTownsSpec : ChangeSpec := { name := "dialTowns", fn := fun _ => fun
  | [d1, d2, d3] => { results := [.lit (.bool true)], args := [d1, d2, d3] }
  | _ => none }
def dialTownsRow : OpenClaim := { program := "ytenmjloiadkgjaadoor", sum := "b5d9320022294b27e664ab8ec638b4d90cb4afe8437861dabfa1785bb9a06d35", func := "remontoir/remontoirlaw01.DialTowns", spec := "dialTowns", unfollowed := true, recurses := true, named := ["remontoir/dial.parts"], plainKeys := false, apart := false, laid := [("remontoir/dial.parts", laid_remontoir_dial_parts)] }
def DialTownsSaid : Prop := dialTownsRow.holds Tryd.pinned (OpenSpec.ofChange dialTownsSpec)

/-- ITS FALSE NEIGHBOUR: 'it returns false'. Refute it at one input. -/
def dialTownsWrong : ChangeSpec := { name := "dialTowns", fn := fun _ => fun
  | [d1, d2, d3] => { results := [.lit (.bool false)], args := [d1, d2, d3] }
  | _ => none }
def DialTownsWrongFalsely : Prop := dialTownsRow.holds Tryd.pinned (OpenSpec.ofChange dialTownsWrong)

/-- 'remontoirlaw01.DialTwices': WHATEVER THE INPUT: true; the input reads as it did. -/
def dialTwicesSpec : ChangeSpec := { name := "dialTwices", fn := fun _ => fun
  | [d] => { results := [.lit (.bool true)], args := [d] }
  | _ => none }
def dialTwicesRow : OpenClaim := { program := "ytenmjloiadkgjaadoor", sum := "b5d9320022294b27e664ab8ec638b4d90cb4afe8437861dabfa1785bb9a06d35", func := "remontoir/remontoirlaw01.DialTwices", spec := "dialTwices", unfollowed := true, recurses := true, named := ["remontoir/dial.parts"], plainKeys := false, apart := false, laid := [("remontoir/dial.parts", laid_remontoir_dial_parts)] }
def DialTwicesSaid : Prop := dialTwicesRow.holds Tryd.pinned (OpenSpec.ofChange dialTwicesSpec)

/-- ITS FALSE NEIGHBOUR: 'it returns false'. Refute it at one input. -/
def dialTwicesWrong : ChangeSpec := { name := "dialTwices", fn := fun _ => fun
  | [d] => { results := [.lit (.bool false)], args := [d] }
  | _ => none }
def DialTwicesWrongFalsely : Prop := dialTwicesRow.holds Tryd.pinned (OpenSpec.ofChange dialTwicesWrong)

/-- 'remontoirlaw01.DialInverse': WHATEVER THE INPUT: true; the input reads as it did. -/
def dialInverseSpec : ChangeSpec := { name := "dialInverse", fn := fun _ => fun
  | [d1, d2] => { results := [.lit (.bool true)], args := [d1, d2] }
  | _ => none }
def dialInverseRow : OpenClaim := { program := "ytenmjloiadkgjaadoor", sum := "b5d9320022294b27e664ab8ec638b4d90cb4afe8437861dabfa1785bb9a06d35", func := "remontoir/remontoirlaw01.DialInverse", spec := "dialInverse", unfollowed := true, recurses := true, named := ["remontoir/dial.parts"], plainKeys := false, apart := false, laid := [("remontoir/dial.parts", laid_remontoir_dial_parts)] }
def DialInverseSaid : Prop := dialInverseRow.holds Tryd.pinned (OpenSpec.ofChange dialInverseSpec)

/-- ITS FALSE NEIGHBOUR: 'it returns false'. Refute it at one input. -/
def dialInverseWrong : ChangeSpec := { name := "dialInverse", fn := fun _ => fun
  | [d1, d2] => { results := [.lit (.bool false)], args := [d1, d2] }
  | _ => none }
def DialInverseWrongFalsely : Prop := dialInverseRow.holds Tryd.pinned (OpenSpec.ofChange dialInverseWrong)

/-- 'remontoirlaw01.DialDays': WHATEVER THE INPUT: true; the input reads as it did. -/
def dialDaysSpec : ChangeSpec := { name := "dialDays", fn := fun _ => fun
  | [d1, d2] => { results := [.lit (.bool true)], args := [d1, d2] }
  | _ => none }
def dialDaysRow : OpenClaim := { program := "ytenmjloiadkgjaadoor", sum := "b5d9320022294b27e664ab8ec638b4d90cb4afe8437861dabfa1785bb9a06d35", func := "remontoir/remontoirlaw01.DialDays", spec := "dialDays", unfollowed := true, recurses := true, named := ["remontoir/dial.parts"], plainKeys := false, apart := false, laid := [("remontoir/dial.parts", laid_remontoir_dial_parts)] }
def DialDaysSaid : Prop := dialDaysRow.holds Tryd.pinned (OpenSpec.ofChange dialDaysSpec)

/-- ITS FALSE NEIGHBOUR: 'it returns false'. Refute it at one input. -/
def dialDaysWrong : ChangeSpec := { name := "dialDays", fn := fun _ => fun
  | [d1, d2] => { results := [.lit (.bool false)], args := [d1, d2] }
  | _ => none }
def DialDaysWrongFalsely : Prop := dialDaysRow.holds Tryd.pinned (OpenSpec.ofChange dialDaysWrong)

/-- 'remontoirlaw01.DialDecreed': WHATEVER THE INPUT: true; the input reads as it did. -/
def dialDecreedSpec : ChangeSpec := { name := "dialDecreed", fn := fun _ => fun
  | [d1, d2] => { results := [.lit (.bool true)], args := [d1, d2] }
  | _ => none }
def dialDecreedRow : OpenClaim := { program := "ytenmjloiadkgjaadoor", sum := "b5d9320022294b27e664ab8ec638b4d90cb4afe8437861dabfa1785bb9a06d35", func := "remontoir/remontoirlaw01.DialDecreed", spec := "dialDecreed", unfollowed := true, recurses := true, named := ["remontoir/dial.parts"], plainKeys := false, apart := false, laid := [("remontoir/dial.parts", laid_remontoir_dial_parts)] }
def DialDecreedSaid : Prop := dialDecreedRow.holds Tryd.pinned (OpenSpec.ofChange dialDecreedSpec)

/-- ITS FALSE NEIGHBOUR: 'it returns false'. Refute it at one input. -/
def dialDecreedWrong : ChangeSpec := { name := "dialDecreed", fn := fun _ => fun
  | [d1, d2] => { results := [.lit (.bool false)], args := [d1, d2] }
  | _ => none }
def DialDecreedWrongFalsely : Prop := dialDecreedRow.holds Tryd.pinned (OpenSpec.ofChange dialDecreedWrong)

/-- 'remontoirlaw01.DialApart': WHATEVER THE INPUT: true; the input reads as it did. -/
def dialApartSpec : ChangeSpec := { name := "dialApart", fn := fun _ => fun
  | [d1, d2] => { results := [.lit (.bool true)], args := [d1, d2] }
  | _ => none }
def dialApartRow : OpenClaim := { program := "ytenmjloiadkgjaadoor", sum := "b5d9320022294b27e664ab8ec638b4d90cb4afe8437861dabfa1785bb9a06d35", func := "remontoir/remontoirlaw01.DialApart", spec := "dialApart", unfollowed := true, recurses := true, named := ["remontoir/dial.parts"], plainKeys := false, apart := false, laid := [("remontoir/dial.parts", laid_remontoir_dial_parts)] }
def DialApartSaid : Prop := dialApartRow.holds Tryd.pinned (OpenSpec.ofChange dialApartSpec)

/-- ITS FALSE NEIGHBOUR: 'it returns false'. Refute it at one input. -/
def dialApartWrong : ChangeSpec := { name := "dialApart", fn := fun _ => fun
  | [d1, d2] => { results := [.lit (.bool false)], args := [d1, d2] }
  | _ => none }
def DialApartWrongFalsely : Prop := dialApartRow.holds Tryd.pinned (OpenSpec.ofChange dialApartWrong)

/-- 'remontoirlaw01.DialNext': WHATEVER THE INPUT: true; the input reads as it did. -/
def dialNextSpec : ChangeSpec := { name := "dialNext", fn := fun _ => fun
  | [d1, d2] => { results := [.lit (.bool true)], args := [d1, d2] }
  | _ => none }
def dialNextRow : OpenClaim := { program := "ytenmjloiadkgjaadoor", sum := "b5d9320022294b27e664ab8ec638b4d90cb4afe8437861dabfa1785bb9a06d35", func := "remontoir/remontoirlaw01.DialNext", spec := "dialNext", unfollowed := true, recurses := true, named := ["remontoir/dial.parts"], plainKeys := false, apart := false, laid := [("remontoir/dial.parts", laid_remontoir_dial_parts)] }
def DialNextSaid : Prop := dialNextRow.holds Tryd.pinned (OpenSpec.ofChange dialNextSpec)

/-- ITS FALSE NEIGHBOUR: 'it returns false'. Refute it at one input. -/
def dialNextWrong : ChangeSpec := { name := "dialNext", fn := fun _ => fun
  | [d1, d2] => { results := [.lit (.bool false)], args := [d1, d2] }
  | _ => none }
def DialNextWrongFalsely : Prop := dialNextRow.holds Tryd.pinned (OpenSpec.ofChange dialNextWrong)

/-- 'remontoirlaw01.DialLocal': WHATEVER THE INPUT: true; the input reads as it did. -/
def dialLocalSpec : ChangeSpec := { name := "dialLocal", fn := fun _ => fun
  | [d1, d2] => { results := [.lit (.bool true)], args := [d1, d2] }
  | _ => none }
def dialLocalRow : OpenClaim := { program := "ytenmjloiadkgjaadoor", sum := "b5d9320022294b27e664ab8ec638b4d90cb4afe8437861dabfa1785bb9a06d35", func := "remontoir/remontoirlaw01.DialLocal", spec := "dialLocal", unfollowed := true, recurses := true, named := ["remontoir/dial.parts"], plainKeys := false, apart := false, laid := [("remontoir/dial.parts", laid_remontoir_dial_parts)] }
def DialLocalSaid : Prop := dialLocalRow.holds Tryd.pinned (OpenSpec.ofChange dialLocalSpec)

/-- ITS FALSE NEIGHBOUR: 'it returns false'. Refute it at one input. -/
def dialLocalWrong : ChangeSpec := { name := "dialLocal", fn := fun _ => fun
  | [d1, d2] => { results := [.lit (.bool false)], args := [d1, d2] }
  | _ => none }
def DialLocalWrongFalsely : Prop := dialLocalRow.holds Tryd.pinned (OpenSpec.ofChange dialLocalWrong)

/-- 'remontoirlaw01.DialOnce': WHATEVER THE INPUT: true; the input reads as it did. -/
def dialOnceSpec : ChangeSpec := { name := "dialOnce", fn := fun _ => fun
  | [d1, d2, d3] => { results := [.lit (.bool true)], args := [d1, d2, d3] }
  | _ => none }
def dialOnceRow : OpenClaim := { program := "ytenmjloiadkgjaadoor", sum := "b5d9320022294b27e664ab8ec638b4d90cb4afe8437861dabfa1785bb9a06d35", func := "remontoir/remontoirlaw01.DialOnce", spec := "dialOnce", unfollowed := true, recurses := true, named := ["remontoir/dial.parts"], plainKeys := false, apart := false, laid := [("remontoir/dial.parts", laid_remontoir_dial_parts)] }
def DialOnceSaid : Prop := dialOnceRow.holds Tryd.pinned (OpenSpec.ofChange dialOnceSpec)

/-- ITS FALSE NEIGHBOUR: 'it returns false'. Refute it at one input. -/
def dialOnceWrong : ChangeSpec := { name := "dialOnce", fn := fun _ => fun
  | [d1, d2, d3] => { results := [.lit (.bool false)], args := [d1, d2, d3] }
  | _ => none }
def DialOnceWrongFalsely : Prop := dialOnceRow.holds Tryd.pinned (OpenSpec.ofChange dialOnceWrong)

/-- 'remontoirlaw01.DialTwice': WHATEVER THE INPUT: true; the input reads as it did. -/
def dialTwiceSpec : ChangeSpec := { name := "dialTwice", fn := fun _ => fun
  | [d] => { results := [.lit (.bool true)], args := [d] }
  | _ => none }
def dialTwiceRow : OpenClaim := { program := "ytenmjloiadkgjaadoor", sum := "b5d9320022294b27e664ab8ec638b4d90cb4afe8437861dabfa1785bb9a06d35", func := "remontoir/remontoirlaw01.DialTwice", spec := "dialTwice", unfollowed := true, recurses := true, named := ["remontoir/dial.parts"], plainKeys := false, apart := false, laid := [("remontoir/dial.parts", laid_remontoir_dial_parts)] }
def DialTwiceSaid : Prop := dialTwiceRow.holds Tryd.pinned (OpenSpec.ofChange dialTwiceSpec)

/-- ITS FALSE NEIGHBOUR: 'it returns false'. Refute it at one input. -/
def dialTwiceWrong : ChangeSpec := { name := "dialTwice", fn := fun _ => fun
  | [d] => { results := [.lit (.bool false)], args := [d] }
  | _ => none }
def DialTwiceWrongFalsely : Prop := dialTwiceRow.holds Tryd.pinned (OpenSpec.ofChange dialTwiceWrong)

/-- 'remontoirlaw01.DialKnown': WHATEVER THE INPUT: true; the input reads as it did. -/
def dialKnownSpec : ChangeSpec := { name := "dialKnown", fn := fun _ => fun
  | [] => { results := [.lit (.bool true)], args := [] }
  | _ => none }
def dialKnownRow : OpenClaim := { program := "ytenmjloiadkgjaadoor", sum := "b5d9320022294b27e664ab8ec638b4d90cb4afe8437861dabfa1785bb9a06d35", func := "remontoir/remontoirlaw01.DialKnown", spec := "dialKnown", unfollowed := true, recurses := true, named := ["remontoir/dial.parts"], plainKeys := false, apart := false, laid := [("remontoir/dial.parts", laid_remontoir_dial_parts)] }
def DialKnownSaid : Prop := dialKnownRow.holds Tryd.pinned (OpenSpec.ofChange dialKnownSpec)

/-- ITS FALSE NEIGHBOUR: 'it returns false'. Refute it at one input. -/
def dialKnownWrong : ChangeSpec := { name := "dialKnown", fn := fun _ => fun
  | [] => { results := [.lit (.bool false)], args := [] }
  | _ => none }
def DialKnownWrongFalsely : Prop := dialKnownRow.holds Tryd.pinned (OpenSpec.ofChange dialKnownWrong)

/- THE SECOND FORM. 'bulk': how many values and letters a reading holds, each counted each time it is reached (what is shared counts as often as it is met; a slice's spare places count too). A statement '..UptoSaid' is the law's where the arguments, and the package variables that the reading takes, are together of bulk at most 1048576: NARROWER than '..Said'. Prove '..Said' where nothing that the law and all that it calls make is longer than what came in: it says more and counts as full. Else prove '..UptoSaid'. A law counts once. -/
mutual
def uptoBulk {H : Type} : DataW H → Nat
  | .lit (.string bytes) => bytes.length + 1
  | .lit _ => 1
  | .nil => 1
  | .ptr d => uptoBulk d + 1
  | .slice elems spare => uptoBulkAll elems + uptoBulkAll spare + 1
  | .agg parts => uptoBulkAll parts + 1
  | .iface _ d => uptoBulk d + 1
  | .map entries => uptoBulkEntries entries + 1
  | .held _ => 1
def uptoBulkAll {H : Type} : List (DataW H) → Nat
  | [] => 0
  | d :: r => uptoBulk d + uptoBulkAll r
def uptoBulkEntries {H : Type} : List (Lit × DataW H) → Nat
  | [] => 0
  | x :: r => uptoBulkEntry x + uptoBulkEntries r
def uptoBulkEntry {H : Type} : Lit × DataW H → Nat
  | (.string bytes, d) => bytes.length + uptoBulk d + 1
  | (_, d) => uptoBulk d + 1
 end
def uptoSmall : (H : Type) → List (DataW H) → Bool := fun _ ds => decide (uptoBulkAll ds ≤ 1048576)
def OpenSpec.upto (s : _root_.Go.ChangeSpec) : _root_.Go.OpenSpec := { _root_.Go.OpenSpec.ofChange s with cond := some uptoSmall }

/-- 'remontoirlaw01.DialReads', WHERE WHAT IT READS IS OF BULK AT MOST 1048576: true; the input reads as it did. -/
def dialReadsUptoRow : OpenClaim := { program := "ytenmjloiadkgjaadoor", sum := "b5d9320022294b27e664ab8ec638b4d90cb4afe8437861dabfa1785bb9a06d35", func := "remontoir/remontoirlaw01.DialReads", spec := "dialReads", unfollowed := true, recurses := true, named := ["remontoir/dial.parts"], plainKeys := false, apart := false, laid := [("remontoir/dial.parts", laid_remontoir_dial_parts)], narrowed := true }
def DialReadsUptoSaid : Prop := dialReadsUptoRow.holds Tryd.pinned (OpenSpec.upto dialReadsSpec)

/-- 'remontoirlaw01.DialAparts', WHERE WHAT IT READS IS OF BULK AT MOST 1048576: true; the input reads as it did. -/
def dialApartsUptoRow : OpenClaim := { program := "ytenmjloiadkgjaadoor", sum := "b5d9320022294b27e664ab8ec638b4d90cb4afe8437861dabfa1785bb9a06d35", func := "remontoir/remontoirlaw01.DialAparts", spec := "dialAparts", unfollowed := true, recurses := true, named := ["remontoir/dial.parts"], plainKeys := false, apart := false, laid := [("remontoir/dial.parts", laid_remontoir_dial_parts)], narrowed := true }
def DialApartsUptoSaid : Prop := dialApartsUptoRow.holds Tryd.pinned (OpenSpec.upto dialApartsSpec)

/-- 'remontoirlaw01.DialTowns', WHERE WHAT IT READS IS OF BULK AT MOST 1048576: true; the input reads as it did. -/
def dialTownsUptoRow : OpenClaim := { program := "ytenmjloiadkgjaadoor", sum := "b5d9320022294b27e664ab8ec638b4d90cb4afe8437861dabfa1785bb9a06d35", func := "remontoir/remontoirlaw01.DialTowns", spec := "dialTowns", unfollowed := true, recurses := true, named := ["remontoir/dial.parts"], plainKeys := false, apart := false, laid := [("remontoir/dial.parts", laid_remontoir_dial_parts)], narrowed := true }
def DialTownsUptoSaid : Prop := dialTownsUptoRow.holds Tryd.pinned (OpenSpec.upto dialTownsSpec)

/-- 'remontoirlaw01.DialTwices', WHERE WHAT IT READS IS OF BULK AT MOST 1048576: true; the input reads as it did. -/
def dialTwicesUptoRow : OpenClaim := { program := "ytenmjloiadkgjaadoor", sum := "b5d9320022294b27e664ab8ec638b4d90cb4afe8437861dabfa1785bb9a06d35", func := "remontoir/remontoirlaw01.DialTwices", spec := "dialTwices", unfollowed := true, recurses := true, named := ["remontoir/dial.parts"], plainKeys := false, apart := false, laid := [("remontoir/dial.parts", laid_remontoir_dial_parts)], narrowed := true }
def DialTwicesUptoSaid : Prop := dialTwicesUptoRow.holds Tryd.pinned (OpenSpec.upto dialTwicesSpec)

/-- 'remontoirlaw01.DialInverse', WHERE WHAT IT READS IS OF BULK AT MOST 1048576: true; the input reads as it did. -/
def dialInverseUptoRow : OpenClaim := { program := "ytenmjloiadkgjaadoor", sum := "b5d9320022294b27e664ab8ec638b4d90cb4afe8437861dabfa1785bb9a06d35", func := "remontoir/remontoirlaw01.DialInverse", spec := "dialInverse", unfollowed := true, recurses := true, named := ["remontoir/dial.parts"], plainKeys := false, apart := false, laid := [("remontoir/dial.parts", laid_remontoir_dial_parts)], narrowed := true }
def DialInverseUptoSaid : Prop := dialInverseUptoRow.holds Tryd.pinned (OpenSpec.upto dialInverseSpec)

/-- 'remontoirlaw01.DialDays', WHERE WHAT IT READS IS OF BULK AT MOST 1048576: true; the input reads as it did. -/
def dialDaysUptoRow : OpenClaim := { program := "ytenmjloiadkgjaadoor", sum := "b5d9320022294b27e664ab8ec638b4d90cb4afe8437861dabfa1785bb9a06d35", func := "remontoir/remontoirlaw01.DialDays", spec := "dialDays", unfollowed := true, recurses := true, named := ["remontoir/dial.parts"], plainKeys := false, apart := false, laid := [("remontoir/dial.parts", laid_remontoir_dial_parts)], narrowed := true }
def DialDaysUptoSaid : Prop := dialDaysUptoRow.holds Tryd.pinned (OpenSpec.upto dialDaysSpec)

/-- 'remontoirlaw01.DialDecreed', WHERE WHAT IT READS IS OF BULK AT MOST 1048576: true; the input reads as it did. -/
def dialDecreedUptoRow : OpenClaim := { program := "ytenmjloiadkgjaadoor", sum := "b5d9320022294b27e664ab8ec638b4d90cb4afe8437861dabfa1785bb9a06d35", func := "remontoir/remontoirlaw01.DialDecreed", spec := "dialDecreed", unfollowed := true, recurses := true, named := ["remontoir/dial.parts"], plainKeys := false, apart := false, laid := [("remontoir/dial.parts", laid_remontoir_dial_parts)], narrowed := true }
def DialDecreedUptoSaid : Prop := dialDecreedUptoRow.holds Tryd.pinned (OpenSpec.upto dialDecreedSpec)

/-- 'remontoirlaw01.DialApart', WHERE WHAT IT READS IS OF BULK AT MOST 1048576: true; the input reads as it did. -/
def dialApartUptoRow : OpenClaim := { program := "ytenmjloiadkgjaadoor", sum := "b5d9320022294b27e664ab8ec638b4d90cb4afe8437861dabfa1785bb9a06d35", func := "remontoir/remontoirlaw01.DialApart", spec := "dialApart", unfollowed := true, recurses := true, named := ["remontoir/dial.parts"], plainKeys := false, apart := false, laid := [("remontoir/dial.parts", laid_remontoir_dial_parts)], narrowed := true }
def DialApartUptoSaid : Prop := dialApartUptoRow.holds Tryd.pinned (OpenSpec.upto dialApartSpec)

/-- 'remontoirlaw01.DialNext', WHERE WHAT IT READS IS OF BULK AT MOST 1048576: true; the input reads as it did. -/
def dialNextUptoRow : OpenClaim := { program := "ytenmjloiadkgjaadoor", sum := "b5d9320022294b27e664ab8ec638b4d90cb4afe8437861dabfa1785bb9a06d35", func := "remontoir/remontoirlaw01.DialNext", spec := "dialNext", unfollowed := true, recurses := true, named := ["remontoir/dial.parts"], plainKeys := false, apart := false, laid := [("remontoir/dial.parts", laid_remontoir_dial_parts)], narrowed := true }
def DialNextUptoSaid : Prop := dialNextUptoRow.holds Tryd.pinned (OpenSpec.upto dialNextSpec)

/-- 'remontoirlaw01.DialLocal', WHERE WHAT IT READS IS OF BULK AT MOST 1048576: true; the input reads as it did. -/
def dialLocalUptoRow : OpenClaim := { program := "ytenmjloiadkgjaadoor", sum := "b5d9320022294b27e664ab8ec638b4d90cb4afe8437861dabfa1785bb9a06d35", func := "remontoir/remontoirlaw01.DialLocal", spec := "dialLocal", unfollowed := true, recurses := true, named := ["remontoir/dial.parts"], plainKeys := false, apart := false, laid := [("remontoir/dial.parts", laid_remontoir_dial_parts)], narrowed := true }
def DialLocalUptoSaid : Prop := dialLocalUptoRow.holds Tryd.pinned (OpenSpec.upto dialLocalSpec)

/-- 'remontoirlaw01.DialOnce', WHERE WHAT IT READS IS OF BULK AT MOST 1048576: true; the input reads as it did. -/
def dialOnceUptoRow : OpenClaim := { program := "ytenmjloiadkgjaadoor", sum := "b5d9320022294b27e664ab8ec638b4d90cb4afe8437861dabfa1785bb9a06d35", func := "remontoir/remontoirlaw01.DialOnce", spec := "dialOnce", unfollowed := true, recurses := true, named := ["remontoir/dial.parts"], plainKeys := false, apart := false, laid := [("remontoir/dial.parts", laid_remontoir_dial_parts)], narrowed := true }
def DialOnceUptoSaid : Prop := dialOnceUptoRow.holds Tryd.pinned (OpenSpec.upto dialOnceSpec)

/-- 'remontoirlaw01.DialTwice', WHERE WHAT IT READS IS OF BULK AT MOST 1048576: true; the input reads as it did. -/
def dialTwiceUptoRow : OpenClaim := { program := "ytenmjloiadkgjaadoor", sum := "b5d9320022294b27e664ab8ec638b4d90cb4afe8437861dabfa1785bb9a06d35", func := "remontoir/remontoirlaw01.DialTwice", spec := "dialTwice", unfollowed := true, recurses := true, named := ["remontoir/dial.parts"], plainKeys := false, apart := false, laid := [("remontoir/dial.parts", laid_remontoir_dial_parts)], narrowed := true }
def DialTwiceUptoSaid : Prop := dialTwiceUptoRow.holds Tryd.pinned (OpenSpec.upto dialTwiceSpec)

/-- 'remontoirlaw01.DialKnown', WHERE WHAT IT READS IS OF BULK AT MOST 1048576: true; the input reads as it did. -/
def dialKnownUptoRow : OpenClaim := { program := "ytenmjloiadkgjaadoor", sum := "b5d9320022294b27e664ab8ec638b4d90cb4afe8437861dabfa1785bb9a06d35", func := "remontoir/remontoirlaw01.DialKnown", spec := "dialKnown", unfollowed := true, recurses := true, named := ["remontoir/dial.parts"], plainKeys := false, apart := false, laid := [("remontoir/dial.parts", laid_remontoir_dial_parts)], narrowed := true }
def DialKnownUptoSaid : Prop := dialKnownUptoRow.holds Tryd.pinned (OpenSpec.upto dialKnownSpec)

end Rows
end Go.Proofs.YtenmjloiadkgjaaDoor
