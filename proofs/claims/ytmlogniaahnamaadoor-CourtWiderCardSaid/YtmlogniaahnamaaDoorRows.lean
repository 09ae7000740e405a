/-
  NARROWER THAN 'FOR EVERY INPUT', by the rows' own cells (each row's printed sentence says how): CourtOpposite: laid · CourtMore: laid · CourtWider: laid · CourtWhen: laid · CourtStricter: laid · CourtKnown: laid.
  DERIVED. THE GIVEN ROWS OF THIS SEAT. 6 by the template 'for every input the law returns true; each argument reads behind the call as it read before'; 0 by the template 'total and deterministic' (their statements: YtmlogniaahnamaaDoorTotals.lean).
  GIVEN WITH THE SEED: the statements are not yours to turn. If you find one false, say at which input.
  Laid BY PROGRAM, IN A SANDBOX (cutbox-rows.mjs): the forced cells as the released guide's own fill.sh prints them over the translation 191d230f9730ff4b… (all of the seat's roots in one cut). By AI agents, Wed Nov 11 2026. No macro, syntax, notation, axiom, sorry.
-/
import Derived.Test.YtmlogniaahnamaaDoorChecked
import GoSem.Claim
import GoSem.ClaimJoined
import GoSem.ClaimMapViews
import Derived.JoinedTies
import Derived.KernelRfl
namespace Go.Proofs.YtmlogniaahnamaaDoor
/- THE CELL 'sum', in the pinned program and in every row, IS THE sha256 OF THE DUMP (.gsa) THAT YtmlogniaahnamaaDoorProg.lean LOADS. Nothing in Lean hashes anything: it is a label: what it is worth is what the hold of that sum in a sandbox is worth. -/
noncomputable def Tryd.pinned : Pinned := { name := "ytmlogniaahnamaadoor", sum := "191d230f9730ff4bc0019324eb9c739213f1e357c6cae1cd2f9b3880bdb97379", checked := Tryd.checked }
namespace Rows
def none {H : Type} : Left H := { results := [], args := [] }

/- WHAT THE LISTED PACKAGE-LEVEL VARIABLES READ AS WHEN THE CALL BEGINS. Each datum BY PROGRAM (the guide's laid-datum.mjs) off the statement by which the dump's own 'gosem.cut.vars' lays the variable. In a bare row this is a premise. The card (YtmlogniaahnamaaDoorCards.lean) ties it to the program's text. -/
def laid_remontoir_dial_parts {H : Type} : DataW H := .iface "func table" (.agg [.iface "func" (.lit (.string [40, 114, 101, 109, 111, 110, 116, 111, 105, 114, 47, 100, 105, 97, 108, 46, 99, 97, 108, 101, 110, 100, 97, 114, 41, 46, 104, 111, 117, 114])), .iface "func" (.lit (.string [40, 114, 101, 109, 111, 110, 116, 111, 105, 114, 47, 100, 105, 97, 108, 46, 99, 97, 108, 101, 110, 100, 97, 114, 41, 46, 109, 105, 110, 117, 116, 101]))])
def laid_remontoir_court_kinds {H : Type} : DataW H := .iface "func table" (.agg [.agg [.iface "func" (.lit (.string [40, 114, 101, 109, 111, 110, 116, 111, 105, 114, 47, 99, 111, 117, 114, 116, 46, 116, 114, 105, 97, 108, 41, 46, 115, 97, 105, 100])), .lit (.bool true)], .agg [.iface "func" (.lit (.string [40, 114, 101, 109, 111, 110, 116, 111, 105, 114, 47, 99, 111, 117, 114, 116, 46, 116, 114, 105, 97, 108, 41, 46, 97, 104, 101, 97, 100])), .lit (.bool false)], .agg [.iface "func" (.lit (.string [40, 114, 101, 109, 111, 110, 116, 111, 105, 114, 47, 99, 111, 117, 114, 116, 46, 116, 114, 105, 97, 108, 41, 46, 119, 105, 116, 104, 105, 110])), .lit (.bool false)]])

/-- 'remontoirlaw10.CourtOpposite': WHATEVER THE INPUT: true; the input reads as it did. -/
def courtOppositeSpec : ChangeSpec := { name := "courtOpposite", fn := fun _ => fun
  | [d1, d2, d3] => { results := [.lit (.bool true)], args := [d1, d2, d3] }
  | _ => none }
def courtOppositeRow : OpenClaim := { program := "ytmlogniaahnamaadoor", sum := "191d230f9730ff4bc0019324eb9c739213f1e357c6cae1cd2f9b3880bdb97379", func := "remontoir/remontoirlaw10.CourtOpposite", spec := "courtOpposite", unfollowed := true, recurses := true, named := ["remontoir/dial.parts", "remontoir/court.kinds"], plainKeys := false, apart := false, laid := [("remontoir/dial.parts", laid_remontoir_dial_parts), ("remontoir/court.kinds", laid_remontoir_court_kinds)] }
def CourtOppositeSaid : Prop := courtOppositeRow.holds Tryd.pinned (OpenSpec.ofChange courtOppositeSpec)

/-- ITS FALSE NEIGHBOUR: 'it returns false'. Refute it at one input. -/
def courtOppositeWrong : ChangeSpec := { name := "courtOpposite", fn := fun _ => fun
  | [d1, d2, d3] => { results := [.lit (.bool false)], args := [d1, d2, d3] }
  | _ => none }
def CourtOppositeWrongFalsely : Prop := courtOppositeRow.holds Tryd.pinned (OpenSpec.ofChange courtOppositeWrong)

/-- 'remontoirlaw10.CourtMore': WHATEVER THE INPUT: true; the input reads as it did. -/
def courtMoreSpec : ChangeSpec := { name := "courtMore", fn := fun _ => fun
  | [d1, d2, d3] => { results := [.lit (.bool true)], args := [d1, d2, d3] }
  | _ => none }
def courtMoreRow : OpenClaim := { program := "ytmlogniaahnamaadoor", sum := "191d230f9730ff4bc0019324eb9c739213f1e357c6cae1cd2f9b3880bdb97379", func := "remontoir/remontoirlaw10.CourtMore", spec := "courtMore", unfollowed := true, recurses := true, named := ["remontoir/dial.parts", "remontoir/court.kinds"], plainKeys := false, apart := false, laid := [("remontoir/dial.parts", laid_remontoir_dial_parts), ("remontoir/court.kinds", laid_remontoir_court_kinds)] }
def CourtMoreSaid : Prop := courtMoreRow.holds Tryd.pinned (OpenSpec.ofChange courtMoreSpec)

/-- ITS FALSE NEIGHBOUR: 'it returns false'. Refute it at one input. -/
def courtMoreWrong : ChangeSpec := { name := "courtMore", fn := fun _ => fun
  | [d1, d2, d3] => { results := [.lit (.bool false)], args := [d1, d2, d3] }
  | _ => none }
def CourtMoreWrongFalsely : Prop := courtMoreRow.holds Tryd.pinned (OpenSpec.ofChange courtMoreWrong)

/-- 'remontoirlaw10.CourtWider': WHATEVER THE INPUT: true; the input reads as it did. -/
def courtWiderSpec : ChangeSpec := { name := "courtWider", fn := fun _ => fun
  | [d1, d2] => { results := [.lit (.bool true)], args := [d1, d2] }
  | _ => none }
def courtWiderRow : OpenClaim := { program := "ytmlogniaahnamaadoor", sum := "191d230f9730ff4bc0019324eb9c739213f1e357c6cae1cd2f9b3880bdb97379", func := "remontoir/remontoirlaw10.CourtWider", spec := "courtWider", unfollowed := true, recurses := true, named := ["remontoir/dial.parts", "remontoir/court.kinds"], plainKeys := false, apart := false, laid := [("remontoir/dial.parts", laid_remontoir_dial_parts), ("remontoir/court.kinds", laid_remontoir_court_kinds)] }
def CourtWiderSaid : Prop := courtWiderRow.holds Tryd.pinned (OpenSpec.ofChange courtWiderSpec)

/-- ITS FALSE NEIGHBOUR: 'it returns false'. Refute it at one input. -/
def courtWiderWrong : ChangeSpec := { name := "courtWider", fn := fun _ => fun
  | [d1, d2] => { results := [.lit (.bool false)], args := [d1, d2] }
  | _ => none }
def CourtWiderWrongFalsely : Prop := courtWiderRow.holds Tryd.pinned (OpenSpec.ofChange courtWiderWrong)

/-- 'remontoirlaw10.CourtWhen': WHATEVER THE INPUT: true; the input reads as it did. -/
def courtWhenSpec : ChangeSpec := { name := "courtWhen", fn := fun _ => fun
  | [d1, d2, d3] => { results := [.lit (.bool true)], args := [d1, d2, d3] }
  | _ => none }
def courtWhenRow : OpenClaim := { program := "ytmlogniaahnamaadoor", sum := "191d230f9730ff4bc0019324eb9c739213f1e357c6cae1cd2f9b3880bdb97379", func := "remontoir/remontoirlaw10.CourtWhen", spec := "courtWhen", unfollowed := true, recurses := true, named := ["remontoir/dial.parts", "remontoir/court.kinds"], plainKeys := false, apart := false, laid := [("remontoir/dial.parts", laid_remontoir_dial_parts), ("remontoir/court.kinds", laid_remontoir_court_kinds)] }
def CourtWhenSaid : Prop := courtWhenRow.holds Tryd.pinned (OpenSpec.ofChange courtWhenSpec)

/-- ITS FALSE NEIGHBOUR: 'it returns false'. Refute it at one input. -/
def courtWhenWrong : ChangeSpec := { name := "courtWhen", fn := fun _ => fun
  | [d1, d2, d3] => { results := [.lit (.bool false)], args := [d1, d2, d3] }
  | _ => none }
def CourtWhenWrongFalsely : Prop := courtWhenRow.holds Tryd.pinned (OpenSpec.ofChange courtWhenWrong)

/-- 'remontoirlaw10.CourtStricter': WHATEVER THE INPUT: true; the input reads as it did. -/
def courtStricterSpec : ChangeSpec := { name := "courtStricter", fn := fun _ => fun
  | [d1, d2] => { results := [.lit (.bool true)], args := [d1, d2] }
  | _ => none }
def courtStricterRow : OpenClaim := { program := "ytmlogniaahnamaadoor", sum := "191d230f9730ff4bc0019324eb9c739213f1e357c6cae1cd2f9b3880bdb97379", func := "remontoir/remontoirlaw10.CourtStricter", spec := "courtStricter", unfollowed := true, recurses := true, named := ["remontoir/dial.parts", "remontoir/court.kinds"], plainKeys := false, apart := false, laid := [("remontoir/dial.parts", laid_remontoir_dial_parts), ("remontoir/court.kinds", laid_remontoir_court_kinds)] }
def CourtStricterSaid : Prop := courtStricterRow.holds Tryd.pinned (OpenSpec.ofChange courtStricterSpec)

/-- ITS FALSE NEIGHBOUR: 'it returns false'. Refute it at one input. -/
def courtStricterWrong : ChangeSpec := { name := "courtStricter", fn := fun _ => fun
  | [d1, d2] => { results := [.lit (.bool false)], args := [d1, d2] }
  | _ => none }
def CourtStricterWrongFalsely : Prop := courtStricterRow.holds Tryd.pinned (OpenSpec.ofChange courtStricterWrong)

/-- 'remontoirlaw10.CourtKnown': WHATEVER THE INPUT: true; the input reads as it did. -/
def courtKnownSpec : ChangeSpec := { name := "courtKnown", fn := fun _ => fun
  | [] => { results := [.lit (.bool true)], args := [] }
  | _ => none }
def courtKnownRow : OpenClaim := { program := "ytmlogniaahnamaadoor", sum := "191d230f9730ff4bc0019324eb9c739213f1e357c6cae1cd2f9b3880bdb97379", func := "remontoir/remontoirlaw10.CourtKnown", spec := "courtKnown", unfollowed := true, recurses := true, named := ["remontoir/dial.parts", "remontoir/court.kinds"], plainKeys := false, apart := false, laid := [("remontoir/dial.parts", laid_remontoir_dial_parts), ("remontoir/court.kinds", laid_remontoir_court_kinds)] }
def CourtKnownSaid : Prop := courtKnownRow.holds Tryd.pinned (OpenSpec.ofChange courtKnownSpec)

/-- ITS FALSE NEIGHBOUR: 'it returns false'. Refute it at one input. -/
def courtKnownWrong : ChangeSpec := { name := "courtKnown", fn := fun _ => fun
  | [] => { results := [.lit (.bool false)], args := [] }
  | _ => none }
def CourtKnownWrongFalsely : Prop := courtKnownRow.holds Tryd.pinned (OpenSpec.ofChange courtKnownWrong)

/- THE SECOND FORM. 'bulk': how many values and letters a reading holds, each counted each time it is reached (what is shared counts as often as it is met; a slice's spare places count too). A statement '..UptoSaid' is the law's where the arguments, and the package variables that the reading takes, are together of bulk at most 1048576: NARROWER than '..Said'. Prove '..Said' where nothing that the law and all that it calls make is longer than what came in: it says more and counts as full. Else prove '..UptoSaid'. A law counts once. -/
mutual
def uptoBulk {H : Type} : DataW H → Nat
  | .lit (.string bytes) => bytes.length + 1
  | .lit _ => 1
  | .nil => 1
  | .ptr d => uptoBulk d + 1
  | .slice elems spare => uptoBulkAll elems + uptoBulkAll spare + 1
  | .agg parts => uptoBulkAll parts + 1
  | .iface _ d => uptoBulk d + 1
  | .map entries => uptoBulkEntries entries + 1
  | .held _ => 1
def uptoBulkAll {H : Type} : List (DataW H) → Nat
  | [] => 0
  | d :: r => uptoBulk d + uptoBulkAll r
def uptoBulkEntries {H : Type} : List (Lit × DataW H) → Nat
  | [] => 0
  | x :: r => uptoBulkEntry x + uptoBulkEntries r
def uptoBulkEntry {H : Type} : Lit × DataW H → Nat
  | (.string bytes, d) => bytes.length + uptoBulk d + 1
  | (_, d) => uptoBulk d + 1
 end
def uptoSmall : (H : Type) → List (DataW H) → Bool := fun _ ds => decide (uptoBulkAll ds ≤ 1048576)
def OpenSpec.upto (s : _root_.Go.ChangeSpec) : _root_.Go.OpenSpec := { _root_.Go.OpenSpec.ofChange s with cond := some uptoSmall }

/-- 'remontoirlaw10.CourtOpposite', WHERE WHAT IT READS IS OF BULK AT MOST 1048576: true; the input reads as it did. -/
def courtOppositeUptoRow : OpenClaim := { program := "ytmlogniaahnamaadoor", sum := "191d230f9730ff4bc0019324eb9c739213f1e357c6cae1cd2f9b3880bdb97379", func := "remontoir/remontoirlaw10.CourtOpposite", spec := "courtOpposite", unfollowed := true, recurses := true, named := ["remontoir/dial.parts", "remontoir/court.kinds"], plainKeys := false, apart := false, laid := [("remontoir/dial.parts", laid_remontoir_dial_parts), ("remontoir/court.kinds", laid_remontoir_court_kinds)], narrowed := true }
def CourtOppositeUptoSaid : Prop := courtOppositeUptoRow.holds Tryd.pinned (OpenSpec.upto courtOppositeSpec)

/-- 'remontoirlaw10.CourtMore', WHERE WHAT IT READS IS OF BULK AT MOST 1048576: true; the input reads as it did. -/
def courtMoreUptoRow : OpenClaim := { program := "ytmlogniaahnamaadoor", sum := "191d230f9730ff4bc0019324eb9c739213f1e357c6cae1cd2f9b3880bdb97379", func := "remontoir/remontoirlaw10.CourtMore", spec := "courtMore", unfollowed := true, recurses := true, named := ["remontoir/dial.parts", "remontoir/court.kinds"], plainKeys := false, apart := false, laid := [("remontoir/dial.parts", laid_remontoir_dial_parts), ("remontoir/court.kinds", laid_remontoir_court_kinds)], narrowed := true }
def CourtMoreUptoSaid : Prop := courtMoreUptoRow.holds Tryd.pinned (OpenSpec.upto courtMoreSpec)

/-- 'remontoirlaw10.CourtWider', WHERE WHAT IT READS IS OF BULK AT MOST 1048576: true; the input reads as it did. -/
def courtWiderUptoRow : OpenClaim := { program := "ytmlogniaahnamaadoor", sum := "191d230f9730ff4bc0019324eb9c739213f1e357c6cae1cd2f9b3880bdb97379", func := "remontoir/remontoirlaw10.CourtWider", spec := "courtWider", unfollowed := true, recurses := true, named := ["remontoir/dial.parts", "remontoir/court.kinds"], plainKeys := false, apart := false, laid := [("remontoir/dial.parts", laid_remontoir_dial_parts), ("remontoir/court.kinds", laid_remontoir_court_kinds)], narrowed := true }
def CourtWiderUptoSaid : Prop := courtWiderUptoRow.holds Tryd.pinned (OpenSpec.upto courtWiderSpec)

/-- 'remontoirlaw10.CourtWhen', WHERE WHAT IT READS IS OF BULK AT MOST 1048576: true; the input reads as it did. -/
def courtWhenUptoRow : OpenClaim := { program := "ytmlogniaahnamaadoor", sum := "191d230f9730ff4bc0019324eb9c739213f1e357c6cae1cd2f9b3880bdb97379", func := "remontoir/remontoirlaw10.CourtWhen", spec := "courtWhen", unfollowed := true, recurses := true, named := ["remontoir/dial.parts", "remontoir/court.kinds"], plainKeys := false, apart := false, laid := [("remontoir/dial.parts", laid_remontoir_dial_parts), ("remontoir/court.kinds", laid_remontoir_court_kinds)], narrowed := true }
def CourtWhenUptoSaid : Prop := courtWhenUptoRow.holds Tryd.pinned (OpenSpec.upto courtWhenSpec)

/-- 'remontoirlaw10.CourtStricter', WHERE WHAT IT READS IS OF BULK AT MOST 1048576: true; the input reads as it did. -/
def courtStricterUptoRow : OpenClaim := { program := "ytmlogniaahnamaadoor", sum := "191d230f9730ff4bc0019324eb9c739213f1e357c6cae1cd2f9b3880bdb97379", func := "remontoir/remontoirlaw10.CourtStricter", spec := "courtStricter", unfollowed := true, recurses := true, named := ["remontoir/dial.parts", "remontoir/court.kinds"], plainKeys := false, apart := false, laid := [("remontoir/dial.parts", laid_remontoir_dial_parts), ("remontoir/court.kinds", laid_remontoir_court_kinds)], narrowed := true }
def CourtStricterUptoSaid : Prop := courtStricterUptoRow.holds Tryd.pinned (OpenSpec.upto courtStricterSpec)

/-- 'remontoirlaw10.CourtKnown', WHERE WHAT IT READS IS OF BULK AT MOST 1048576: true; the input reads as it did. -/
def courtKnownUptoRow : OpenClaim := { program := "ytmlogniaahnamaadoor", sum := "191d230f9730ff4bc0019324eb9c739213f1e357c6cae1cd2f9b3880bdb97379", func := "remontoir/remontoirlaw10.CourtKnown", spec := "courtKnown", unfollowed := true, recurses := true, named := ["remontoir/dial.parts", "remontoir/court.kinds"], plainKeys := false, apart := false, laid := [("remontoir/dial.parts", laid_remontoir_dial_parts), ("remontoir/court.kinds", laid_remontoir_court_kinds)], narrowed := true }
def CourtKnownUptoSaid : Prop := courtKnownUptoRow.holds Tryd.pinned (OpenSpec.upto courtKnownSpec)

end Rows
end Go.Proofs.YtmlogniaahnamaaDoor
