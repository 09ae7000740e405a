/-
  NARROWER THAN 'FOR EVERY INPUT', by the rows' own cells (each row's printed sentence says how): CallerServes: laid · CallerCounts: laid · CallerPays: laid · CallerWhiches: laid · CallerTurn: laid · CallerWhole: laid · CallerFewest: laid · CallerLost: laid · CallerBusy: laid · CallerCoin: laid · CallerChange: laid · CallerWhich: laid · CallerKnown: laid.
  DERIVED. THE GIVEN ROWS OF THIS SEAT. 13 by the template 'for every input the law returns true; each argument reads behind the call as it read before'; 0 by the template 'total and deterministic' (their statements: YtidnkmbicedmjaaDoorTotals.lean).
  GIVEN WITH THE SEED: the statements are not yours to turn. If you find one false, say at which input.
  Laid BY PROGRAM, IN A SANDBOX (cutbox-rows.mjs): the forced cells as the released guide's own fill.sh prints them over the translation c52f3ef96252959c… (all of the seat's roots in one cut). By AI agents, Wed Nov 11 2026. No macro, syntax, notation, axiom, sorry.
-/
import Derived.Test.YtidnkmbicedmjaaDoorChecked
import GoSem.Claim
import GoSem.ClaimJoined
import GoSem.ClaimMapViews
import Derived.JoinedTies
import Derived.KernelRfl
namespace Go.Proofs.YtidnkmbicedmjaaDoor
/- THE CELL 'sum', in the pinned program and in every row, IS THE sha256 OF THE DUMP (.gsa) THAT YtidnkmbicedmjaaDoorProg.lean LOADS. Nothing in Lean hashes anything: it is a label: what it is worth is what the hold of that sum in a sandbox is worth. -/
noncomputable def Tryd.pinned : Pinned := { name := "ytidnkmbicedmjaadoor", sum := "c52f3ef96252959c61809086c8e53e2afc2bb229a770aac20a60137eaee2978f", checked := Tryd.checked }
namespace Rows
def none {H : Type} : Left H := { results := [], args := [] }

/- WHAT THE LISTED PACKAGE-LEVEL VARIABLES READ AS WHEN THE CALL BEGINS. Each datum BY PROGRAM (the guide's laid-datum.mjs) off the statement by which the dump's own 'gosem.cut.vars' lays the variable. In a bare row this is a premise. The card (YtidnkmbicedmjaaDoorCards.lean) ties it to the program's text. -/
def laid_remontoir_caller_prices {H : Type} : DataW H := .iface "func table" (.agg [.iface "func" (.lit (.string [40, 114, 101, 109, 111, 110, 116, 111, 105, 114, 47, 99, 97, 108, 108, 101, 114, 46, 104, 111, 117, 114, 41, 46, 102, 101, 101])), .iface "func" (.lit (.string [40, 114, 101, 109, 111, 110, 116, 111, 105, 114, 47, 99, 97, 108, 108, 101, 114, 46, 104, 111, 117, 114, 41, 46, 117, 110, 105, 116, 115]))])

/-- 'remontoirlaw09.CallerServes': WHATEVER THE INPUT: true; the input reads as it did. -/
def callerServesSpec : ChangeSpec := { name := "callerServes", fn := fun _ => fun
  | [d1, d2] => { results := [.lit (.bool true)], args := [d1, d2] }
  | _ => none }
def callerServesRow : OpenClaim := { program := "ytidnkmbicedmjaadoor", sum := "c52f3ef96252959c61809086c8e53e2afc2bb229a770aac20a60137eaee2978f", func := "remontoir/remontoirlaw09.CallerServes", spec := "callerServes", unfollowed := true, recurses := true, named := ["remontoir/caller.prices"], plainKeys := false, apart := false, laid := [("remontoir/caller.prices", laid_remontoir_caller_prices)] }
def CallerServesSaid : Prop := callerServesRow.holds Tryd.pinned (OpenSpec.ofChange callerServesSpec)

/-- ITS FALSE NEIGHBOUR: 'it returns false'. Refute it at one input. -/
def callerServesWrong : ChangeSpec := { name := "callerServes", fn := fun _ => fun
  | [d1, d2] => { results := [.lit (.bool false)], args := [d1, d2] }
  | _ => none }
def CallerServesWrongFalsely : Prop := callerServesRow.holds Tryd.pinned (OpenSpec.ofChange callerServesWrong)

/-- 'remontoirlaw09.CallerCounts': WHATEVER THE INPUT: true; the input reads as it did. -/
def callerCountsSpec : ChangeSpec := { name := "callerCounts", fn := fun _ => fun
  | [d1, d2] => { results := [.lit (.bool true)], args := [d1, d2] }
  | _ => none }
def callerCountsRow : OpenClaim := { program := "ytidnkmbicedmjaadoor", sum := "c52f3ef96252959c61809086c8e53e2afc2bb229a770aac20a60137eaee2978f", func := "remontoir/remontoirlaw09.CallerCounts", spec := "callerCounts", unfollowed := true, recurses := true, named := ["remontoir/caller.prices"], plainKeys := false, apart := false, laid := [("remontoir/caller.prices", laid_remontoir_caller_prices)] }
def CallerCountsSaid : Prop := callerCountsRow.holds Tryd.pinned (OpenSpec.ofChange callerCountsSpec)

/-- ITS FALSE NEIGHBOUR: 'it returns false'. Refute it at one input. -/
def callerCountsWrong : ChangeSpec := { name := "callerCounts", fn := fun _ => fun
  | [d1, d2] => { results := [.lit (.bool false)], args := [d1, d2] }
  | _ => none }
def CallerCountsWrongFalsely : Prop := callerCountsRow.holds Tryd.pinned (OpenSpec.ofChange callerCountsWrong)

/-- 'remontoirlaw09.CallerPays': WHATEVER THE INPUT: true; the input reads as it did. -/
def callerPaysSpec : ChangeSpec := { name := "callerPays", fn := fun _ => fun
  | [d1, d2] => { results := [.lit (.bool true)], args := [d1, d2] }
  | _ => none }
def callerPaysRow : OpenClaim := { program := "ytidnkmbicedmjaadoor", sum := "c52f3ef96252959c61809086c8e53e2afc2bb229a770aac20a60137eaee2978f", func := "remontoir/remontoirlaw09.CallerPays", spec := "callerPays", unfollowed := true, recurses := true, named := ["remontoir/caller.prices"], plainKeys := false, apart := false, laid := [("remontoir/caller.prices", laid_remontoir_caller_prices)] }
def CallerPaysSaid : Prop := callerPaysRow.holds Tryd.pinned (OpenSpec.ofChange callerPaysSpec)

/-- ITS FALSE NEIGHBOUR: 'it returns false'. Refute it at one input. -/
def callerPaysWrong : ChangeSpec := { name := "callerPays", fn := fun _ => fun
  | [d1, d2] => { results := [.lit (.bool false)], args := [d1, d2] }
  | _ => none }
def CallerPaysWrongFalsely : Prop := callerPaysRow.holds Tryd.pinned (OpenSpec.ofChange callerPaysWrong)

/-- 'remontoirlaw09.CallerWhiches': WHATEVER THE INPUT: true; the input reads as it did. -/
def callerWhichesSpec : ChangeSpec := { name := "callerWhiches", fn := fun _ => fun
  | [d1, d2] => { results := [.lit (.bool true)], args := [d1, d2] }
  | _ => none }
def callerWhichesRow : OpenClaim := { program := "ytidnkmbicedmjaadoor", sum := "c52f3ef96252959c61809086c8e53e2afc2bb229a770aac20a60137eaee2978f", func := "remontoir/remontoirlaw09.CallerWhiches", spec := "callerWhiches", unfollowed := true, recurses := true, named := ["remontoir/caller.prices"], plainKeys := false, apart := false, laid := [("remontoir/caller.prices", laid_remontoir_caller_prices)] }
def CallerWhichesSaid : Prop := callerWhichesRow.holds Tryd.pinned (OpenSpec.ofChange callerWhichesSpec)

/-- ITS FALSE NEIGHBOUR: 'it returns false'. Refute it at one input. -/
def callerWhichesWrong : ChangeSpec := { name := "callerWhiches", fn := fun _ => fun
  | [d1, d2] => { results := [.lit (.bool false)], args := [d1, d2] }
  | _ => none }
def CallerWhichesWrongFalsely : Prop := callerWhichesRow.holds Tryd.pinned (OpenSpec.ofChange callerWhichesWrong)

/-- 'remontoirlaw09.CallerTurn': WHATEVER THE INPUT: true; the input reads as it did. -/
def callerTurnSpec : ChangeSpec := { name := "callerTurn", fn := fun _ => fun
  | [d1, d2] => { results := [.lit (.bool true)], args := [d1, d2] }
  | _ => none }
def callerTurnRow : OpenClaim := { program := "ytidnkmbicedmjaadoor", sum := "c52f3ef96252959c61809086c8e53e2afc2bb229a770aac20a60137eaee2978f", func := "remontoir/remontoirlaw09.CallerTurn", spec := "callerTurn", unfollowed := true, recurses := true, named := ["remontoir/caller.prices"], plainKeys := false, apart := false, laid := [("remontoir/caller.prices", laid_remontoir_caller_prices)] }
def CallerTurnSaid : Prop := callerTurnRow.holds Tryd.pinned (OpenSpec.ofChange callerTurnSpec)

/-- ITS FALSE NEIGHBOUR: 'it returns false'. Refute it at one input. -/
def callerTurnWrong : ChangeSpec := { name := "callerTurn", fn := fun _ => fun
  | [d1, d2] => { results := [.lit (.bool false)], args := [d1, d2] }
  | _ => none }
def CallerTurnWrongFalsely : Prop := callerTurnRow.holds Tryd.pinned (OpenSpec.ofChange callerTurnWrong)

/-- 'remontoirlaw09.CallerWhole': WHATEVER THE INPUT: true; the input reads as it did. -/
def callerWholeSpec : ChangeSpec := { name := "callerWhole", fn := fun _ => fun
  | [d1, d2] => { results := [.lit (.bool true)], args := [d1, d2] }
  | _ => none }
def callerWholeRow : OpenClaim := { program := "ytidnkmbicedmjaadoor", sum := "c52f3ef96252959c61809086c8e53e2afc2bb229a770aac20a60137eaee2978f", func := "remontoir/remontoirlaw09.CallerWhole", spec := "callerWhole", unfollowed := true, recurses := true, named := ["remontoir/caller.prices"], plainKeys := false, apart := false, laid := [("remontoir/caller.prices", laid_remontoir_caller_prices)] }
def CallerWholeSaid : Prop := callerWholeRow.holds Tryd.pinned (OpenSpec.ofChange callerWholeSpec)

/-- ITS FALSE NEIGHBOUR: 'it returns false'. Refute it at one input. -/
def callerWholeWrong : ChangeSpec := { name := "callerWhole", fn := fun _ => fun
  | [d1, d2] => { results := [.lit (.bool false)], args := [d1, d2] }
  | _ => none }
def CallerWholeWrongFalsely : Prop := callerWholeRow.holds Tryd.pinned (OpenSpec.ofChange callerWholeWrong)

/-- 'remontoirlaw09.CallerFewest': WHATEVER THE INPUT: true; the input reads as it did. -/
def callerFewestSpec : ChangeSpec := { name := "callerFewest", fn := fun _ => fun
  | [d1, d2] => { results := [.lit (.bool true)], args := [d1, d2] }
  | _ => none }
def callerFewestRow : OpenClaim := { program := "ytidnkmbicedmjaadoor", sum := "c52f3ef96252959c61809086c8e53e2afc2bb229a770aac20a60137eaee2978f", func := "remontoir/remontoirlaw09.CallerFewest", spec := "callerFewest", unfollowed := true, recurses := true, named := ["remontoir/caller.prices"], plainKeys := false, apart := false, laid := [("remontoir/caller.prices", laid_remontoir_caller_prices)] }
def CallerFewestSaid : Prop := callerFewestRow.holds Tryd.pinned (OpenSpec.ofChange callerFewestSpec)

/-- ITS FALSE NEIGHBOUR: 'it returns false'. Refute it at one input. -/
def callerFewestWrong : ChangeSpec := { name := "callerFewest", fn := fun _ => fun
  | [d1, d2] => { results := [.lit (.bool false)], args := [d1, d2] }
  | _ => none }
def CallerFewestWrongFalsely : Prop := callerFewestRow.holds Tryd.pinned (OpenSpec.ofChange callerFewestWrong)

/-- 'remontoirlaw09.CallerLost': WHATEVER THE INPUT: true; the input reads as it did. -/
def callerLostSpec : ChangeSpec := { name := "callerLost", fn := fun _ => fun
  | [d1, d2] => { results := [.lit (.bool true)], args := [d1, d2] }
  | _ => none }
def callerLostRow : OpenClaim := { program := "ytidnkmbicedmjaadoor", sum := "c52f3ef96252959c61809086c8e53e2afc2bb229a770aac20a60137eaee2978f", func := "remontoir/remontoirlaw09.CallerLost", spec := "callerLost", unfollowed := true, recurses := true, named := ["remontoir/caller.prices"], plainKeys := false, apart := false, laid := [("remontoir/caller.prices", laid_remontoir_caller_prices)] }
def CallerLostSaid : Prop := callerLostRow.holds Tryd.pinned (OpenSpec.ofChange callerLostSpec)

/-- ITS FALSE NEIGHBOUR: 'it returns false'. Refute it at one input. -/
def callerLostWrong : ChangeSpec := { name := "callerLost", fn := fun _ => fun
  | [d1, d2] => { results := [.lit (.bool false)], args := [d1, d2] }
  | _ => none }
def CallerLostWrongFalsely : Prop := callerLostRow.holds Tryd.pinned (OpenSpec.ofChange callerLostWrong)

/-- 'remontoirlaw09.CallerBusy': WHATEVER THE INPUT: true; the input reads as it did. -/
def callerBusySpec : ChangeSpec := { name := "callerBusy", fn := fun _ => fun
  | [d1, d2] => { results := [.lit (.bool true)], args := [d1, d2] }
  | _ => none }
def callerBusyRow : OpenClaim := { program := "ytidnkmbicedmjaadoor", sum := "c52f3ef96252959c61809086c8e53e2afc2bb229a770aac20a60137eaee2978f", func := "remontoir/remontoirlaw09.CallerBusy", spec := "callerBusy", unfollowed := true, recurses := true, named := ["remontoir/caller.prices"], plainKeys := false, apart := false, laid := [("remontoir/caller.prices", laid_remontoir_caller_prices)] }
def CallerBusySaid : Prop := callerBusyRow.holds Tryd.pinned (OpenSpec.ofChange callerBusySpec)

/-- ITS FALSE NEIGHBOUR: 'it returns false'. Refute it at one input. -/
def callerBusyWrong : ChangeSpec := { name := "callerBusy", fn := fun _ => fun
  | [d1, d2] => { results := [.lit (.bool false)], args := [d1, d2] }
  | _ => none }
def CallerBusyWrongFalsely : Prop := callerBusyRow.holds Tryd.pinned (OpenSpec.ofChange callerBusyWrong)

/-- 'remontoirlaw09.CallerCoin': WHATEVER THE INPUT: true; the input reads as it did. -/
def callerCoinSpec : ChangeSpec := { name := "callerCoin", fn := fun _ => fun
  | [d1, d2] => { results := [.lit (.bool true)], args := [d1, d2] }
  | _ => none }
def callerCoinRow : OpenClaim := { program := "ytidnkmbicedmjaadoor", sum := "c52f3ef96252959c61809086c8e53e2afc2bb229a770aac20a60137eaee2978f", func := "remontoir/remontoirlaw09.CallerCoin", spec := "callerCoin", unfollowed := true, recurses := true, named := ["remontoir/caller.prices"], plainKeys := false, apart := false, laid := [("remontoir/caller.prices", laid_remontoir_caller_prices)] }
def CallerCoinSaid : Prop := callerCoinRow.holds Tryd.pinned (OpenSpec.ofChange callerCoinSpec)

/-- ITS FALSE NEIGHBOUR: 'it returns false'. Refute it at one input. -/
def callerCoinWrong : ChangeSpec := { name := "callerCoin", fn := fun _ => fun
  | [d1, d2] => { results := [.lit (.bool false)], args := [d1, d2] }
  | _ => none }
def CallerCoinWrongFalsely : Prop := callerCoinRow.holds Tryd.pinned (OpenSpec.ofChange callerCoinWrong)

/-- 'remontoirlaw09.CallerChange': WHATEVER THE INPUT: true; the input reads as it did. -/
def callerChangeSpec : ChangeSpec := { name := "callerChange", fn := fun _ => fun
  | [d1, d2] => { results := [.lit (.bool true)], args := [d1, d2] }
  | _ => none }
def callerChangeRow : OpenClaim := { program := "ytidnkmbicedmjaadoor", sum := "c52f3ef96252959c61809086c8e53e2afc2bb229a770aac20a60137eaee2978f", func := "remontoir/remontoirlaw09.CallerChange", spec := "callerChange", unfollowed := true, recurses := true, named := ["remontoir/caller.prices"], plainKeys := false, apart := false, laid := [("remontoir/caller.prices", laid_remontoir_caller_prices)] }
def CallerChangeSaid : Prop := callerChangeRow.holds Tryd.pinned (OpenSpec.ofChange callerChangeSpec)

/-- ITS FALSE NEIGHBOUR: 'it returns false'. Refute it at one input. -/
def callerChangeWrong : ChangeSpec := { name := "callerChange", fn := fun _ => fun
  | [d1, d2] => { results := [.lit (.bool false)], args := [d1, d2] }
  | _ => none }
def CallerChangeWrongFalsely : Prop := callerChangeRow.holds Tryd.pinned (OpenSpec.ofChange callerChangeWrong)

/-- 'remontoirlaw09.CallerWhich': WHATEVER THE INPUT: true; the input reads as it did. -/
def callerWhichSpec : ChangeSpec := { name := "callerWhich", fn := fun _ => fun
  | [d1, d2] => { results := [.lit (.bool true)], args := [d1, d2] }
  | _ => none }
def callerWhichRow : OpenClaim := { program := "ytidnkmbicedmjaadoor", sum := "c52f3ef96252959c61809086c8e53e2afc2bb229a770aac20a60137eaee2978f", func := "remontoir/remontoirlaw09.CallerWhich", spec := "callerWhich", unfollowed := true, recurses := true, named := ["remontoir/caller.prices"], plainKeys := false, apart := false, laid := [("remontoir/caller.prices", laid_remontoir_caller_prices)] }
def CallerWhichSaid : Prop := callerWhichRow.holds Tryd.pinned (OpenSpec.ofChange callerWhichSpec)

/-- ITS FALSE NEIGHBOUR: 'it returns false'. Refute it at one input. -/
def callerWhichWrong : ChangeSpec := { name := "callerWhich", fn := fun _ => fun
  | [d1, d2] => { results := [.lit (.bool false)], args := [d1, d2] }
  | _ => none }
def CallerWhichWrongFalsely : Prop := callerWhichRow.holds Tryd.pinned (OpenSpec.ofChange callerWhichWrong)

/-- 'remontoirlaw09.CallerKnown': WHATEVER THE INPUT: true; the input reads as it did. -/
def callerKnownSpec : ChangeSpec := { name := "callerKnown", fn := fun _ => fun
  | [] => { results := [.lit (.bool true)], args := [] }
  | _ => none }
def callerKnownRow : OpenClaim := { program := "ytidnkmbicedmjaadoor", sum := "c52f3ef96252959c61809086c8e53e2afc2bb229a770aac20a60137eaee2978f", func := "remontoir/remontoirlaw09.CallerKnown", spec := "callerKnown", unfollowed := true, recurses := true, named := ["remontoir/caller.prices"], plainKeys := false, apart := false, laid := [("remontoir/caller.prices", laid_remontoir_caller_prices)] }
def CallerKnownSaid : Prop := callerKnownRow.holds Tryd.pinned (OpenSpec.ofChange callerKnownSpec)

/-- ITS FALSE NEIGHBOUR: 'it returns false'. Refute it at one input. -/
def callerKnownWrong : ChangeSpec := { name := "callerKnown", fn := fun _ => fun
  | [] => { results := [.lit (.bool false)], args := [] }
  | _ => none }
def CallerKnownWrongFalsely : Prop := callerKnownRow.holds Tryd.pinned (OpenSpec.ofChange callerKnownWrong)

/- THE SECOND FORM. 'bulk': how many values and letters a reading holds, each counted each time it is reached (what is shared counts as often as it is met; a slice's spare places count too). A statement '..UptoSaid' is the law's where the arguments, and the package variables that the reading takes, are together of bulk at most 1048576: NARROWER than '..Said'. Prove '..Said' where nothing that the law and all that it calls make is longer than what came in: it says more and counts as full. Else prove '..UptoSaid'. A law counts once. -/
mutual
def uptoBulk {H : Type} : DataW H → Nat
  | .lit (.string bytes) => bytes.length + 1
  | .lit _ => 1
  | .nil => 1
  | .ptr d => uptoBulk d + 1
  | .slice elems spare => uptoBulkAll elems + uptoBulkAll spare + 1
  | .agg parts => uptoBulkAll parts + 1
  | .iface _ d => uptoBulk d + 1
  | .map entries => uptoBulkEntries entries + 1
  | .held _ => 1
def uptoBulkAll {H : Type} : List (DataW H) → Nat
  | [] => 0
  | d :: r => uptoBulk d + uptoBulkAll r
def uptoBulkEntries {H : Type} : List (Lit × DataW H) → Nat
  | [] => 0
  | x :: r => uptoBulkEntry x + uptoBulkEntries r
def uptoBulkEntry {H : Type} : Lit × DataW H → Nat
  | (.string bytes, d) => bytes.length + uptoBulk d + 1
  | (_, d) => uptoBulk d + 1
 end
def uptoSmall : (H : Type) → List (DataW H) → Bool := fun _ ds => decide (uptoBulkAll ds ≤ 1048576)
def OpenSpec.upto (s : _root_.Go.ChangeSpec) : _root_.Go.OpenSpec := { _root_.Go.OpenSpec.ofChange s with cond := some uptoSmall }

/-- 'remontoirlaw09.CallerServes', WHERE WHAT IT READS IS OF BULK AT MOST 1048576: true; the input reads as it did. -/
def callerServesUptoRow : OpenClaim := { program := "ytidnkmbicedmjaadoor", sum := "c52f3ef96252959c61809086c8e53e2afc2bb229a770aac20a60137eaee2978f", func := "remontoir/remontoirlaw09.CallerServes", spec := "callerServes", unfollowed := true, recurses := true, named := ["remontoir/caller.prices"], plainKeys := false, apart := false, laid := [("remontoir/caller.prices", laid_remontoir_caller_prices)], narrowed := true }
def CallerServesUptoSaid : Prop := callerServesUptoRow.holds Tryd.pinned (OpenSpec.upto callerServesSpec)

/-- 'remontoirlaw09.CallerCounts', WHERE WHAT IT READS IS OF BULK AT MOST 1048576: true; the input reads as it did. -/
def callerCountsUptoRow : OpenClaim := { program := "ytidnkmbicedmjaadoor", sum := "c52f3ef96252959c61809086c8e53e2afc2bb229a770aac20a60137eaee2978f", func := "remontoir/remontoirlaw09.CallerCounts", spec := "callerCounts", unfollowed := true, recurses := true, named := ["remontoir/caller.prices"], plainKeys := false, apart := false, laid := [("remontoir/caller.prices", laid_remontoir_caller_prices)], narrowed := true }
def CallerCountsUptoSaid : Prop := callerCountsUptoRow.holds Tryd.pinned (OpenSpec.upto callerCountsSpec)

/-- 'remontoirlaw09.CallerPays', WHERE WHAT IT READS IS OF BULK AT MOST 1048576: true; the input reads as it did. -/
def callerPaysUptoRow : OpenClaim := { program := "ytidnkmbicedmjaadoor", sum := "c52f3ef96252959c61809086c8e53e2afc2bb229a770aac20a60137eaee2978f", func := "remontoir/remontoirlaw09.CallerPays", spec := "callerPays", unfollowed := true, recurses := true, named := ["remontoir/caller.prices"], plainKeys := false, apart := false, laid := [("remontoir/caller.prices", laid_remontoir_caller_prices)], narrowed := true }
def CallerPaysUptoSaid : Prop := callerPaysUptoRow.holds Tryd.pinned (OpenSpec.upto callerPaysSpec)

/-- 'remontoirlaw09.CallerWhiches', WHERE WHAT IT READS IS OF BULK AT MOST 1048576: true; the input reads as it did. -/
def callerWhichesUptoRow : OpenClaim := { program := "ytidnkmbicedmjaadoor", sum := "c52f3ef96252959c61809086c8e53e2afc2bb229a770aac20a60137eaee2978f", func := "remontoir/remontoirlaw09.CallerWhiches", spec := "callerWhiches", unfollowed := true, recurses := true, named := ["remontoir/caller.prices"], plainKeys := false, apart := false, laid := [("remontoir/caller.prices", laid_remontoir_caller_prices)], narrowed := true }
def CallerWhichesUptoSaid : Prop := callerWhichesUptoRow.holds Tryd.pinned (OpenSpec.upto callerWhichesSpec)

/-- 'remontoirlaw09.CallerTurn', WHERE WHAT IT READS IS OF BULK AT MOST 1048576: true; the input reads as it did. -/
def callerTurnUptoRow : OpenClaim := { program := "ytidnkmbicedmjaadoor", sum := "c52f3ef96252959c61809086c8e53e2afc2bb229a770aac20a60137eaee2978f", func := "remontoir/remontoirlaw09.CallerTurn", spec := "callerTurn", unfollowed := true, recurses := true, named := ["remontoir/caller.prices"], plainKeys := false, apart := false, laid := [("remontoir/caller.prices", laid_remontoir_caller_prices)], narrowed := true }
def CallerTurnUptoSaid : Prop := callerTurnUptoRow.holds Tryd.pinned (OpenSpec.upto callerTurnSpec)

/-- 'remontoirlaw09.CallerWhole', WHERE WHAT IT READS IS OF BULK AT MOST 1048576: true; the input reads as it did. -/
def callerWholeUptoRow : OpenClaim := { program := "ytidnkmbicedmjaadoor", sum := "c52f3ef96252959c61809086c8e53e2afc2bb229a770aac20a60137eaee2978f", func := "remontoir/remontoirlaw09.CallerWhole", spec := "callerWhole", unfollowed := true, recurses := true, named := ["remontoir/caller.prices"], plainKeys := false, apart := false, laid := [("remontoir/caller.prices", laid_remontoir_caller_prices)], narrowed := true }
def CallerWholeUptoSaid : Prop := callerWholeUptoRow.holds Tryd.pinned (OpenSpec.upto callerWholeSpec)

/-- 'remontoirlaw09.CallerFewest', WHERE WHAT IT READS IS OF BULK AT MOST 1048576: true; the input reads as it did. -/
def callerFewestUptoRow : OpenClaim := { program := "ytidnkmbicedmjaadoor", sum := "c52f3ef96252959c61809086c8e53e2afc2bb229a770aac20a60137eaee2978f", func := "remontoir/remontoirlaw09.CallerFewest", spec := "callerFewest", unfollowed := true, recurses := true, named := ["remontoir/caller.prices"], plainKeys := false, apart := false, laid := [("remontoir/caller.prices", laid_remontoir_caller_prices)], narrowed := true }
def CallerFewestUptoSaid : Prop := callerFewestUptoRow.holds Tryd.pinned (OpenSpec.upto callerFewestSpec)

/-- 'remontoirlaw09.CallerLost', WHERE WHAT IT READS IS OF BULK AT MOST 1048576: true; the input reads as it did. -/
def callerLostUptoRow : OpenClaim := { program := "ytidnkmbicedmjaadoor", sum := "c52f3ef96252959c61809086c8e53e2afc2bb229a770aac20a60137eaee2978f", func := "remontoir/remontoirlaw09.CallerLost", spec := "callerLost", unfollowed := true, recurses := true, named := ["remontoir/caller.prices"], plainKeys := false, apart := false, laid := [("remontoir/caller.prices", laid_remontoir_caller_prices)], narrowed := true }
def CallerLostUptoSaid : Prop := callerLostUptoRow.holds Tryd.pinned (OpenSpec.upto callerLostSpec)

/-- 'remontoirlaw09.CallerBusy', WHERE WHAT IT READS IS OF BULK AT MOST 1048576: true; the input reads as it did. -/
def callerBusyUptoRow : OpenClaim := { program := "ytidnkmbicedmjaadoor", sum := "c52f3ef96252959c61809086c8e53e2afc2bb229a770aac20a60137eaee2978f", func := "remontoir/remontoirlaw09.CallerBusy", spec := "callerBusy", unfollowed := true, recurses := true, named := ["remontoir/caller.prices"], plainKeys := false, apart := false, laid := [("remontoir/caller.prices", laid_remontoir_caller_prices)], narrowed := true }
def CallerBusyUptoSaid : Prop := callerBusyUptoRow.holds Tryd.pinned (OpenSpec.upto callerBusySpec)

/-- 'remontoirlaw09.CallerCoin', WHERE WHAT IT READS IS OF BULK AT MOST 1048576: true; the input reads as it did. -/
def callerCoinUptoRow : OpenClaim := { program := "ytidnkmbicedmjaadoor", sum := "c52f3ef96252959c61809086c8e53e2afc2bb229a770aac20a60137eaee2978f", func := "remontoir/remontoirlaw09.CallerCoin", spec := "callerCoin", unfollowed := true, recurses := true, named := ["remontoir/caller.prices"], plainKeys := false, apart := false, laid := [("remontoir/caller.prices", laid_remontoir_caller_prices)], narrowed := true }
def CallerCoinUptoSaid : Prop := callerCoinUptoRow.holds Tryd.pinned (OpenSpec.upto callerCoinSpec)

/-- 'remontoirlaw09.CallerChange', WHERE WHAT IT READS IS OF BULK AT MOST 1048576: true; the input reads as it did. -/
def callerChangeUptoRow : OpenClaim := { program := "ytidnkmbicedmjaadoor", sum := "c52f3ef96252959c61809086c8e53e2afc2bb229a770aac20a60137eaee2978f", func := "remontoir/remontoirlaw09.CallerChange", spec := "callerChange", unfollowed := true, recurses := true, named := ["remontoir/caller.prices"], plainKeys := false, apart := false, laid := [("remontoir/caller.prices", laid_remontoir_caller_prices)], narrowed := true }
def CallerChangeUptoSaid : Prop := callerChangeUptoRow.holds Tryd.pinned (OpenSpec.upto callerChangeSpec)

/-- 'remontoirlaw09.CallerWhich', WHERE WHAT IT READS IS OF BULK AT MOST 1048576: true; the input reads as it did. -/
def callerWhichUptoRow : OpenClaim := { program := "ytidnkmbicedmjaadoor", sum := "c52f3ef96252959c61809086c8e53e2afc2bb229a770aac20a60137eaee2978f", func := "remontoir/remontoirlaw09.CallerWhich", spec := "callerWhich", unfollowed := true, recurses := true, named := ["remontoir/caller.prices"], plainKeys := false, apart := false, laid := [("remontoir/caller.prices", laid_remontoir_caller_prices)], narrowed := true }
def CallerWhichUptoSaid : Prop := callerWhichUptoRow.holds Tryd.pinned (OpenSpec.upto callerWhichSpec)

/-- 'remontoirlaw09.CallerKnown', WHERE WHAT IT READS IS OF BULK AT MOST 1048576: true; the input reads as it did. -/
def callerKnownUptoRow : OpenClaim := { program := "ytidnkmbicedmjaadoor", sum := "c52f3ef96252959c61809086c8e53e2afc2bb229a770aac20a60137eaee2978f", func := "remontoir/remontoirlaw09.CallerKnown", spec := "callerKnown", unfollowed := true, recurses := true, named := ["remontoir/caller.prices"], plainKeys := false, apart := false, laid := [("remontoir/caller.prices", laid_remontoir_caller_prices)], narrowed := true }
def CallerKnownUptoSaid : Prop := callerKnownUptoRow.holds Tryd.pinned (OpenSpec.upto callerKnownSpec)

end Rows
end Go.Proofs.YtidnkmbicedmjaaDoor
