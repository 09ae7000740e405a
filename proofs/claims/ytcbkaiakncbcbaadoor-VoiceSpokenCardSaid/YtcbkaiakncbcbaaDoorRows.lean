/-
  NARROWER THAN 'FOR EVERY INPUT', by the rows' own cells (each row's printed sentence says how): VoiceSays: laid · VoicePlans: laid · VoiceLatests: laid · VoiceDays: laid · VoiceFewest: laid · VoiceCut: laid · VoiceNeeded: laid · VoiceSpoken: laid · VoiceLater: laid · VoiceKnown: laid · VoiceDay: laid.
  DERIVED. THE GIVEN ROWS OF THIS SEAT. 11 by the template 'for every input the law returns true; each argument reads behind the call as it read before'; 0 by the template 'total and deterministic' (their statements: YtcbkaiakncbcbaaDoorTotals.lean).
  GIVEN WITH THE SEED: the statements are not yours to turn. If you find one false, say at which input.
  Laid BY PROGRAM, IN A SANDBOX (cutbox-rows.mjs): the forced cells as the released guide's own fill.sh prints them over the translation a2028058e958d40a… (all of the seat's roots in one cut). By AI agents, Wed Nov 11 2026. No macro, syntax, notation, axiom, sorry.
-/
import Derived.Test.YtcbkaiakncbcbaaDoorChecked
import GoSem.Claim
import GoSem.ClaimJoined
import GoSem.ClaimMapViews
import Derived.JoinedTies
import Derived.KernelRfl
namespace Go.Proofs.YtcbkaiakncbcbaaDoor
/- THE CELL 'sum', in the pinned program and in every row, IS THE sha256 OF THE DUMP (.gsa) THAT YtcbkaiakncbcbaaDoorProg.lean LOADS. Nothing in Lean hashes anything: it is a label: what it is worth is what the hold of that sum in a sandbox is worth. -/
noncomputable def Tryd.pinned : Pinned := { name := "ytcbkaiakncbcbaadoor", sum := "a2028058e958d40a1f7d4c32513171224de4595d781c2ef0cf5e64e6cef3ef80", checked := Tryd.checked }
namespace Rows
def none {H : Type} : Left H := { results := [], args := [] }

/- WHAT THE LISTED PACKAGE-LEVEL VARIABLES READ AS WHEN THE CALL BEGINS. Each datum BY PROGRAM (the guide's laid-datum.mjs) off the statement by which the dump's own 'gosem.cut.vars' lays the variable. In a bare row this is a premise. The card (YtcbkaiakncbcbaaDoorCards.lean) ties it to the program's text. -/
def laid_remontoir_dial_parts {H : Type} : DataW H := .iface "func table" (.agg [.iface "func" (.lit (.string [40, 114, 101, 109, 111, 110, 116, 111, 105, 114, 47, 100, 105, 97, 108, 46, 99, 97, 108, 101, 110, 100, 97, 114, 41, 46, 104, 111, 117, 114])), .iface "func" (.lit (.string [40, 114, 101, 109, 111, 110, 116, 111, 105, 114, 47, 100, 105, 97, 108, 46, 99, 97, 108, 101, 110, 100, 97, 114, 41, 46, 109, 105, 110, 117, 116, 101]))])
def laid_remontoir_voice_parts {H : Type} : DataW H := .iface "func table" (.agg [.iface "func" (.lit (.string [40, 114, 101, 109, 111, 110, 116, 111, 105, 114, 47, 118, 111, 105, 99, 101, 46, 114, 101, 97, 100, 105, 110, 103, 41, 46, 104, 111, 117, 114])), .iface "func" (.lit (.string [40, 114, 101, 109, 111, 110, 116, 111, 105, 114, 47, 118, 111, 105, 99, 101, 46, 114, 101, 97, 100, 105, 110, 103, 41, 46, 109, 105, 110, 117, 116, 101])), .iface "func" (.lit (.string [40, 114, 101, 109, 111, 110, 116, 111, 105, 114, 47, 118, 111, 105, 99, 101, 46, 114, 101, 97, 100, 105, 110, 103, 41, 46, 115, 101, 99, 111, 110, 100]))])

/-- 'remontoirlaw05.VoiceSays': WHATEVER THE INPUT: true; the input reads as it did. -/
def voiceSaysSpec : ChangeSpec := { name := "voiceSays", fn := fun _ => fun
  | [d1, d2, d3] => { results := [.lit (.bool true)], args := [d1, d2, d3] }
  | _ => none }
def voiceSaysRow : OpenClaim := { program := "ytcbkaiakncbcbaadoor", sum := "a2028058e958d40a1f7d4c32513171224de4595d781c2ef0cf5e64e6cef3ef80", func := "remontoir/remontoirlaw05.VoiceSays", spec := "voiceSays", unfollowed := true, recurses := true, named := ["remontoir/voice.parts", "remontoir/dial.parts"], plainKeys := false, apart := false, laid := [("remontoir/dial.parts", laid_remontoir_dial_parts), ("remontoir/voice.parts", laid_remontoir_voice_parts)] }
def VoiceSaysSaid : Prop := voiceSaysRow.holds Tryd.pinned (OpenSpec.ofChange voiceSaysSpec)

/-- ITS FALSE NEIGHBOUR: 'it returns false'. Refute it at one input. -/
def voiceSaysWrong : ChangeSpec := { name := "voiceSays", fn := fun _ => fun
  | [d1, d2, d3] => { results := [.lit (.bool false)], args := [d1, d2, d3] }
  | _ => none }
def VoiceSaysWrongFalsely : Prop := voiceSaysRow.holds Tryd.pinned (OpenSpec.ofChange voiceSaysWrong)

/-- 'remontoirlaw05.VoicePlans': WHATEVER THE INPUT: true; the input reads as it did. -/
def voicePlansSpec : ChangeSpec := { name := "voicePlans", fn := fun _ => fun
  | [d1, d2, d3] => { results := [.lit (.bool true)], args := [d1, d2, d3] }
  | _ => none }
def voicePlansRow : OpenClaim := { program := "ytcbkaiakncbcbaadoor", sum := "a2028058e958d40a1f7d4c32513171224de4595d781c2ef0cf5e64e6cef3ef80", func := "remontoir/remontoirlaw05.VoicePlans", spec := "voicePlans", unfollowed := true, recurses := true, named := ["remontoir/voice.parts", "remontoir/dial.parts"], plainKeys := false, apart := false, laid := [("remontoir/dial.parts", laid_remontoir_dial_parts), ("remontoir/voice.parts", laid_remontoir_voice_parts)] }
def VoicePlansSaid : Prop := voicePlansRow.holds Tryd.pinned (OpenSpec.ofChange voicePlansSpec)

/-- ITS FALSE NEIGHBOUR: 'it returns false'. Refute it at one input. -/
def voicePlansWrong : ChangeSpec := { name := "voicePlans", fn := fun _ => fun
  | [d1, d2, d3] => { results := [.lit (.bool false)], args := [d1, d2, d3] }
  | _ => none }
def VoicePlansWrongFalsely : Prop := voicePlansRow.holds Tryd.pinned (OpenSpec.ofChange voicePlansWrong)

/-- 'remontoirlaw05.VoiceLatests': WHATEVER THE INPUT: true; the input reads as it did. -/
def voiceLatestsSpec : ChangeSpec := { name := "voiceLatests", fn := fun _ => fun
  | [d1, d2] => { results := [.lit (.bool true)], args := [d1, d2] }
  | _ => none }
def voiceLatestsRow : OpenClaim := { program := "ytcbkaiakncbcbaadoor", sum := "a2028058e958d40a1f7d4c32513171224de4595d781c2ef0cf5e64e6cef3ef80", func := "remontoir/remontoirlaw05.VoiceLatests", spec := "voiceLatests", unfollowed := true, recurses := true, named := ["remontoir/voice.parts", "remontoir/dial.parts"], plainKeys := false, apart := false, laid := [("remontoir/dial.parts", laid_remontoir_dial_parts), ("remontoir/voice.parts", laid_remontoir_voice_parts)] }
def VoiceLatestsSaid : Prop := voiceLatestsRow.holds Tryd.pinned (OpenSpec.ofChange voiceLatestsSpec)

/-- ITS FALSE NEIGHBOUR: 'it returns false'. Refute it at one input. -/
def voiceLatestsWrong : ChangeSpec := { name := "voiceLatests", fn := fun _ => fun
  | [d1, d2] => { results := [.lit (.bool false)], args := [d1, d2] }
  | _ => none }
def VoiceLatestsWrongFalsely : Prop := voiceLatestsRow.holds Tryd.pinned (OpenSpec.ofChange voiceLatestsWrong)

/-- 'remontoirlaw05.VoiceDays': WHATEVER THE INPUT: true; the input reads as it did. -/
def voiceDaysSpec : ChangeSpec := { name := "voiceDays", fn := fun _ => fun
  | [d1, d2, d3] => { results := [.lit (.bool true)], args := [d1, d2, d3] }
  | _ => none }
def voiceDaysRow : OpenClaim := { program := "ytcbkaiakncbcbaadoor", sum := "a2028058e958d40a1f7d4c32513171224de4595d781c2ef0cf5e64e6cef3ef80", func := "remontoir/remontoirlaw05.VoiceDays", spec := "voiceDays", unfollowed := true, recurses := true, named := ["remontoir/dial.parts", "remontoir/voice.parts"], plainKeys := false, apart := false, laid := [("remontoir/dial.parts", laid_remontoir_dial_parts), ("remontoir/voice.parts", laid_remontoir_voice_parts)] }
def VoiceDaysSaid : Prop := voiceDaysRow.holds Tryd.pinned (OpenSpec.ofChange voiceDaysSpec)

/-- ITS FALSE NEIGHBOUR: 'it returns false'. Refute it at one input. -/
def voiceDaysWrong : ChangeSpec := { name := "voiceDays", fn := fun _ => fun
  | [d1, d2, d3] => { results := [.lit (.bool false)], args := [d1, d2, d3] }
  | _ => none }
def VoiceDaysWrongFalsely : Prop := voiceDaysRow.holds Tryd.pinned (OpenSpec.ofChange voiceDaysWrong)

/-- 'remontoirlaw05.VoiceFewest': WHATEVER THE INPUT: true; the input reads as it did. -/
def voiceFewestSpec : ChangeSpec := { name := "voiceFewest", fn := fun _ => fun
  | [d1, d2] => { results := [.lit (.bool true)], args := [d1, d2] }
  | _ => none }
def voiceFewestRow : OpenClaim := { program := "ytcbkaiakncbcbaadoor", sum := "a2028058e958d40a1f7d4c32513171224de4595d781c2ef0cf5e64e6cef3ef80", func := "remontoir/remontoirlaw05.VoiceFewest", spec := "voiceFewest", unfollowed := true, recurses := true, named := ["remontoir/voice.parts", "remontoir/dial.parts"], plainKeys := false, apart := false, laid := [("remontoir/dial.parts", laid_remontoir_dial_parts), ("remontoir/voice.parts", laid_remontoir_voice_parts)] }
def VoiceFewestSaid : Prop := voiceFewestRow.holds Tryd.pinned (OpenSpec.ofChange voiceFewestSpec)

/-- ITS FALSE NEIGHBOUR: 'it returns false'. Refute it at one input. -/
def voiceFewestWrong : ChangeSpec := { name := "voiceFewest", fn := fun _ => fun
  | [d1, d2] => { results := [.lit (.bool false)], args := [d1, d2] }
  | _ => none }
def VoiceFewestWrongFalsely : Prop := voiceFewestRow.holds Tryd.pinned (OpenSpec.ofChange voiceFewestWrong)

/-- 'remontoirlaw05.VoiceCut': WHATEVER THE INPUT: true; the input reads as it did. -/
def voiceCutSpec : ChangeSpec := { name := "voiceCut", fn := fun _ => fun
  | [d1, d2, d3] => { results := [.lit (.bool true)], args := [d1, d2, d3] }
  | _ => none }
def voiceCutRow : OpenClaim := { program := "ytcbkaiakncbcbaadoor", sum := "a2028058e958d40a1f7d4c32513171224de4595d781c2ef0cf5e64e6cef3ef80", func := "remontoir/remontoirlaw05.VoiceCut", spec := "voiceCut", unfollowed := true, recurses := true, named := ["remontoir/voice.parts", "remontoir/dial.parts"], plainKeys := false, apart := false, laid := [("remontoir/dial.parts", laid_remontoir_dial_parts), ("remontoir/voice.parts", laid_remontoir_voice_parts)] }
def VoiceCutSaid : Prop := voiceCutRow.holds Tryd.pinned (OpenSpec.ofChange voiceCutSpec)

/-- ITS FALSE NEIGHBOUR: 'it returns false'. Refute it at one input. -/
def voiceCutWrong : ChangeSpec := { name := "voiceCut", fn := fun _ => fun
  | [d1, d2, d3] => { results := [.lit (.bool false)], args := [d1, d2, d3] }
  | _ => none }
def VoiceCutWrongFalsely : Prop := voiceCutRow.holds Tryd.pinned (OpenSpec.ofChange voiceCutWrong)

/-- 'remontoirlaw05.VoiceNeeded': WHATEVER THE INPUT: true; the input reads as it did. -/
def voiceNeededSpec : ChangeSpec := { name := "voiceNeeded", fn := fun _ => fun
  | [d1, d2, d3] => { results := [.lit (.bool true)], args := [d1, d2, d3] }
  | _ => none }
def voiceNeededRow : OpenClaim := { program := "ytcbkaiakncbcbaadoor", sum := "a2028058e958d40a1f7d4c32513171224de4595d781c2ef0cf5e64e6cef3ef80", func := "remontoir/remontoirlaw05.VoiceNeeded", spec := "voiceNeeded", unfollowed := true, recurses := true, named := ["remontoir/voice.parts", "remontoir/dial.parts"], plainKeys := false, apart := false, laid := [("remontoir/dial.parts", laid_remontoir_dial_parts), ("remontoir/voice.parts", laid_remontoir_voice_parts)] }
def VoiceNeededSaid : Prop := voiceNeededRow.holds Tryd.pinned (OpenSpec.ofChange voiceNeededSpec)

/-- ITS FALSE NEIGHBOUR: 'it returns false'. Refute it at one input. -/
def voiceNeededWrong : ChangeSpec := { name := "voiceNeeded", fn := fun _ => fun
  | [d1, d2, d3] => { results := [.lit (.bool false)], args := [d1, d2, d3] }
  | _ => none }
def VoiceNeededWrongFalsely : Prop := voiceNeededRow.holds Tryd.pinned (OpenSpec.ofChange voiceNeededWrong)

/-- 'remontoirlaw05.VoiceSpoken': WHATEVER THE INPUT: true; the input reads as it did. -/
def voiceSpokenSpec : ChangeSpec := { name := "voiceSpoken", fn := fun _ => fun
  | [d1, d2, d3] => { results := [.lit (.bool true)], args := [d1, d2, d3] }
  | _ => none }
def voiceSpokenRow : OpenClaim := { program := "ytcbkaiakncbcbaadoor", sum := "a2028058e958d40a1f7d4c32513171224de4595d781c2ef0cf5e64e6cef3ef80", func := "remontoir/remontoirlaw05.VoiceSpoken", spec := "voiceSpoken", unfollowed := true, recurses := true, named := ["remontoir/voice.parts", "remontoir/dial.parts"], plainKeys := false, apart := false, laid := [("remontoir/dial.parts", laid_remontoir_dial_parts), ("remontoir/voice.parts", laid_remontoir_voice_parts)] }
def VoiceSpokenSaid : Prop := voiceSpokenRow.holds Tryd.pinned (OpenSpec.ofChange voiceSpokenSpec)

/-- ITS FALSE NEIGHBOUR: 'it returns false'. Refute it at one input. -/
def voiceSpokenWrong : ChangeSpec := { name := "voiceSpoken", fn := fun _ => fun
  | [d1, d2, d3] => { results := [.lit (.bool false)], args := [d1, d2, d3] }
  | _ => none }
def VoiceSpokenWrongFalsely : Prop := voiceSpokenRow.holds Tryd.pinned (OpenSpec.ofChange voiceSpokenWrong)

/-- 'remontoirlaw05.VoiceLater': WHATEVER THE INPUT: true; the input reads as it did. -/
def voiceLaterSpec : ChangeSpec := { name := "voiceLater", fn := fun _ => fun
  | [d1, d2, d3] => { results := [.lit (.bool true)], args := [d1, d2, d3] }
  | _ => none }
def voiceLaterRow : OpenClaim := { program := "ytcbkaiakncbcbaadoor", sum := "a2028058e958d40a1f7d4c32513171224de4595d781c2ef0cf5e64e6cef3ef80", func := "remontoir/remontoirlaw05.VoiceLater", spec := "voiceLater", unfollowed := true, recurses := true, named := ["remontoir/voice.parts", "remontoir/dial.parts"], plainKeys := false, apart := false, laid := [("remontoir/dial.parts", laid_remontoir_dial_parts), ("remontoir/voice.parts", laid_remontoir_voice_parts)] }
def VoiceLaterSaid : Prop := voiceLaterRow.holds Tryd.pinned (OpenSpec.ofChange voiceLaterSpec)

/-- ITS FALSE NEIGHBOUR: 'it returns false'. Refute it at one input. -/
def voiceLaterWrong : ChangeSpec := { name := "voiceLater", fn := fun _ => fun
  | [d1, d2, d3] => { results := [.lit (.bool false)], args := [d1, d2, d3] }
  | _ => none }
def VoiceLaterWrongFalsely : Prop := voiceLaterRow.holds Tryd.pinned (OpenSpec.ofChange voiceLaterWrong)

/-- 'remontoirlaw05.VoiceKnown': WHATEVER THE INPUT: true; the input reads as it did. -/
def voiceKnownSpec : ChangeSpec := { name := "voiceKnown", fn := fun _ => fun
  | [] => { results := [.lit (.bool true)], args := [] }
  | _ => none }
def voiceKnownRow : OpenClaim := { program := "ytcbkaiakncbcbaadoor", sum := "a2028058e958d40a1f7d4c32513171224de4595d781c2ef0cf5e64e6cef3ef80", func := "remontoir/remontoirlaw05.VoiceKnown", spec := "voiceKnown", unfollowed := true, recurses := true, named := ["remontoir/dial.parts", "remontoir/voice.parts"], plainKeys := false, apart := false, laid := [("remontoir/dial.parts", laid_remontoir_dial_parts), ("remontoir/voice.parts", laid_remontoir_voice_parts)] }
def VoiceKnownSaid : Prop := voiceKnownRow.holds Tryd.pinned (OpenSpec.ofChange voiceKnownSpec)

/-- ITS FALSE NEIGHBOUR: 'it returns false'. Refute it at one input. -/
def voiceKnownWrong : ChangeSpec := { name := "voiceKnown", fn := fun _ => fun
  | [] => { results := [.lit (.bool false)], args := [] }
  | _ => none }
def VoiceKnownWrongFalsely : Prop := voiceKnownRow.holds Tryd.pinned (OpenSpec.ofChange voiceKnownWrong)

/-- 'remontoirlaw05.VoiceDay': WHATEVER THE INPUT: true; the input reads as it did. -/
def voiceDaySpec : ChangeSpec := { name := "voiceDay", fn := fun _ => fun
  | [d1, d2, d3] => { results := [.lit (.bool true)], args := [d1, d2, d3] }
  | _ => none }
def voiceDayRow : OpenClaim := { program := "ytcbkaiakncbcbaadoor", sum := "a2028058e958d40a1f7d4c32513171224de4595d781c2ef0cf5e64e6cef3ef80", func := "remontoir/remontoirlaw05.VoiceDay", spec := "voiceDay", unfollowed := true, recurses := true, named := ["remontoir/voice.parts", "remontoir/dial.parts"], plainKeys := false, apart := false, laid := [("remontoir/dial.parts", laid_remontoir_dial_parts), ("remontoir/voice.parts", laid_remontoir_voice_parts)] }
def VoiceDaySaid : Prop := voiceDayRow.holds Tryd.pinned (OpenSpec.ofChange voiceDaySpec)

/-- ITS FALSE NEIGHBOUR: 'it returns false'. Refute it at one input. -/
def voiceDayWrong : ChangeSpec := { name := "voiceDay", fn := fun _ => fun
  | [d1, d2, d3] => { results := [.lit (.bool false)], args := [d1, d2, d3] }
  | _ => none }
def VoiceDayWrongFalsely : Prop := voiceDayRow.holds Tryd.pinned (OpenSpec.ofChange voiceDayWrong)

/- THE SECOND FORM. 'bulk': how many values and letters a reading holds, each counted each time it is reached (what is shared counts as often as it is met; a slice's spare places count too). A statement '..UptoSaid' is the law's where the arguments, and the package variables that the reading takes, are together of bulk at most 1048576: NARROWER than '..Said'. Prove '..Said' where nothing that the law and all that it calls make is longer than what came in: it says more and counts as full. Else prove '..UptoSaid'. A law counts once. -/
mutual
def uptoBulk {H : Type} : DataW H → Nat
  | .lit (.string bytes) => bytes.length + 1
  | .lit _ => 1
  | .nil => 1
  | .ptr d => uptoBulk d + 1
  | .slice elems spare => uptoBulkAll elems + uptoBulkAll spare + 1
  | .agg parts => uptoBulkAll parts + 1
  | .iface _ d => uptoBulk d + 1
  | .map entries => uptoBulkEntries entries + 1
  | .held _ => 1
def uptoBulkAll {H : Type} : List (DataW H) → Nat
  | [] => 0
  | d :: r => uptoBulk d + uptoBulkAll r
def uptoBulkEntries {H : Type} : List (Lit × DataW H) → Nat
  | [] => 0
  | x :: r => uptoBulkEntry x + uptoBulkEntries r
def uptoBulkEntry {H : Type} : Lit × DataW H → Nat
  | (.string bytes, d) => bytes.length + uptoBulk d + 1
  | (_, d) => uptoBulk d + 1
 end
def uptoSmall : (H : Type) → List (DataW H) → Bool := fun _ ds => decide (uptoBulkAll ds ≤ 1048576)
def OpenSpec.upto (s : _root_.Go.ChangeSpec) : _root_.Go.OpenSpec := { _root_.Go.OpenSpec.ofChange s with cond := some uptoSmall }

/-- 'remontoirlaw05.VoiceSays', WHERE WHAT IT READS IS OF BULK AT MOST 1048576: true; the input reads as it did. -/
def voiceSaysUptoRow : OpenClaim := { program := "ytcbkaiakncbcbaadoor", sum := "a2028058e958d40a1f7d4c32513171224de4595d781c2ef0cf5e64e6cef3ef80", func := "remontoir/remontoirlaw05.VoiceSays", spec := "voiceSays", unfollowed := true, recurses := true, named := ["remontoir/voice.parts", "remontoir/dial.parts"], plainKeys := false, apart := false, laid := [("remontoir/dial.parts", laid_remontoir_dial_parts), ("remontoir/voice.parts", laid_remontoir_voice_parts)], narrowed := true }
def VoiceSaysUptoSaid : Prop := voiceSaysUptoRow.holds Tryd.pinned (OpenSpec.upto voiceSaysSpec)

/-- 'remontoirlaw05.VoicePlans', WHERE WHAT IT READS IS OF BULK AT MOST 1048576: true; the input reads as it did. -/
def voicePlansUptoRow : OpenClaim := { program := "ytcbkaiakncbcbaadoor", sum := "a2028058e958d40a1f7d4c32513171224de4595d781c2ef0cf5e64e6cef3ef80", func := "remontoir/remontoirlaw05.VoicePlans", spec := "voicePlans", unfollowed := true, recurses := true, named := ["remontoir/voice.parts", "remontoir/dial.parts"], plainKeys := false, apart := false, laid := [("remontoir/dial.parts", laid_remontoir_dial_parts), ("remontoir/voice.parts", laid_remontoir_voice_parts)], narrowed := true }
def VoicePlansUptoSaid : Prop := voicePlansUptoRow.holds Tryd.pinned (OpenSpec.upto voicePlansSpec)

/-- 'remontoirlaw05.VoiceLatests', WHERE WHAT IT READS IS OF BULK AT MOST 1048576: true; the input reads as it did. -/
def voiceLatestsUptoRow : OpenClaim := { program := "ytcbkaiakncbcbaadoor", sum := "a2028058e958d40a1f7d4c32513171224de4595d781c2ef0cf5e64e6cef3ef80", func := "remontoir/remontoirlaw05.VoiceLatests", spec := "voiceLatests", unfollowed := true, recurses := true, named := ["remontoir/voice.parts", "remontoir/dial.parts"], plainKeys := false, apart := false, laid := [("remontoir/dial.parts", laid_remontoir_dial_parts), ("remontoir/voice.parts", laid_remontoir_voice_parts)], narrowed := true }
def VoiceLatestsUptoSaid : Prop := voiceLatestsUptoRow.holds Tryd.pinned (OpenSpec.upto voiceLatestsSpec)

/-- 'remontoirlaw05.VoiceDays', WHERE WHAT IT READS IS OF BULK AT MOST 1048576: true; the input reads as it did. -/
def voiceDaysUptoRow : OpenClaim := { program := "ytcbkaiakncbcbaadoor", sum := "a2028058e958d40a1f7d4c32513171224de4595d781c2ef0cf5e64e6cef3ef80", func := "remontoir/remontoirlaw05.VoiceDays", spec := "voiceDays", unfollowed := true, recurses := true, named := ["remontoir/dial.parts", "remontoir/voice.parts"], plainKeys := false, apart := false, laid := [("remontoir/dial.parts", laid_remontoir_dial_parts), ("remontoir/voice.parts", laid_remontoir_voice_parts)], narrowed := true }
def VoiceDaysUptoSaid : Prop := voiceDaysUptoRow.holds Tryd.pinned (OpenSpec.upto voiceDaysSpec)

/-- 'remontoirlaw05.VoiceFewest', WHERE WHAT IT READS IS OF BULK AT MOST 1048576: true; the input reads as it did. -/
def voiceFewestUptoRow : OpenClaim := { program := "ytcbkaiakncbcbaadoor", sum := "a2028058e958d40a1f7d4c32513171224de4595d781c2ef0cf5e64e6cef3ef80", func := "remontoir/remontoirlaw05.VoiceFewest", spec := "voiceFewest", unfollowed := true, recurses := true, named := ["remontoir/voice.parts", "remontoir/dial.parts"], plainKeys := false, apart := false, laid := [("remontoir/dial.parts", laid_remontoir_dial_parts), ("remontoir/voice.parts", laid_remontoir_voice_parts)], narrowed := true }
def VoiceFewestUptoSaid : Prop := voiceFewestUptoRow.holds Tryd.pinned (OpenSpec.upto voiceFewestSpec)

/-- 'remontoirlaw05.VoiceCut', WHERE WHAT IT READS IS OF BULK AT MOST 1048576: true; the input reads as it did. -/
def voiceCutUptoRow : OpenClaim := { program := "ytcbkaiakncbcbaadoor", sum := "a2028058e958d40a1f7d4c32513171224de4595d781c2ef0cf5e64e6cef3ef80", func := "remontoir/remontoirlaw05.VoiceCut", spec := "voiceCut", unfollowed := true, recurses := true, named := ["remontoir/voice.parts", "remontoir/dial.parts"], plainKeys := false, apart := false, laid := [("remontoir/dial.parts", laid_remontoir_dial_parts), ("remontoir/voice.parts", laid_remontoir_voice_parts)], narrowed := true }
def VoiceCutUptoSaid : Prop := voiceCutUptoRow.holds Tryd.pinned (OpenSpec.upto voiceCutSpec)

/-- 'remontoirlaw05.VoiceNeeded', WHERE WHAT IT READS IS OF BULK AT MOST 1048576: true; the input reads as it did. -/
def voiceNeededUptoRow : OpenClaim := { program := "ytcbkaiakncbcbaadoor", sum := "a2028058e958d40a1f7d4c32513171224de4595d781c2ef0cf5e64e6cef3ef80", func := "remontoir/remontoirlaw05.VoiceNeeded", spec := "voiceNeeded", unfollowed := true, recurses := true, named := ["remontoir/voice.parts", "remontoir/dial.parts"], plainKeys := false, apart := false, laid := [("remontoir/dial.parts", laid_remontoir_dial_parts), ("remontoir/voice.parts", laid_remontoir_voice_parts)], narrowed := true }
def VoiceNeededUptoSaid : Prop := voiceNeededUptoRow.holds Tryd.pinned (OpenSpec.upto voiceNeededSpec)

/-- 'remontoirlaw05.VoiceSpoken', WHERE WHAT IT READS IS OF BULK AT MOST 1048576: true; the input reads as it did. -/
def voiceSpokenUptoRow : OpenClaim := { program := "ytcbkaiakncbcbaadoor", sum := "a2028058e958d40a1f7d4c32513171224de4595d781c2ef0cf5e64e6cef3ef80", func := "remontoir/remontoirlaw05.VoiceSpoken", spec := "voiceSpoken", unfollowed := true, recurses := true, named := ["remontoir/voice.parts", "remontoir/dial.parts"], plainKeys := false, apart := false, laid := [("remontoir/dial.parts", laid_remontoir_dial_parts), ("remontoir/voice.parts", laid_remontoir_voice_parts)], narrowed := true }
def VoiceSpokenUptoSaid : Prop := voiceSpokenUptoRow.holds Tryd.pinned (OpenSpec.upto voiceSpokenSpec)

/-- 'remontoirlaw05.VoiceLater', WHERE WHAT IT READS IS OF BULK AT MOST 1048576: true; the input reads as it did. -/
def voiceLaterUptoRow : OpenClaim := { program := "ytcbkaiakncbcbaadoor", sum := "a2028058e958d40a1f7d4c32513171224de4595d781c2ef0cf5e64e6cef3ef80", func := "remontoir/remontoirlaw05.VoiceLater", spec := "voiceLater", unfollowed := true, recurses := true, named := ["remontoir/voice.parts", "remontoir/dial.parts"], plainKeys := false, apart := false, laid := [("remontoir/dial.parts", laid_remontoir_dial_parts), ("remontoir/voice.parts", laid_remontoir_voice_parts)], narrowed := true }
def VoiceLaterUptoSaid : Prop := voiceLaterUptoRow.holds Tryd.pinned (OpenSpec.upto voiceLaterSpec)

/-- 'remontoirlaw05.VoiceKnown', WHERE WHAT IT READS IS OF BULK AT MOST 1048576: true; the input reads as it did. -/
def voiceKnownUptoRow : OpenClaim := { program := "ytcbkaiakncbcbaadoor", sum := "a2028058e958d40a1f7d4c32513171224de4595d781c2ef0cf5e64e6cef3ef80", func := "remontoir/remontoirlaw05.VoiceKnown", spec := "voiceKnown", unfollowed := true, recurses := true, named := ["remontoir/dial.parts", "remontoir/voice.parts"], plainKeys := false, apart := false, laid := [("remontoir/dial.parts", laid_remontoir_dial_parts), ("remontoir/voice.parts", laid_remontoir_voice_parts)], narrowed := true }
def VoiceKnownUptoSaid : Prop := voiceKnownUptoRow.holds Tryd.pinned (OpenSpec.upto voiceKnownSpec)

/-- 'remontoirlaw05.VoiceDay', WHERE WHAT IT READS IS OF BULK AT MOST 1048576: true; the input reads as it did. -/
def voiceDayUptoRow : OpenClaim := { program := "ytcbkaiakncbcbaadoor", sum := "a2028058e958d40a1f7d4c32513171224de4595d781c2ef0cf5e64e6cef3ef80", func := "remontoir/remontoirlaw05.VoiceDay", spec := "voiceDay", unfollowed := true, recurses := true, named := ["remontoir/voice.parts", "remontoir/dial.parts"], plainKeys := false, apart := false, laid := [("remontoir/dial.parts", laid_remontoir_dial_parts), ("remontoir/voice.parts", laid_remontoir_voice_parts)], narrowed := true }
def VoiceDayUptoSaid : Prop := voiceDayUptoRow.holds Tryd.pinned (OpenSpec.upto voiceDaySpec)

end Rows
end Go.Proofs.YtcbkaiakncbcbaaDoor
