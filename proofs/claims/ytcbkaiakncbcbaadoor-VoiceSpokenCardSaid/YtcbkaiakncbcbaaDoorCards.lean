/-
  DERIVED. GIVEN WITH THE SEED: THE CARDS: each row of YtcbkaiakncbcbaaDoorRows.lean that lists a variable, with what it lists TIED to the program's text (the seventh form; the later family's looks); each row that meets fmt, with fmt's text TOLD by the authors' own Lean function (tested against real Go, not proved from fmt's source: count such statements apart). THE CARD IS WHAT COUNTS. Prove the row's statement (the work); the ties are given (YtcbkaiakncbcbaaDoorTie.lean); close each card by the builder's one call (the guide's Derived/Test/ToyasCard.lean, 'card_holds'). Laid BY PROGRAM, IN A SANDBOX (cutbox-door.mjs). By AI agents, Wed Nov 11 2026. No macro, syntax, notation, axiom, sorry.
-/
import Derived.Test.YtcbkaiakncbcbaaDoorRows
import GoSem.ClaimSeven
namespace Go.Proofs.YtcbkaiakncbcbaaDoor
namespace Rows

/-- THE TIED CARD OF 'remontoirlaw05.VoiceSays'. -/
def voiceSaysCard : Claim7 := { stood := { row := voiceSaysRow, standIns := [], harness := (true, "ce90ba299bcc9bbfbd28bd86fb7c1dd7507d2e26a0809a87db1d8bb629bfd6bf"), looks := false }, kinds := [], alts := [], laidByText := true, laidKinds := [.funcs, .funcs], laidTests := true, laidLooks := .later }
def VoiceSaysCardSaid : Prop := Claim7.holds Tryd.pinned (.plain (OpenSpec.ofChange voiceSaysSpec)) voiceSaysCard

/-- THE TIED CARD OF 'remontoirlaw05.VoicePlans'. -/
def voicePlansCard : Claim7 := { stood := { row := voicePlansRow, standIns := [], harness := (true, "ce90ba299bcc9bbfbd28bd86fb7c1dd7507d2e26a0809a87db1d8bb629bfd6bf"), looks := false }, kinds := [], alts := [], laidByText := true, laidKinds := [.funcs, .funcs], laidTests := true, laidLooks := .later }
def VoicePlansCardSaid : Prop := Claim7.holds Tryd.pinned (.plain (OpenSpec.ofChange voicePlansSpec)) voicePlansCard

/-- THE TIED CARD OF 'remontoirlaw05.VoiceLatests'. -/
def voiceLatestsCard : Claim7 := { stood := { row := voiceLatestsRow, standIns := [], harness := (true, "ce90ba299bcc9bbfbd28bd86fb7c1dd7507d2e26a0809a87db1d8bb629bfd6bf"), looks := false }, kinds := [], alts := [], laidByText := true, laidKinds := [.funcs, .funcs], laidTests := true, laidLooks := .later }
def VoiceLatestsCardSaid : Prop := Claim7.holds Tryd.pinned (.plain (OpenSpec.ofChange voiceLatestsSpec)) voiceLatestsCard

/-- THE TIED CARD OF 'remontoirlaw05.VoiceDays'. -/
def voiceDaysCard : Claim7 := { stood := { row := voiceDaysRow, standIns := [], harness := (true, "ce90ba299bcc9bbfbd28bd86fb7c1dd7507d2e26a0809a87db1d8bb629bfd6bf"), looks := false }, kinds := [], alts := [], laidByText := true, laidKinds := [.funcs, .funcs], laidTests := true, laidLooks := .later }
def VoiceDaysCardSaid : Prop := Claim7.holds Tryd.pinned (.plain (OpenSpec.ofChange voiceDaysSpec)) voiceDaysCard

/-- THE TIED CARD OF 'remontoirlaw05.VoiceFewest'. -/
def voiceFewestCard : Claim7 := { stood := { row := voiceFewestRow, standIns := [], harness := (true, "ce90ba299bcc9bbfbd28bd86fb7c1dd7507d2e26a0809a87db1d8bb629bfd6bf"), looks := false }, kinds := [], alts := [], laidByText := true, laidKinds := [.funcs, .funcs], laidTests := true, laidLooks := .later }
def VoiceFewestCardSaid : Prop := Claim7.holds Tryd.pinned (.plain (OpenSpec.ofChange voiceFewestSpec)) voiceFewestCard

/-- THE TIED CARD OF 'remontoirlaw05.VoiceCut'. -/
def voiceCutCard : Claim7 := { stood := { row := voiceCutRow, standIns := [], harness := (true, "ce90ba299bcc9bbfbd28bd86fb7c1dd7507d2e26a0809a87db1d8bb629bfd6bf"), looks := false }, kinds := [], alts := [], laidByText := true, laidKinds := [.funcs, .funcs], laidTests := true, laidLooks := .later }
def VoiceCutCardSaid : Prop := Claim7.holds Tryd.pinned (.plain (OpenSpec.ofChange voiceCutSpec)) voiceCutCard

/-- THE TIED CARD OF 'remontoirlaw05.VoiceNeeded'. -/
def voiceNeededCard : Claim7 := { stood := { row := voiceNeededRow, standIns := [], harness := (true, "ce90ba299bcc9bbfbd28bd86fb7c1dd7507d2e26a0809a87db1d8bb629bfd6bf"), looks := false }, kinds := [], alts := [], laidByText := true, laidKinds := [.funcs, .funcs], laidTests := true, laidLooks := .later }
def VoiceNeededCardSaid : Prop := Claim7.holds Tryd.pinned (.plain (OpenSpec.ofChange voiceNeededSpec)) voiceNeededCard

/-- THE TIED CARD OF 'remontoirlaw05.VoiceSpoken'. -/
def voiceSpokenCard : Claim7 := { stood := { row := voiceSpokenRow, standIns := [], harness := (true, "ce90ba299bcc9bbfbd28bd86fb7c1dd7507d2e26a0809a87db1d8bb629bfd6bf"), looks := false }, kinds := [], alts := [], laidByText := true, laidKinds := [.funcs, .funcs], laidTests := true, laidLooks := .later }
def VoiceSpokenCardSaid : Prop := Claim7.holds Tryd.pinned (.plain (OpenSpec.ofChange voiceSpokenSpec)) voiceSpokenCard

/-- THE TIED CARD OF 'remontoirlaw05.VoiceLater'. -/
def voiceLaterCard : Claim7 := { stood := { row := voiceLaterRow, standIns := [], harness := (true, "ce90ba299bcc9bbfbd28bd86fb7c1dd7507d2e26a0809a87db1d8bb629bfd6bf"), looks := false }, kinds := [], alts := [], laidByText := true, laidKinds := [.funcs, .funcs], laidTests := true, laidLooks := .later }
def VoiceLaterCardSaid : Prop := Claim7.holds Tryd.pinned (.plain (OpenSpec.ofChange voiceLaterSpec)) voiceLaterCard

/-- THE TIED CARD OF 'remontoirlaw05.VoiceKnown'. -/
def voiceKnownCard : Claim7 := { stood := { row := voiceKnownRow, standIns := [], harness := (true, "ce90ba299bcc9bbfbd28bd86fb7c1dd7507d2e26a0809a87db1d8bb629bfd6bf"), looks := false }, kinds := [], alts := [], laidByText := true, laidKinds := [.funcs, .funcs], laidTests := true, laidLooks := .later }
def VoiceKnownCardSaid : Prop := Claim7.holds Tryd.pinned (.plain (OpenSpec.ofChange voiceKnownSpec)) voiceKnownCard

/-- THE TIED CARD OF 'remontoirlaw05.VoiceDay'. -/
def voiceDayCard : Claim7 := { stood := { row := voiceDayRow, standIns := [], harness := (true, "ce90ba299bcc9bbfbd28bd86fb7c1dd7507d2e26a0809a87db1d8bb629bfd6bf"), looks := false }, kinds := [], alts := [], laidByText := true, laidKinds := [.funcs, .funcs], laidTests := true, laidLooks := .later }
def VoiceDayCardSaid : Prop := Claim7.holds Tryd.pinned (.plain (OpenSpec.ofChange voiceDaySpec)) voiceDayCard

/-- THE SECOND FORM's CARD OF 'remontoirlaw05.VoiceSays'. -/
def voiceSaysUptoCard : Claim7 := { stood := { row := voiceSaysUptoRow, standIns := [], harness := (true, "ce90ba299bcc9bbfbd28bd86fb7c1dd7507d2e26a0809a87db1d8bb629bfd6bf"), looks := false }, kinds := [], alts := [], laidByText := true, laidKinds := [.funcs, .funcs], laidTests := true, laidLooks := .later }
def VoiceSaysUptoCardSaid : Prop := Claim7.holds Tryd.pinned (.plain (OpenSpec.upto voiceSaysSpec)) voiceSaysUptoCard

/-- THE SECOND FORM's CARD OF 'remontoirlaw05.VoicePlans'. -/
def voicePlansUptoCard : Claim7 := { stood := { row := voicePlansUptoRow, standIns := [], harness := (true, "ce90ba299bcc9bbfbd28bd86fb7c1dd7507d2e26a0809a87db1d8bb629bfd6bf"), looks := false }, kinds := [], alts := [], laidByText := true, laidKinds := [.funcs, .funcs], laidTests := true, laidLooks := .later }
def VoicePlansUptoCardSaid : Prop := Claim7.holds Tryd.pinned (.plain (OpenSpec.upto voicePlansSpec)) voicePlansUptoCard

/-- THE SECOND FORM's CARD OF 'remontoirlaw05.VoiceLatests'. -/
def voiceLatestsUptoCard : Claim7 := { stood := { row := voiceLatestsUptoRow, standIns := [], harness := (true, "ce90ba299bcc9bbfbd28bd86fb7c1dd7507d2e26a0809a87db1d8bb629bfd6bf"), looks := false }, kinds := [], alts := [], laidByText := true, laidKinds := [.funcs, .funcs], laidTests := true, laidLooks := .later }
def VoiceLatestsUptoCardSaid : Prop := Claim7.holds Tryd.pinned (.plain (OpenSpec.upto voiceLatestsSpec)) voiceLatestsUptoCard

/-- THE SECOND FORM's CARD OF 'remontoirlaw05.VoiceDays'. -/
def voiceDaysUptoCard : Claim7 := { stood := { row := voiceDaysUptoRow, standIns := [], harness := (true, "ce90ba299bcc9bbfbd28bd86fb7c1dd7507d2e26a0809a87db1d8bb629bfd6bf"), looks := false }, kinds := [], alts := [], laidByText := true, laidKinds := [.funcs, .funcs], laidTests := true, laidLooks := .later }
def VoiceDaysUptoCardSaid : Prop := Claim7.holds Tryd.pinned (.plain (OpenSpec.upto voiceDaysSpec)) voiceDaysUptoCard

/-- THE SECOND FORM's CARD OF 'remontoirlaw05.VoiceFewest'. -/
def voiceFewestUptoCard : Claim7 := { stood := { row := voiceFewestUptoRow, standIns := [], harness := (true, "ce90ba299bcc9bbfbd28bd86fb7c1dd7507d2e26a0809a87db1d8bb629bfd6bf"), looks := false }, kinds := [], alts := [], laidByText := true, laidKinds := [.funcs, .funcs], laidTests := true, laidLooks := .later }
def VoiceFewestUptoCardSaid : Prop := Claim7.holds Tryd.pinned (.plain (OpenSpec.upto voiceFewestSpec)) voiceFewestUptoCard

/-- THE SECOND FORM's CARD OF 'remontoirlaw05.VoiceCut'. -/
def voiceCutUptoCard : Claim7 := { stood := { row := voiceCutUptoRow, standIns := [], harness := (true, "ce90ba299bcc9bbfbd28bd86fb7c1dd7507d2e26a0809a87db1d8bb629bfd6bf"), looks := false }, kinds := [], alts := [], laidByText := true, laidKinds := [.funcs, .funcs], laidTests := true, laidLooks := .later }
def VoiceCutUptoCardSaid : Prop := Claim7.holds Tryd.pinned (.plain (OpenSpec.upto voiceCutSpec)) voiceCutUptoCard

/-- THE SECOND FORM's CARD OF 'remontoirlaw05.VoiceNeeded'. -/
def voiceNeededUptoCard : Claim7 := { stood := { row := voiceNeededUptoRow, standIns := [], harness := (true, "ce90ba299bcc9bbfbd28bd86fb7c1dd7507d2e26a0809a87db1d8bb629bfd6bf"), looks := false }, kinds := [], alts := [], laidByText := true, laidKinds := [.funcs, .funcs], laidTests := true, laidLooks := .later }
def VoiceNeededUptoCardSaid : Prop := Claim7.holds Tryd.pinned (.plain (OpenSpec.upto voiceNeededSpec)) voiceNeededUptoCard

/-- THE SECOND FORM's CARD OF 'remontoirlaw05.VoiceSpoken'. -/
def voiceSpokenUptoCard : Claim7 := { stood := { row := voiceSpokenUptoRow, standIns := [], harness := (true, "ce90ba299bcc9bbfbd28bd86fb7c1dd7507d2e26a0809a87db1d8bb629bfd6bf"), looks := false }, kinds := [], alts := [], laidByText := true, laidKinds := [.funcs, .funcs], laidTests := true, laidLooks := .later }
def VoiceSpokenUptoCardSaid : Prop := Claim7.holds Tryd.pinned (.plain (OpenSpec.upto voiceSpokenSpec)) voiceSpokenUptoCard

/-- THE SECOND FORM's CARD OF 'remontoirlaw05.VoiceLater'. -/
def voiceLaterUptoCard : Claim7 := { stood := { row := voiceLaterUptoRow, standIns := [], harness := (true, "ce90ba299bcc9bbfbd28bd86fb7c1dd7507d2e26a0809a87db1d8bb629bfd6bf"), looks := false }, kinds := [], alts := [], laidByText := true, laidKinds := [.funcs, .funcs], laidTests := true, laidLooks := .later }
def VoiceLaterUptoCardSaid : Prop := Claim7.holds Tryd.pinned (.plain (OpenSpec.upto voiceLaterSpec)) voiceLaterUptoCard

/-- THE SECOND FORM's CARD OF 'remontoirlaw05.VoiceKnown'. -/
def voiceKnownUptoCard : Claim7 := { stood := { row := voiceKnownUptoRow, standIns := [], harness := (true, "ce90ba299bcc9bbfbd28bd86fb7c1dd7507d2e26a0809a87db1d8bb629bfd6bf"), looks := false }, kinds := [], alts := [], laidByText := true, laidKinds := [.funcs, .funcs], laidTests := true, laidLooks := .later }
def VoiceKnownUptoCardSaid : Prop := Claim7.holds Tryd.pinned (.plain (OpenSpec.upto voiceKnownSpec)) voiceKnownUptoCard

/-- THE SECOND FORM's CARD OF 'remontoirlaw05.VoiceDay'. -/
def voiceDayUptoCard : Claim7 := { stood := { row := voiceDayUptoRow, standIns := [], harness := (true, "ce90ba299bcc9bbfbd28bd86fb7c1dd7507d2e26a0809a87db1d8bb629bfd6bf"), looks := false }, kinds := [], alts := [], laidByText := true, laidKinds := [.funcs, .funcs], laidTests := true, laidLooks := .later }
def VoiceDayUptoCardSaid : Prop := Claim7.holds Tryd.pinned (.plain (OpenSpec.upto voiceDaySpec)) voiceDayUptoCard
end Rows
end Go.Proofs.YtcbkaiakncbcbaaDoor
