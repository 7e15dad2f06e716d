/-
  DERIVED. GIVEN WITH THE SEED: THE CARDS: each row of YtphnfbjbpbfpkaaDoorRows.lean that lists a variable, with what it lists TIED to the program's text (the seventh form; the later family's looks); each row that meets fmt, with fmt's text TOLD by the authors' own Lean function (tested against real Go, not proved from fmt's source: count such statements apart). THE CARD IS WHAT COUNTS. Prove the row's statement (the work); the ties are given (YtphnfbjbpbfpkaaDoorTie.lean); close each card by the builder's one call (the guide's Derived/Test/ToyasCard.lean, 'card_holds'). Laid BY PROGRAM, IN A SANDBOX (cutbox-door.mjs). By AI agents, Wed Nov 11 2026. No macro, syntax, notation, axiom, sorry.
-/
import Derived.Test.YtphnfbjbpbfpkaaDoorRows
import GoSem.ClaimSeven
namespace Go.Proofs.YtphnfbjbpbfpkaaDoor
namespace Rows

/-- THE TIED CARD OF 'spigotlaw12.AskBack'. -/
def askBackCard : Claim7 := { stood := { row := askBackRow, standIns := [], harness := (true, "28ec866dfd0fba9a54f6e286f0de0d0060c6a6ee98ea3290fcbba26bdb70a617"), looks := true }, kinds := [], alts := [], laidByText := true, laidKinds := [.data, .data, .data, .data, .pinned], laidTests := true, laidLooks := .later }
def AskBackCardSaid : Prop := Claim7.holds Tryd.pinned (.plain (OpenSpec.ofChange askBackSpec)) askBackCard

/-- THE TIED CARD OF 'spigotlaw12.AskSound'. -/
def askSoundCard : Claim7 := { stood := { row := askSoundRow, standIns := [], harness := (true, "28ec866dfd0fba9a54f6e286f0de0d0060c6a6ee98ea3290fcbba26bdb70a617"), looks := true }, kinds := [], alts := [], laidByText := true, laidKinds := [.data, .data, .data, .data, .pinned], laidTests := true, laidLooks := .later }
def AskSoundCardSaid : Prop := Claim7.holds Tryd.pinned (.plain (OpenSpec.ofChange askSoundSpec)) askSoundCard

/-- THE SECOND FORM's CARD OF 'spigotlaw12.AskBack'. -/
def askBackUptoCard : Claim7 := { stood := { row := askBackUptoRow, standIns := [], harness := (true, "28ec866dfd0fba9a54f6e286f0de0d0060c6a6ee98ea3290fcbba26bdb70a617"), looks := true }, kinds := [], alts := [], laidByText := true, laidKinds := [.data, .data, .data, .data, .pinned], laidTests := true, laidLooks := .later }
def AskBackUptoCardSaid : Prop := Claim7.holds Tryd.pinned (.plain (OpenSpec.upto askBackSpec)) askBackUptoCard

/-- THE SECOND FORM's CARD OF 'spigotlaw12.AskSound'. -/
def askSoundUptoCard : Claim7 := { stood := { row := askSoundUptoRow, standIns := [], harness := (true, "28ec866dfd0fba9a54f6e286f0de0d0060c6a6ee98ea3290fcbba26bdb70a617"), looks := true }, kinds := [], alts := [], laidByText := true, laidKinds := [.data, .data, .data, .data, .pinned], laidTests := true, laidLooks := .later }
def AskSoundUptoCardSaid : Prop := Claim7.holds Tryd.pinned (.plain (OpenSpec.upto askSoundSpec)) askSoundUptoCard
end Rows
end Go.Proofs.YtphnfbjbpbfpkaaDoor
