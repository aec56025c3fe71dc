/-
  DERIVED. GIVEN WITH THE SEED: THE CARDS: each row of YtkhadodoabjdoaaGreatDoorRows.lean that lists a variable, with what it lists TIED to the program's text (the seventh form; the later family's looks); each row that meets fmt, with fmt's text TOLD by the authors' own Lean function (tested against real Go, not proved from fmt's source: count such statements apart). THE CARD IS WHAT COUNTS. Prove the row's statement (the work); the ties are given (YtkhadodoabjdoaaGreatDoorTie.lean); close each card by the builder's one call (the guide's Derived/Test/ToyasCard.lean, 'card_holds'). Laid BY PROGRAM, IN A SANDBOX (cutbox-door.mjs). By AI agents, Wed Nov 11 2026. No macro, syntax, notation, axiom, sorry.
-/
import Derived.Test.YtkhadodoabjdoaaGreatDoorRows
import GoSem.ClaimSeven
namespace Go.Proofs.YtkhadodoabjdoaaGreatDoor
namespace Rows

/-- THE TIED CARD OF 'lamplighterlaw24.TransferSound'. -/
def transferSoundCard : Claim7 := { stood := { row := transferSoundRow, standIns := [], harness := (true, "fc28e0d0de36e244b291480535fe91210b917a62774673a6bfd167666d4ddfc1"), looks := false }, kinds := [], alts := [], laidByText := true, laidKinds := [.data, .data, .widerDeep, .funcs], laidTests := true, laidLooks := .later }
def TransferSoundCardSaid : Prop := Claim7.holds Tryz.pinned (.plain (OpenSpec.ofChange transferSoundSpec)) transferSoundCard

/-- THE TIED CARD OF 'lamplighterlaw24.TransferGrows'. -/
def transferGrowsCard : Claim7 := { stood := { row := transferGrowsRow, standIns := [], harness := (true, "fc28e0d0de36e244b291480535fe91210b917a62774673a6bfd167666d4ddfc1"), looks := false }, kinds := [], alts := [], laidByText := true, laidKinds := [.data, .data, .widerDeep, .funcs], laidTests := true, laidLooks := .later }
def TransferGrowsCardSaid : Prop := Claim7.holds Tryz.pinned (.plain (OpenSpec.ofChange transferGrowsSpec)) transferGrowsCard

/-- THE TIED CARD OF 'lamplighterlaw24.TransferExact'. -/
def transferExactCard : Claim7 := { stood := { row := transferExactRow, standIns := [], harness := (true, "fc28e0d0de36e244b291480535fe91210b917a62774673a6bfd167666d4ddfc1"), looks := false }, kinds := [], alts := [], laidByText := true, laidKinds := [.data, .data, .widerDeep, .funcs], laidTests := true, laidLooks := .later }
def TransferExactCardSaid : Prop := Claim7.holds Tryz.pinned (.plain (OpenSpec.ofChange transferExactSpec)) transferExactCard

/-- THE TIED CARD OF 'lamplighterlaw24.TransferNames'. -/
def transferNamesCard : Claim7 := { stood := { row := transferNamesRow, standIns := [], harness := (true, "fc28e0d0de36e244b291480535fe91210b917a62774673a6bfd167666d4ddfc1"), looks := false }, kinds := [], alts := [], laidByText := true, laidKinds := [.data, .data, .widerDeep, .funcs], laidTests := true, laidLooks := .later }
def TransferNamesCardSaid : Prop := Claim7.holds Tryz.pinned (.plain (OpenSpec.ofChange transferNamesSpec)) transferNamesCard

/-- THE TIED CARD OF 'lamplighterlaw24.TransferCalls'. -/
def transferCallsCard : Claim7 := { stood := { row := transferCallsRow, standIns := [], harness := (true, "fc28e0d0de36e244b291480535fe91210b917a62774673a6bfd167666d4ddfc1"), looks := false }, kinds := [], alts := [], laidByText := true, laidKinds := [.data, .data, .widerDeep, .funcs], laidTests := true, laidLooks := .later }
def TransferCallsCardSaid : Prop := Claim7.holds Tryz.pinned (.plain (OpenSpec.ofChange transferCallsSpec)) transferCallsCard

/-- THE SECOND FORM's CARD OF 'lamplighterlaw24.TransferSound'. -/
def transferSoundUptoCard : Claim7 := { stood := { row := transferSoundUptoRow, standIns := [], harness := (true, "fc28e0d0de36e244b291480535fe91210b917a62774673a6bfd167666d4ddfc1"), looks := false }, kinds := [], alts := [], laidByText := true, laidKinds := [.data, .data, .widerDeep, .funcs], laidTests := true, laidLooks := .later }
def TransferSoundUptoCardSaid : Prop := Claim7.holds Tryz.pinned (.plain (OpenSpec.upto transferSoundSpec)) transferSoundUptoCard

/-- THE SECOND FORM's CARD OF 'lamplighterlaw24.TransferGrows'. -/
def transferGrowsUptoCard : Claim7 := { stood := { row := transferGrowsUptoRow, standIns := [], harness := (true, "fc28e0d0de36e244b291480535fe91210b917a62774673a6bfd167666d4ddfc1"), looks := false }, kinds := [], alts := [], laidByText := true, laidKinds := [.data, .data, .widerDeep, .funcs], laidTests := true, laidLooks := .later }
def TransferGrowsUptoCardSaid : Prop := Claim7.holds Tryz.pinned (.plain (OpenSpec.upto transferGrowsSpec)) transferGrowsUptoCard

/-- THE SECOND FORM's CARD OF 'lamplighterlaw24.TransferExact'. -/
def transferExactUptoCard : Claim7 := { stood := { row := transferExactUptoRow, standIns := [], harness := (true, "fc28e0d0de36e244b291480535fe91210b917a62774673a6bfd167666d4ddfc1"), looks := false }, kinds := [], alts := [], laidByText := true, laidKinds := [.data, .data, .widerDeep, .funcs], laidTests := true, laidLooks := .later }
def TransferExactUptoCardSaid : Prop := Claim7.holds Tryz.pinned (.plain (OpenSpec.upto transferExactSpec)) transferExactUptoCard

/-- THE SECOND FORM's CARD OF 'lamplighterlaw24.TransferNames'. -/
def transferNamesUptoCard : Claim7 := { stood := { row := transferNamesUptoRow, standIns := [], harness := (true, "fc28e0d0de36e244b291480535fe91210b917a62774673a6bfd167666d4ddfc1"), looks := false }, kinds := [], alts := [], laidByText := true, laidKinds := [.data, .data, .widerDeep, .funcs], laidTests := true, laidLooks := .later }
def TransferNamesUptoCardSaid : Prop := Claim7.holds Tryz.pinned (.plain (OpenSpec.upto transferNamesSpec)) transferNamesUptoCard

/-- THE SECOND FORM's CARD OF 'lamplighterlaw24.TransferCalls'. -/
def transferCallsUptoCard : Claim7 := { stood := { row := transferCallsUptoRow, standIns := [], harness := (true, "fc28e0d0de36e244b291480535fe91210b917a62774673a6bfd167666d4ddfc1"), looks := false }, kinds := [], alts := [], laidByText := true, laidKinds := [.data, .data, .widerDeep, .funcs], laidTests := true, laidLooks := .later }
def TransferCallsUptoCardSaid : Prop := Claim7.holds Tryz.pinned (.plain (OpenSpec.upto transferCallsSpec)) transferCallsUptoCard
end Rows
end Go.Proofs.YtkhadodoabjdoaaGreatDoor
