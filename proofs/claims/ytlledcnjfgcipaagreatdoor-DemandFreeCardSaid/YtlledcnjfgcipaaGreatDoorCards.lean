/-
  DERIVED. GIVEN WITH THE SEED: THE CARDS: each row of YtlledcnjfgcipaaGreatDoorRows.lean that lists a variable, with what it lists TIED to the program's text (the seventh form; the later family's looks); each row that meets fmt, with fmt's text TOLD by the authors' own Lean function (tested against real Go, not proved from fmt's source: count such statements apart). THE CARD IS WHAT COUNTS. Prove the row's statement (the work); the ties are given (YtlledcnjfgcipaaGreatDoorTie.lean); close each card by the builder's one call (the guide's Derived/Test/ToyasCard.lean, 'card_holds'). Laid BY PROGRAM, IN A SANDBOX (cutbox-door.mjs). By AI agents, Wed Nov 11 2026. No macro, syntax, notation, axiom, sorry.
-/
import Derived.Test.YtlledcnjfgcipaaGreatDoorRows
import GoSem.ClaimSeven
namespace Go.Proofs.YtlledcnjfgcipaaGreatDoor
namespace Rows

/-- THE TIED CARD OF 'damasklaw18.DemandSound'. -/
def demandSoundCard : Claim7 := { stood := { row := demandSoundRow, standIns := [], harness := (true, "043ba6a4c75d702cc0efbbb3f5b0dca11f21b7fdfd689719f5dd10ae4c69f528"), looks := false }, kinds := [], alts := [], laidByText := true, laidKinds := [.data, .mapped, .mapped, .mapped], laidTests := true, laidLooks := .later }
def DemandSoundCardSaid : Prop := Claim7.holds Tryz.pinned (.plain (OpenSpec.ofChange demandSoundSpec)) demandSoundCard

/-- THE TIED CARD OF 'damasklaw18.DemandPrograms'. -/
def demandProgramsCard : Claim7 := { stood := { row := demandProgramsRow, standIns := [], harness := (true, "043ba6a4c75d702cc0efbbb3f5b0dca11f21b7fdfd689719f5dd10ae4c69f528"), looks := false }, kinds := [], alts := [], laidByText := true, laidKinds := [.data, .mapped, .mapped, .mapped], laidTests := true, laidLooks := .later }
def DemandProgramsCardSaid : Prop := Claim7.holds Tryz.pinned (.plain (OpenSpec.ofChange demandProgramsSpec)) demandProgramsCard

/-- THE TIED CARD OF 'damasklaw18.DemandNeeds'. -/
def demandNeedsCard : Claim7 := { stood := { row := demandNeedsRow, standIns := [], harness := (true, "043ba6a4c75d702cc0efbbb3f5b0dca11f21b7fdfd689719f5dd10ae4c69f528"), looks := false }, kinds := [], alts := [], laidByText := true, laidKinds := [.data, .mapped, .mapped, .mapped], laidTests := true, laidLooks := .later }
def DemandNeedsCardSaid : Prop := Claim7.holds Tryz.pinned (.plain (OpenSpec.ofChange demandNeedsSpec)) demandNeedsCard

/-- THE TIED CARD OF 'damasklaw18.DemandOther'. -/
def demandOtherCard : Claim7 := { stood := { row := demandOtherRow, standIns := [], harness := (true, "043ba6a4c75d702cc0efbbb3f5b0dca11f21b7fdfd689719f5dd10ae4c69f528"), looks := false }, kinds := [], alts := [], laidByText := true, laidKinds := [.data, .mapped, .mapped, .mapped], laidTests := true, laidLooks := .later }
def DemandOtherCardSaid : Prop := Claim7.holds Tryz.pinned (.plain (OpenSpec.ofChange demandOtherSpec)) demandOtherCard

/-- THE TIED CARD OF 'damasklaw18.DemandFree'. -/
def demandFreeCard : Claim7 := { stood := { row := demandFreeRow, standIns := [], harness := (true, "043ba6a4c75d702cc0efbbb3f5b0dca11f21b7fdfd689719f5dd10ae4c69f528"), looks := false }, kinds := [], alts := [], laidByText := true, laidKinds := [.data, .mapped, .mapped, .mapped], laidTests := true, laidLooks := .later }
def DemandFreeCardSaid : Prop := Claim7.holds Tryz.pinned (.plain (OpenSpec.ofChange demandFreeSpec)) demandFreeCard

/-- THE SECOND FORM's CARD OF 'damasklaw18.DemandSound'. -/
def demandSoundUptoCard : Claim7 := { stood := { row := demandSoundUptoRow, standIns := [], harness := (true, "043ba6a4c75d702cc0efbbb3f5b0dca11f21b7fdfd689719f5dd10ae4c69f528"), looks := false }, kinds := [], alts := [], laidByText := true, laidKinds := [.data, .mapped, .mapped, .mapped], laidTests := true, laidLooks := .later }
def DemandSoundUptoCardSaid : Prop := Claim7.holds Tryz.pinned (.plain (OpenSpec.upto demandSoundSpec)) demandSoundUptoCard

/-- THE SECOND FORM's CARD OF 'damasklaw18.DemandPrograms'. -/
def demandProgramsUptoCard : Claim7 := { stood := { row := demandProgramsUptoRow, standIns := [], harness := (true, "043ba6a4c75d702cc0efbbb3f5b0dca11f21b7fdfd689719f5dd10ae4c69f528"), looks := false }, kinds := [], alts := [], laidByText := true, laidKinds := [.data, .mapped, .mapped, .mapped], laidTests := true, laidLooks := .later }
def DemandProgramsUptoCardSaid : Prop := Claim7.holds Tryz.pinned (.plain (OpenSpec.upto demandProgramsSpec)) demandProgramsUptoCard

/-- THE SECOND FORM's CARD OF 'damasklaw18.DemandNeeds'. -/
def demandNeedsUptoCard : Claim7 := { stood := { row := demandNeedsUptoRow, standIns := [], harness := (true, "043ba6a4c75d702cc0efbbb3f5b0dca11f21b7fdfd689719f5dd10ae4c69f528"), looks := false }, kinds := [], alts := [], laidByText := true, laidKinds := [.data, .mapped, .mapped, .mapped], laidTests := true, laidLooks := .later }
def DemandNeedsUptoCardSaid : Prop := Claim7.holds Tryz.pinned (.plain (OpenSpec.upto demandNeedsSpec)) demandNeedsUptoCard

/-- THE SECOND FORM's CARD OF 'damasklaw18.DemandOther'. -/
def demandOtherUptoCard : Claim7 := { stood := { row := demandOtherUptoRow, standIns := [], harness := (true, "043ba6a4c75d702cc0efbbb3f5b0dca11f21b7fdfd689719f5dd10ae4c69f528"), looks := false }, kinds := [], alts := [], laidByText := true, laidKinds := [.data, .mapped, .mapped, .mapped], laidTests := true, laidLooks := .later }
def DemandOtherUptoCardSaid : Prop := Claim7.holds Tryz.pinned (.plain (OpenSpec.upto demandOtherSpec)) demandOtherUptoCard

/-- THE SECOND FORM's CARD OF 'damasklaw18.DemandFree'. -/
def demandFreeUptoCard : Claim7 := { stood := { row := demandFreeUptoRow, standIns := [], harness := (true, "043ba6a4c75d702cc0efbbb3f5b0dca11f21b7fdfd689719f5dd10ae4c69f528"), looks := false }, kinds := [], alts := [], laidByText := true, laidKinds := [.data, .mapped, .mapped, .mapped], laidTests := true, laidLooks := .later }
def DemandFreeUptoCardSaid : Prop := Claim7.holds Tryz.pinned (.plain (OpenSpec.upto demandFreeSpec)) demandFreeUptoCard
end Rows
end Go.Proofs.YtlledcnjfgcipaaGreatDoor
