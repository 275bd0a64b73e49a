/-
  DERIVED. GIVEN WITH THE SEED: THE CARDS: each row of YtmfjfejjegemaaaGreatDoorRows.lean that lists a variable, with what it lists TIED to the program's text (the seventh form; the later family's looks); each row that meets fmt, with fmt's text TOLD by the authors' own Lean function (tested against real Go, not proved from fmt's source: count such statements apart). THE CARD IS WHAT COUNTS. Prove the row's statement (the work); the ties are given (YtmfjfejjegemaaaGreatDoorTie.lean); close each card by the builder's one call (the guide's Derived/Test/ToyasCard.lean, 'card_holds'). Laid BY PROGRAM, IN A SANDBOX (cutbox-door.mjs). By AI agents, Wed Nov 11 2026. No macro, syntax, notation, axiom, sorry.
-/
import Derived.Test.YtmfjfejjegemaaaGreatDoorRows
import GoSem.ClaimSeven
namespace Go.Proofs.YtmfjfejjegemaaaGreatDoor
namespace Rows

/-- THE TIED CARD OF 'stevedorelaw10.VolumeMore'. -/
def volumeMoreCard : Claim7 := { stood := { row := volumeMoreRow, standIns := [], harness := (true, "5030bd54c7a9fd75e6bb825297b6ff37719bed84b0dc4924735910bd83b70645"), looks := true }, kinds := [], alts := [], laidByText := true, laidKinds := [.data, .data, .data, .sentinel, .sentinel], laidTests := true, laidLooks := .later }
def VolumeMoreCardSaid : Prop := Claim7.holds Tryz.pinned (.plain (OpenSpec.ofChange volumeMoreSpec)) volumeMoreCard

/-- THE TIED CARD OF 'stevedorelaw10.VolumeMeets'. -/
def volumeMeetsCard : Claim7 := { stood := { row := volumeMeetsRow, standIns := [], harness := (true, "5030bd54c7a9fd75e6bb825297b6ff37719bed84b0dc4924735910bd83b70645"), looks := true }, kinds := [], alts := [], laidByText := true, laidKinds := [.data, .data, .data, .sentinel, .sentinel], laidTests := true, laidLooks := .later }
def VolumeMeetsCardSaid : Prop := Claim7.holds Tryz.pinned (.plain (OpenSpec.ofChange volumeMeetsSpec)) volumeMeetsCard

/-- THE TIED CARD OF 'stevedorelaw10.VolumeBack'. -/
def volumeBackCard : Claim7 := { stood := { row := volumeBackRow, standIns := [], harness := (true, "5030bd54c7a9fd75e6bb825297b6ff37719bed84b0dc4924735910bd83b70645"), looks := true }, kinds := [], alts := [], laidByText := true, laidKinds := [.data, .data, .data, .sentinel, .sentinel], laidTests := true, laidLooks := .later }
def VolumeBackCardSaid : Prop := Claim7.holds Tryz.pinned (.plain (OpenSpec.ofChange volumeBackSpec)) volumeBackCard

/-- THE TIED CARD OF 'stevedorelaw10.VolumeOnce'. -/
def volumeOnceCard : Claim7 := { stood := { row := volumeOnceRow, standIns := [], harness := (true, "5030bd54c7a9fd75e6bb825297b6ff37719bed84b0dc4924735910bd83b70645"), looks := true }, kinds := [], alts := [], laidByText := true, laidKinds := [.data, .data, .data, .sentinel, .sentinel], laidTests := true, laidLooks := .later }
def VolumeOnceCardSaid : Prop := Claim7.holds Tryz.pinned (.plain (OpenSpec.ofChange volumeOnceSpec)) volumeOnceCard

/-- THE SECOND FORM's CARD OF 'stevedorelaw10.VolumeMore'. -/
def volumeMoreUptoCard : Claim7 := { stood := { row := volumeMoreUptoRow, standIns := [], harness := (true, "5030bd54c7a9fd75e6bb825297b6ff37719bed84b0dc4924735910bd83b70645"), looks := true }, kinds := [], alts := [], laidByText := true, laidKinds := [.data, .data, .data, .sentinel, .sentinel], laidTests := true, laidLooks := .later }
def VolumeMoreUptoCardSaid : Prop := Claim7.holds Tryz.pinned (.plain (OpenSpec.upto volumeMoreSpec)) volumeMoreUptoCard

/-- THE SECOND FORM's CARD OF 'stevedorelaw10.VolumeMeets'. -/
def volumeMeetsUptoCard : Claim7 := { stood := { row := volumeMeetsUptoRow, standIns := [], harness := (true, "5030bd54c7a9fd75e6bb825297b6ff37719bed84b0dc4924735910bd83b70645"), looks := true }, kinds := [], alts := [], laidByText := true, laidKinds := [.data, .data, .data, .sentinel, .sentinel], laidTests := true, laidLooks := .later }
def VolumeMeetsUptoCardSaid : Prop := Claim7.holds Tryz.pinned (.plain (OpenSpec.upto volumeMeetsSpec)) volumeMeetsUptoCard

/-- THE SECOND FORM's CARD OF 'stevedorelaw10.VolumeBack'. -/
def volumeBackUptoCard : Claim7 := { stood := { row := volumeBackUptoRow, standIns := [], harness := (true, "5030bd54c7a9fd75e6bb825297b6ff37719bed84b0dc4924735910bd83b70645"), looks := true }, kinds := [], alts := [], laidByText := true, laidKinds := [.data, .data, .data, .sentinel, .sentinel], laidTests := true, laidLooks := .later }
def VolumeBackUptoCardSaid : Prop := Claim7.holds Tryz.pinned (.plain (OpenSpec.upto volumeBackSpec)) volumeBackUptoCard

/-- THE SECOND FORM's CARD OF 'stevedorelaw10.VolumeOnce'. -/
def volumeOnceUptoCard : Claim7 := { stood := { row := volumeOnceUptoRow, standIns := [], harness := (true, "5030bd54c7a9fd75e6bb825297b6ff37719bed84b0dc4924735910bd83b70645"), looks := true }, kinds := [], alts := [], laidByText := true, laidKinds := [.data, .data, .data, .sentinel, .sentinel], laidTests := true, laidLooks := .later }
def VolumeOnceUptoCardSaid : Prop := Claim7.holds Tryz.pinned (.plain (OpenSpec.upto volumeOnceSpec)) volumeOnceUptoCard
end Rows
end Go.Proofs.YtmfjfejjegemaaaGreatDoor
