/-
  DERIVED. GIVEN WITH THE SEED: THE CARDS: each row of YtnnebeidpkaobaaGreatDoorRows.lean that lists a variable, with what it lists TIED to the program's text (the seventh form; the later family's looks); each row that meets fmt, with fmt's text TOLD by the authors' own Lean function (tested against real Go, not proved from fmt's source: count such statements apart). THE CARD IS WHAT COUNTS. Prove the row's statement (the work); the ties are given (YtnnebeidpkaobaaGreatDoorTie.lean); close each card by the builder's one call (the guide's Derived/Test/ToyasCard.lean, 'card_holds'). Laid BY PROGRAM, IN A SANDBOX (cutbox-door.mjs). By AI agents, Wed Nov 11 2026. No macro, syntax, notation, axiom, sorry.
-/
import Derived.Test.YtnnebeidpkaobaaGreatDoorRows
import GoSem.ClaimSeven
namespace Go.Proofs.YtnnebeidpkaobaaGreatDoor
namespace Rows

/-- THE TIED CARD OF 'newsreellaw16.StoreDoes'. -/
def storeDoesCard : Claim7 := { stood := { row := storeDoesRow, standIns := [], harness := (true, "d9568683c367b6aab6fa4aed12fdff23bc5a96f2c7f3678653bb230d8274439a"), looks := false }, kinds := [], alts := [], laidByText := true, laidKinds := [.data, .pinned], laidTests := true, laidLooks := .later }
def StoreDoesCardSaid : Prop := Claim7.holds Tryz.pinned (.plain (OpenSpec.ofChange storeDoesSpec)) storeDoesCard

/-- THE TIED CARD OF 'newsreellaw16.StoreNil'. -/
def storeNilCard : Claim7 := { stood := { row := storeNilRow, standIns := [], harness := (true, "d9568683c367b6aab6fa4aed12fdff23bc5a96f2c7f3678653bb230d8274439a"), looks := false }, kinds := [], alts := [], laidByText := true, laidKinds := [.data, .pinned], laidTests := true, laidLooks := .later }
def StoreNilCardSaid : Prop := Claim7.holds Tryz.pinned (.plain (OpenSpec.ofChange storeNilSpec)) storeNilCard

/-- THE TIED CARD OF 'newsreellaw16.StoreAtomic'. -/
def storeAtomicCard : Claim7 := { stood := { row := storeAtomicRow, standIns := [], harness := (true, "d9568683c367b6aab6fa4aed12fdff23bc5a96f2c7f3678653bb230d8274439a"), looks := false }, kinds := [], alts := [], laidByText := true, laidKinds := [.data, .pinned], laidTests := true, laidLooks := .later }
def StoreAtomicCardSaid : Prop := Claim7.holds Tryz.pinned (.plain (OpenSpec.ofChange storeAtomicSpec)) storeAtomicCard

/-- THE SECOND FORM's CARD OF 'newsreellaw16.StoreDoes'. -/
def storeDoesUptoCard : Claim7 := { stood := { row := storeDoesUptoRow, standIns := [], harness := (true, "d9568683c367b6aab6fa4aed12fdff23bc5a96f2c7f3678653bb230d8274439a"), looks := false }, kinds := [], alts := [], laidByText := true, laidKinds := [.data, .pinned], laidTests := true, laidLooks := .later }
def StoreDoesUptoCardSaid : Prop := Claim7.holds Tryz.pinned (.plain (OpenSpec.upto storeDoesSpec)) storeDoesUptoCard

/-- THE SECOND FORM's CARD OF 'newsreellaw16.StoreNil'. -/
def storeNilUptoCard : Claim7 := { stood := { row := storeNilUptoRow, standIns := [], harness := (true, "d9568683c367b6aab6fa4aed12fdff23bc5a96f2c7f3678653bb230d8274439a"), looks := false }, kinds := [], alts := [], laidByText := true, laidKinds := [.data, .pinned], laidTests := true, laidLooks := .later }
def StoreNilUptoCardSaid : Prop := Claim7.holds Tryz.pinned (.plain (OpenSpec.upto storeNilSpec)) storeNilUptoCard

/-- THE SECOND FORM's CARD OF 'newsreellaw16.StoreAtomic'. -/
def storeAtomicUptoCard : Claim7 := { stood := { row := storeAtomicUptoRow, standIns := [], harness := (true, "d9568683c367b6aab6fa4aed12fdff23bc5a96f2c7f3678653bb230d8274439a"), looks := false }, kinds := [], alts := [], laidByText := true, laidKinds := [.data, .pinned], laidTests := true, laidLooks := .later }
def StoreAtomicUptoCardSaid : Prop := Claim7.holds Tryz.pinned (.plain (OpenSpec.upto storeAtomicSpec)) storeAtomicUptoCard
end Rows
end Go.Proofs.YtnnebeidpkaobaaGreatDoor
