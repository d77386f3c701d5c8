/-
  DERIVED. GIVEN WITH THE SEED: THE CARDS: each row of YtfojblbnhapedaaGreatDoorRows.lean that lists a variable, with what it lists TIED to the program's text (the seventh form; the later family's looks); each row that meets fmt, with fmt's text TOLD by the authors' own Lean function (tested against real Go, not proved from fmt's source: count such statements apart). THE CARD IS WHAT COUNTS. Prove the row's statement (the work); the ties are given (YtfojblbnhapedaaGreatDoorTie.lean); close each card by the builder's one call (the guide's Derived/Test/ToyasCard.lean, 'card_holds'). Laid BY PROGRAM, IN A SANDBOX (cutbox-door.mjs). By AI agents, Wed Nov 11 2026. No macro, syntax, notation, axiom, sorry.
-/
import Derived.Test.YtfojblbnhapedaaGreatDoorRows
import GoSem.ClaimSeven
namespace Go.Proofs.YtfojblbnhapedaaGreatDoor
namespace Rows

/-- THE TIED CARD OF 'freshetlaw25.ModelCheck'. -/
def modelCheckCard : Claim7 := { stood := { row := modelCheckRow, standIns := [], harness := (true, "d7e00fea0165a857f205cf125ca8fc3bd2d475b42c1b3481f08b789b2e85f2c8"), looks := false }, kinds := [], alts := [], laidByText := true, laidKinds := [.data, .data, .data], laidTests := true, laidLooks := .later }
def ModelCheckCardSaid : Prop := Claim7.holds Tryz.pinned (.plain (OpenSpec.ofChange modelCheckSpec)) modelCheckCard

/-- THE TIED CARD OF 'freshetlaw25.ModelWhole'. -/
def modelWholeCard : Claim7 := { stood := { row := modelWholeRow, standIns := [], harness := (true, "d7e00fea0165a857f205cf125ca8fc3bd2d475b42c1b3481f08b789b2e85f2c8"), looks := false }, kinds := [], alts := [], laidByText := true, laidKinds := [.data, .data, .data], laidTests := true, laidLooks := .later }
def ModelWholeCardSaid : Prop := Claim7.holds Tryz.pinned (.plain (OpenSpec.ofChange modelWholeSpec)) modelWholeCard

/-- THE TIED CARD OF 'freshetlaw25.ModelApart'. -/
def modelApartCard : Claim7 := { stood := { row := modelApartRow, standIns := [], harness := (true, "d7e00fea0165a857f205cf125ca8fc3bd2d475b42c1b3481f08b789b2e85f2c8"), looks := false }, kinds := [], alts := [], laidByText := true, laidKinds := [.data, .data, .data], laidTests := true, laidLooks := .later }
def ModelApartCardSaid : Prop := Claim7.holds Tryz.pinned (.plain (OpenSpec.ofChange modelApartSpec)) modelApartCard

/-- THE TIED CARD OF 'freshetlaw25.ModelOps'. -/
def modelOpsCard : Claim7 := { stood := { row := modelOpsRow, standIns := [], harness := (true, "d7e00fea0165a857f205cf125ca8fc3bd2d475b42c1b3481f08b789b2e85f2c8"), looks := false }, kinds := [], alts := [], laidByText := true, laidKinds := [.data, .data, .data], laidTests := true, laidLooks := .later }
def ModelOpsCardSaid : Prop := Claim7.holds Tryz.pinned (.plain (OpenSpec.ofChange modelOpsSpec)) modelOpsCard

/-- THE TIED CARD OF 'freshetlaw25.ModelMoved'. -/
def modelMovedCard : Claim7 := { stood := { row := modelMovedRow, standIns := [], harness := (true, "d7e00fea0165a857f205cf125ca8fc3bd2d475b42c1b3481f08b789b2e85f2c8"), looks := false }, kinds := [], alts := [], laidByText := true, laidKinds := [.data, .data, .data], laidTests := true, laidLooks := .later }
def ModelMovedCardSaid : Prop := Claim7.holds Tryz.pinned (.plain (OpenSpec.ofChange modelMovedSpec)) modelMovedCard

/-- THE TIED CARD OF 'freshetlaw25.ModelOnce'. -/
def modelOnceCard : Claim7 := { stood := { row := modelOnceRow, standIns := [], harness := (true, "d7e00fea0165a857f205cf125ca8fc3bd2d475b42c1b3481f08b789b2e85f2c8"), looks := false }, kinds := [], alts := [], laidByText := true, laidKinds := [.data, .data, .data], laidTests := true, laidLooks := .later }
def ModelOnceCardSaid : Prop := Claim7.holds Tryz.pinned (.plain (OpenSpec.ofChange modelOnceSpec)) modelOnceCard

/-- THE TIED CARD OF 'freshetlaw25.ModelStands'. -/
def modelStandsCard : Claim7 := { stood := { row := modelStandsRow, standIns := [], harness := (true, "d7e00fea0165a857f205cf125ca8fc3bd2d475b42c1b3481f08b789b2e85f2c8"), looks := false }, kinds := [], alts := [], laidByText := true, laidKinds := [.data, .data, .data], laidTests := true, laidLooks := .later }
def ModelStandsCardSaid : Prop := Claim7.holds Tryz.pinned (.plain (OpenSpec.ofChange modelStandsSpec)) modelStandsCard

/-- THE TIED CARD OF 'freshetlaw25.ModelLists'. -/
def modelListsCard : Claim7 := { stood := { row := modelListsRow, standIns := [], harness := (true, "d7e00fea0165a857f205cf125ca8fc3bd2d475b42c1b3481f08b789b2e85f2c8"), looks := false }, kinds := [], alts := [], laidByText := true, laidKinds := [.data, .data, .data], laidTests := true, laidLooks := .later }
def ModelListsCardSaid : Prop := Claim7.holds Tryz.pinned (.plain (OpenSpec.ofChange modelListsSpec)) modelListsCard

/-- THE TIED CARD OF 'freshetlaw25.ModelPlays'. -/
def modelPlaysCard : Claim7 := { stood := { row := modelPlaysRow, standIns := [], harness := (true, "d7e00fea0165a857f205cf125ca8fc3bd2d475b42c1b3481f08b789b2e85f2c8"), looks := false }, kinds := [], alts := [], laidByText := true, laidKinds := [.data, .data, .data], laidTests := true, laidLooks := .later }
def ModelPlaysCardSaid : Prop := Claim7.holds Tryz.pinned (.plain (OpenSpec.ofChange modelPlaysSpec)) modelPlaysCard

/-- THE TIED CARD OF 'freshetlaw25.ModelNone'. -/
def modelNoneCard : Claim7 := { stood := { row := modelNoneRow, standIns := [], harness := (true, "d7e00fea0165a857f205cf125ca8fc3bd2d475b42c1b3481f08b789b2e85f2c8"), looks := false }, kinds := [], alts := [], laidByText := true, laidKinds := [.data, .data, .data], laidTests := true, laidLooks := .later }
def ModelNoneCardSaid : Prop := Claim7.holds Tryz.pinned (.plain (OpenSpec.ofChange modelNoneSpec)) modelNoneCard

/-- THE SECOND FORM's CARD OF 'freshetlaw25.ModelCheck'. -/
def modelCheckUptoCard : Claim7 := { stood := { row := modelCheckUptoRow, standIns := [], harness := (true, "d7e00fea0165a857f205cf125ca8fc3bd2d475b42c1b3481f08b789b2e85f2c8"), looks := false }, kinds := [], alts := [], laidByText := true, laidKinds := [.data, .data, .data], laidTests := true, laidLooks := .later }
def ModelCheckUptoCardSaid : Prop := Claim7.holds Tryz.pinned (.plain (OpenSpec.upto modelCheckSpec)) modelCheckUptoCard

/-- THE SECOND FORM's CARD OF 'freshetlaw25.ModelWhole'. -/
def modelWholeUptoCard : Claim7 := { stood := { row := modelWholeUptoRow, standIns := [], harness := (true, "d7e00fea0165a857f205cf125ca8fc3bd2d475b42c1b3481f08b789b2e85f2c8"), looks := false }, kinds := [], alts := [], laidByText := true, laidKinds := [.data, .data, .data], laidTests := true, laidLooks := .later }
def ModelWholeUptoCardSaid : Prop := Claim7.holds Tryz.pinned (.plain (OpenSpec.upto modelWholeSpec)) modelWholeUptoCard

/-- THE SECOND FORM's CARD OF 'freshetlaw25.ModelApart'. -/
def modelApartUptoCard : Claim7 := { stood := { row := modelApartUptoRow, standIns := [], harness := (true, "d7e00fea0165a857f205cf125ca8fc3bd2d475b42c1b3481f08b789b2e85f2c8"), looks := false }, kinds := [], alts := [], laidByText := true, laidKinds := [.data, .data, .data], laidTests := true, laidLooks := .later }
def ModelApartUptoCardSaid : Prop := Claim7.holds Tryz.pinned (.plain (OpenSpec.upto modelApartSpec)) modelApartUptoCard

/-- THE SECOND FORM's CARD OF 'freshetlaw25.ModelOps'. -/
def modelOpsUptoCard : Claim7 := { stood := { row := modelOpsUptoRow, standIns := [], harness := (true, "d7e00fea0165a857f205cf125ca8fc3bd2d475b42c1b3481f08b789b2e85f2c8"), looks := false }, kinds := [], alts := [], laidByText := true, laidKinds := [.data, .data, .data], laidTests := true, laidLooks := .later }
def ModelOpsUptoCardSaid : Prop := Claim7.holds Tryz.pinned (.plain (OpenSpec.upto modelOpsSpec)) modelOpsUptoCard

/-- THE SECOND FORM's CARD OF 'freshetlaw25.ModelMoved'. -/
def modelMovedUptoCard : Claim7 := { stood := { row := modelMovedUptoRow, standIns := [], harness := (true, "d7e00fea0165a857f205cf125ca8fc3bd2d475b42c1b3481f08b789b2e85f2c8"), looks := false }, kinds := [], alts := [], laidByText := true, laidKinds := [.data, .data, .data], laidTests := true, laidLooks := .later }
def ModelMovedUptoCardSaid : Prop := Claim7.holds Tryz.pinned (.plain (OpenSpec.upto modelMovedSpec)) modelMovedUptoCard

/-- THE SECOND FORM's CARD OF 'freshetlaw25.ModelOnce'. -/
def modelOnceUptoCard : Claim7 := { stood := { row := modelOnceUptoRow, standIns := [], harness := (true, "d7e00fea0165a857f205cf125ca8fc3bd2d475b42c1b3481f08b789b2e85f2c8"), looks := false }, kinds := [], alts := [], laidByText := true, laidKinds := [.data, .data, .data], laidTests := true, laidLooks := .later }
def ModelOnceUptoCardSaid : Prop := Claim7.holds Tryz.pinned (.plain (OpenSpec.upto modelOnceSpec)) modelOnceUptoCard

/-- THE SECOND FORM's CARD OF 'freshetlaw25.ModelStands'. -/
def modelStandsUptoCard : Claim7 := { stood := { row := modelStandsUptoRow, standIns := [], harness := (true, "d7e00fea0165a857f205cf125ca8fc3bd2d475b42c1b3481f08b789b2e85f2c8"), looks := false }, kinds := [], alts := [], laidByText := true, laidKinds := [.data, .data, .data], laidTests := true, laidLooks := .later }
def ModelStandsUptoCardSaid : Prop := Claim7.holds Tryz.pinned (.plain (OpenSpec.upto modelStandsSpec)) modelStandsUptoCard

/-- THE SECOND FORM's CARD OF 'freshetlaw25.ModelLists'. -/
def modelListsUptoCard : Claim7 := { stood := { row := modelListsUptoRow, standIns := [], harness := (true, "d7e00fea0165a857f205cf125ca8fc3bd2d475b42c1b3481f08b789b2e85f2c8"), looks := false }, kinds := [], alts := [], laidByText := true, laidKinds := [.data, .data, .data], laidTests := true, laidLooks := .later }
def ModelListsUptoCardSaid : Prop := Claim7.holds Tryz.pinned (.plain (OpenSpec.upto modelListsSpec)) modelListsUptoCard

/-- THE SECOND FORM's CARD OF 'freshetlaw25.ModelPlays'. -/
def modelPlaysUptoCard : Claim7 := { stood := { row := modelPlaysUptoRow, standIns := [], harness := (true, "d7e00fea0165a857f205cf125ca8fc3bd2d475b42c1b3481f08b789b2e85f2c8"), looks := false }, kinds := [], alts := [], laidByText := true, laidKinds := [.data, .data, .data], laidTests := true, laidLooks := .later }
def ModelPlaysUptoCardSaid : Prop := Claim7.holds Tryz.pinned (.plain (OpenSpec.upto modelPlaysSpec)) modelPlaysUptoCard

/-- THE SECOND FORM's CARD OF 'freshetlaw25.ModelNone'. -/
def modelNoneUptoCard : Claim7 := { stood := { row := modelNoneUptoRow, standIns := [], harness := (true, "d7e00fea0165a857f205cf125ca8fc3bd2d475b42c1b3481f08b789b2e85f2c8"), looks := false }, kinds := [], alts := [], laidByText := true, laidKinds := [.data, .data, .data], laidTests := true, laidLooks := .later }
def ModelNoneUptoCardSaid : Prop := Claim7.holds Tryz.pinned (.plain (OpenSpec.upto modelNoneSpec)) modelNoneUptoCard
end Rows
end Go.Proofs.YtfojblbnhapedaaGreatDoor
