/-
  DERIVED. GIVEN WITH THE SEED: THE CARDS: each row of YtcelojkecfiocaaDoorRows.lean that lists a variable, with what it lists TIED to the program's text (the seventh form; the later family's looks); each row that meets fmt, with fmt's text TOLD by the authors' own Lean function (tested against real Go, not proved from fmt's source: count such statements apart). THE CARD IS WHAT COUNTS. Prove the row's statement (the work); the ties are given (YtcelojkecfiocaaDoorTie.lean); close each card by the builder's one call (the guide's Derived/Test/ToyasCard.lean, 'card_holds'). Laid BY PROGRAM, IN A SANDBOX (cutbox-door.mjs). By AI agents, Wed Nov 11 2026. No macro, syntax, notation, axiom, sorry.
-/
import Derived.Test.YtcelojkecfiocaaDoorRows
import GoSem.ClaimSeven
namespace Go.Proofs.YtcelojkecfiocaaDoor
namespace Rows

/-- THE TIED CARD OF 'fareboxlaw03.HashSums'. -/
def hashSumsCard : Claim7 := { stood := { row := hashSumsRow, standIns := [], harness := (true, "632e2fd1c112e72b2cdf54a07a0a13741bd3054d692924f098900d365e3b6231"), looks := false }, kinds := [], alts := [], laidByText := true, laidKinds := [.data, .data, .data, .data], laidTests := true, laidLooks := .later }
def HashSumsCardSaid : Prop := Claim7.holds Tryd.pinned (.plain (OpenSpec.ofChange hashSumsSpec)) hashSumsCard

/-- THE TIED CARD OF 'fareboxlaw03.HashPieces'. -/
def hashPiecesCard : Claim7 := { stood := { row := hashPiecesRow, standIns := [], harness := (true, "632e2fd1c112e72b2cdf54a07a0a13741bd3054d692924f098900d365e3b6231"), looks := false }, kinds := [], alts := [], laidByText := true, laidKinds := [.data, .data], laidTests := true, laidLooks := .later }
def HashPiecesCardSaid : Prop := Claim7.holds Tryd.pinned (.plain (OpenSpec.ofChange hashPiecesSpec)) hashPiecesCard

/-- THE TIED CARD OF 'fareboxlaw03.HashPlays'. -/
def hashPlaysCard : Claim7 := { stood := { row := hashPlaysRow, standIns := [], harness := (true, "632e2fd1c112e72b2cdf54a07a0a13741bd3054d692924f098900d365e3b6231"), looks := false }, kinds := [], alts := [], laidByText := true, laidKinds := [.data, .data, .data, .data], laidTests := true, laidLooks := .later }
def HashPlaysCardSaid : Prop := Claim7.holds Tryd.pinned (.plain (OpenSpec.ofChange hashPlaysSpec)) hashPlaysCard

/-- THE TIED CARD OF 'fareboxlaw03.HashApart'. -/
def hashApartCard : Claim7 := { stood := { row := hashApartRow, standIns := [], harness := (true, "632e2fd1c112e72b2cdf54a07a0a13741bd3054d692924f098900d365e3b6231"), looks := false }, kinds := [], alts := [], laidByText := true, laidKinds := [.data, .data], laidTests := true, laidLooks := .later }
def HashApartCardSaid : Prop := Claim7.holds Tryd.pinned (.plain (OpenSpec.ofChange hashApartSpec)) hashApartCard

/-- THE TIED CARD OF 'fareboxlaw04.SealMacs'. -/
def sealMacsCard : Claim7 := { stood := { row := sealMacsRow, standIns := [], harness := (true, "632e2fd1c112e72b2cdf54a07a0a13741bd3054d692924f098900d365e3b6231"), looks := false }, kinds := [], alts := [], laidByText := true, laidKinds := [.data, .data, .data, .data], laidTests := true, laidLooks := .later }
def SealMacsCardSaid : Prop := Claim7.holds Tryd.pinned (.plain (OpenSpec.ofChange sealMacsSpec)) sealMacsCard

/-- THE TIED CARD OF 'fareboxlaw04.SealOpens'. -/
def sealOpensCard : Claim7 := { stood := { row := sealOpensRow, standIns := [], harness := (true, "632e2fd1c112e72b2cdf54a07a0a13741bd3054d692924f098900d365e3b6231"), looks := false }, kinds := [], alts := [], laidByText := true, laidKinds := [.data, .data, .data, .data], laidTests := true, laidLooks := .later }
def SealOpensCardSaid : Prop := Claim7.holds Tryd.pinned (.plain (OpenSpec.ofChange sealOpensSpec)) sealOpensCard

/-- THE TIED CARD OF 'fareboxlaw04.SealBack'. -/
def sealBackCard : Claim7 := { stood := { row := sealBackRow, standIns := [], harness := (true, "632e2fd1c112e72b2cdf54a07a0a13741bd3054d692924f098900d365e3b6231"), looks := false }, kinds := [], alts := [], laidByText := true, laidKinds := [.data, .data], laidTests := true, laidLooks := .later }
def SealBackCardSaid : Prop := Claim7.holds Tryd.pinned (.plain (OpenSpec.ofChange sealBackSpec)) sealBackCard

/-- THE TIED CARD OF 'fareboxlaw04.SealPads'. -/
def sealPadsCard : Claim7 := { stood := { row := sealPadsRow, standIns := [], harness := (true, "632e2fd1c112e72b2cdf54a07a0a13741bd3054d692924f098900d365e3b6231"), looks := false }, kinds := [], alts := [], laidByText := true, laidKinds := [.data, .data], laidTests := true, laidLooks := .later }
def SealPadsCardSaid : Prop := Claim7.holds Tryd.pinned (.plain (OpenSpec.ofChange sealPadsSpec)) sealPadsCard

/-- THE TIED CARD OF 'fareboxlaw04.SealKeys'. -/
def sealKeysCard : Claim7 := { stood := { row := sealKeysRow, standIns := [], harness := (true, "632e2fd1c112e72b2cdf54a07a0a13741bd3054d692924f098900d365e3b6231"), looks := false }, kinds := [], alts := [], laidByText := true, laidKinds := [.data, .data, .data, .data], laidTests := true, laidLooks := .later }
def SealKeysCardSaid : Prop := Claim7.holds Tryd.pinned (.plain (OpenSpec.ofChange sealKeysSpec)) sealKeysCard

/-- THE TIED CARD OF 'fareboxlaw04.SealApart'. -/
def sealApartCard : Claim7 := { stood := { row := sealApartRow, standIns := [], harness := (true, "632e2fd1c112e72b2cdf54a07a0a13741bd3054d692924f098900d365e3b6231"), looks := false }, kinds := [], alts := [], laidByText := true, laidKinds := [.data, .data], laidTests := true, laidLooks := .later }
def SealApartCardSaid : Prop := Claim7.holds Tryd.pinned (.plain (OpenSpec.ofChange sealApartSpec)) sealApartCard

/-- THE SECOND FORM's CARD OF 'fareboxlaw03.HashSums'. -/
def hashSumsUptoCard : Claim7 := { stood := { row := hashSumsUptoRow, standIns := [], harness := (true, "632e2fd1c112e72b2cdf54a07a0a13741bd3054d692924f098900d365e3b6231"), looks := false }, kinds := [], alts := [], laidByText := true, laidKinds := [.data, .data, .data, .data], laidTests := true, laidLooks := .later }
def HashSumsUptoCardSaid : Prop := Claim7.holds Tryd.pinned (.plain (OpenSpec.upto hashSumsSpec)) hashSumsUptoCard

/-- THE SECOND FORM's CARD OF 'fareboxlaw03.HashPieces'. -/
def hashPiecesUptoCard : Claim7 := { stood := { row := hashPiecesUptoRow, standIns := [], harness := (true, "632e2fd1c112e72b2cdf54a07a0a13741bd3054d692924f098900d365e3b6231"), looks := false }, kinds := [], alts := [], laidByText := true, laidKinds := [.data, .data], laidTests := true, laidLooks := .later }
def HashPiecesUptoCardSaid : Prop := Claim7.holds Tryd.pinned (.plain (OpenSpec.upto hashPiecesSpec)) hashPiecesUptoCard

/-- THE SECOND FORM's CARD OF 'fareboxlaw03.HashPlays'. -/
def hashPlaysUptoCard : Claim7 := { stood := { row := hashPlaysUptoRow, standIns := [], harness := (true, "632e2fd1c112e72b2cdf54a07a0a13741bd3054d692924f098900d365e3b6231"), looks := false }, kinds := [], alts := [], laidByText := true, laidKinds := [.data, .data, .data, .data], laidTests := true, laidLooks := .later }
def HashPlaysUptoCardSaid : Prop := Claim7.holds Tryd.pinned (.plain (OpenSpec.upto hashPlaysSpec)) hashPlaysUptoCard

/-- THE SECOND FORM's CARD OF 'fareboxlaw03.HashApart'. -/
def hashApartUptoCard : Claim7 := { stood := { row := hashApartUptoRow, standIns := [], harness := (true, "632e2fd1c112e72b2cdf54a07a0a13741bd3054d692924f098900d365e3b6231"), looks := false }, kinds := [], alts := [], laidByText := true, laidKinds := [.data, .data], laidTests := true, laidLooks := .later }
def HashApartUptoCardSaid : Prop := Claim7.holds Tryd.pinned (.plain (OpenSpec.upto hashApartSpec)) hashApartUptoCard

/-- THE SECOND FORM's CARD OF 'fareboxlaw04.SealMacs'. -/
def sealMacsUptoCard : Claim7 := { stood := { row := sealMacsUptoRow, standIns := [], harness := (true, "632e2fd1c112e72b2cdf54a07a0a13741bd3054d692924f098900d365e3b6231"), looks := false }, kinds := [], alts := [], laidByText := true, laidKinds := [.data, .data, .data, .data], laidTests := true, laidLooks := .later }
def SealMacsUptoCardSaid : Prop := Claim7.holds Tryd.pinned (.plain (OpenSpec.upto sealMacsSpec)) sealMacsUptoCard

/-- THE SECOND FORM's CARD OF 'fareboxlaw04.SealOpens'. -/
def sealOpensUptoCard : Claim7 := { stood := { row := sealOpensUptoRow, standIns := [], harness := (true, "632e2fd1c112e72b2cdf54a07a0a13741bd3054d692924f098900d365e3b6231"), looks := false }, kinds := [], alts := [], laidByText := true, laidKinds := [.data, .data, .data, .data], laidTests := true, laidLooks := .later }
def SealOpensUptoCardSaid : Prop := Claim7.holds Tryd.pinned (.plain (OpenSpec.upto sealOpensSpec)) sealOpensUptoCard

/-- THE SECOND FORM's CARD OF 'fareboxlaw04.SealBack'. -/
def sealBackUptoCard : Claim7 := { stood := { row := sealBackUptoRow, standIns := [], harness := (true, "632e2fd1c112e72b2cdf54a07a0a13741bd3054d692924f098900d365e3b6231"), looks := false }, kinds := [], alts := [], laidByText := true, laidKinds := [.data, .data], laidTests := true, laidLooks := .later }
def SealBackUptoCardSaid : Prop := Claim7.holds Tryd.pinned (.plain (OpenSpec.upto sealBackSpec)) sealBackUptoCard

/-- THE SECOND FORM's CARD OF 'fareboxlaw04.SealPads'. -/
def sealPadsUptoCard : Claim7 := { stood := { row := sealPadsUptoRow, standIns := [], harness := (true, "632e2fd1c112e72b2cdf54a07a0a13741bd3054d692924f098900d365e3b6231"), looks := false }, kinds := [], alts := [], laidByText := true, laidKinds := [.data, .data], laidTests := true, laidLooks := .later }
def SealPadsUptoCardSaid : Prop := Claim7.holds Tryd.pinned (.plain (OpenSpec.upto sealPadsSpec)) sealPadsUptoCard

/-- THE SECOND FORM's CARD OF 'fareboxlaw04.SealKeys'. -/
def sealKeysUptoCard : Claim7 := { stood := { row := sealKeysUptoRow, standIns := [], harness := (true, "632e2fd1c112e72b2cdf54a07a0a13741bd3054d692924f098900d365e3b6231"), looks := false }, kinds := [], alts := [], laidByText := true, laidKinds := [.data, .data, .data, .data], laidTests := true, laidLooks := .later }
def SealKeysUptoCardSaid : Prop := Claim7.holds Tryd.pinned (.plain (OpenSpec.upto sealKeysSpec)) sealKeysUptoCard

/-- THE SECOND FORM's CARD OF 'fareboxlaw04.SealApart'. -/
def sealApartUptoCard : Claim7 := { stood := { row := sealApartUptoRow, standIns := [], harness := (true, "632e2fd1c112e72b2cdf54a07a0a13741bd3054d692924f098900d365e3b6231"), looks := false }, kinds := [], alts := [], laidByText := true, laidKinds := [.data, .data], laidTests := true, laidLooks := .later }
def SealApartUptoCardSaid : Prop := Claim7.holds Tryd.pinned (.plain (OpenSpec.upto sealApartSpec)) sealApartUptoCard
end Rows
end Go.Proofs.YtcelojkecfiocaaDoor
