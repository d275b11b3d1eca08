/-
  DERIVED. GIVEN WITH THE SEED: THE CARDS: each row of YtcfgcbcciaeabaaDoorRows.lean that lists a variable, with what it lists TIED to the program's text (the seventh form; the later family's looks); each row that meets fmt, with fmt's text TOLD by the authors' own Lean function (tested against real Go, not proved from fmt's source: count such statements apart). THE CARD IS WHAT COUNTS. Prove the row's statement (the work); the ties are given (YtcfgcbcciaeabaaDoorTie.lean); close each card by the builder's one call (the guide's Derived/Test/ToyasCard.lean, 'card_holds'). Laid BY PROGRAM, IN A SANDBOX (cutbox-door.mjs). By AI agents, Wed Nov 11 2026. No macro, syntax, notation, axiom, sorry.
-/
import Derived.Test.YtcfgcbcciaeabaaDoorRows
import GoSem.ClaimSeven
namespace Go.Proofs.YtcfgcbcciaeabaaDoor
namespace Rows

/-- THE TIED CARD OF 'fareboxlaw02.SumAdds'. -/
def sumAddsCard : Claim7 := { stood := { row := sumAddsRow, standIns := [], harness := (true, "9ce826d93bcaccb313d89d1e0ce366b3136f56dd2cb71a1b65df8d67ae6f08a0"), looks := false }, kinds := [], alts := [], laidByText := true, laidKinds := [.data], laidTests := true, laidLooks := .later }
def SumAddsCardSaid : Prop := Claim7.holds Tryd.pinned (.plain (OpenSpec.ofChange sumAddsSpec)) sumAddsCard

/-- THE TIED CARD OF 'fareboxlaw02.SumJoins'. -/
def sumJoinsCard : Claim7 := { stood := { row := sumJoinsRow, standIns := [], harness := (true, "9ce826d93bcaccb313d89d1e0ce366b3136f56dd2cb71a1b65df8d67ae6f08a0"), looks := false }, kinds := [], alts := [], laidByText := true, laidKinds := [.data], laidTests := true, laidLooks := .later }
def SumJoinsCardSaid : Prop := Claim7.holds Tryd.pinned (.plain (OpenSpec.ofChange sumJoinsSpec)) sumJoinsCard

/-- THE TIED CARD OF 'fareboxlaw02.SumFrames'. -/
def sumFramesCard : Claim7 := { stood := { row := sumFramesRow, standIns := [], harness := (true, "9ce826d93bcaccb313d89d1e0ce366b3136f56dd2cb71a1b65df8d67ae6f08a0"), looks := false }, kinds := [], alts := [], laidByText := true, laidKinds := [.data], laidTests := true, laidLooks := .later }
def SumFramesCardSaid : Prop := Claim7.holds Tryd.pinned (.plain (OpenSpec.ofChange sumFramesSpec)) sumFramesCard

/-- THE TIED CARD OF 'fareboxlaw02.SumParts'. -/
def sumPartsCard : Claim7 := { stood := { row := sumPartsRow, standIns := [], harness := (true, "9ce826d93bcaccb313d89d1e0ce366b3136f56dd2cb71a1b65df8d67ae6f08a0"), looks := false }, kinds := [], alts := [], laidByText := true, laidKinds := [.data], laidTests := true, laidLooks := .later }
def SumPartsCardSaid : Prop := Claim7.holds Tryd.pinned (.plain (OpenSpec.ofChange sumPartsSpec)) sumPartsCard

/-- THE TIED CARD OF 'fareboxlaw02.SumTells'. -/
def sumTellsCard : Claim7 := { stood := { row := sumTellsRow, standIns := [], harness := (true, "9ce826d93bcaccb313d89d1e0ce366b3136f56dd2cb71a1b65df8d67ae6f08a0"), looks := false }, kinds := [], alts := [], laidByText := true, laidKinds := [.data], laidTests := true, laidLooks := .later }
def SumTellsCardSaid : Prop := Claim7.holds Tryd.pinned (.plain (OpenSpec.ofChange sumTellsSpec)) sumTellsCard

/-- THE TIED CARD OF 'fareboxlaw02.SumBack'. -/
def sumBackCard : Claim7 := { stood := { row := sumBackRow, standIns := [], harness := (true, "9ce826d93bcaccb313d89d1e0ce366b3136f56dd2cb71a1b65df8d67ae6f08a0"), looks := false }, kinds := [], alts := [], laidByText := true, laidKinds := [.data], laidTests := true, laidLooks := .later }
def SumBackCardSaid : Prop := Claim7.holds Tryd.pinned (.plain (OpenSpec.ofChange sumBackSpec)) sumBackCard

/-- THE TIED CARD OF 'fareboxlaw02.SumAffine'. -/
def sumAffineCard : Claim7 := { stood := { row := sumAffineRow, standIns := [], harness := (true, "9ce826d93bcaccb313d89d1e0ce366b3136f56dd2cb71a1b65df8d67ae6f08a0"), looks := false }, kinds := [], alts := [], laidByText := true, laidKinds := [.data], laidTests := true, laidLooks := .later }
def SumAffineCardSaid : Prop := Claim7.holds Tryd.pinned (.plain (OpenSpec.ofChange sumAffineSpec)) sumAffineCard

/-- THE SECOND FORM's CARD OF 'fareboxlaw02.SumAdds'. -/
def sumAddsUptoCard : Claim7 := { stood := { row := sumAddsUptoRow, standIns := [], harness := (true, "9ce826d93bcaccb313d89d1e0ce366b3136f56dd2cb71a1b65df8d67ae6f08a0"), looks := false }, kinds := [], alts := [], laidByText := true, laidKinds := [.data], laidTests := true, laidLooks := .later }
def SumAddsUptoCardSaid : Prop := Claim7.holds Tryd.pinned (.plain (OpenSpec.upto sumAddsSpec)) sumAddsUptoCard

/-- THE SECOND FORM's CARD OF 'fareboxlaw02.SumJoins'. -/
def sumJoinsUptoCard : Claim7 := { stood := { row := sumJoinsUptoRow, standIns := [], harness := (true, "9ce826d93bcaccb313d89d1e0ce366b3136f56dd2cb71a1b65df8d67ae6f08a0"), looks := false }, kinds := [], alts := [], laidByText := true, laidKinds := [.data], laidTests := true, laidLooks := .later }
def SumJoinsUptoCardSaid : Prop := Claim7.holds Tryd.pinned (.plain (OpenSpec.upto sumJoinsSpec)) sumJoinsUptoCard

/-- THE SECOND FORM's CARD OF 'fareboxlaw02.SumFrames'. -/
def sumFramesUptoCard : Claim7 := { stood := { row := sumFramesUptoRow, standIns := [], harness := (true, "9ce826d93bcaccb313d89d1e0ce366b3136f56dd2cb71a1b65df8d67ae6f08a0"), looks := false }, kinds := [], alts := [], laidByText := true, laidKinds := [.data], laidTests := true, laidLooks := .later }
def SumFramesUptoCardSaid : Prop := Claim7.holds Tryd.pinned (.plain (OpenSpec.upto sumFramesSpec)) sumFramesUptoCard

/-- THE SECOND FORM's CARD OF 'fareboxlaw02.SumParts'. -/
def sumPartsUptoCard : Claim7 := { stood := { row := sumPartsUptoRow, standIns := [], harness := (true, "9ce826d93bcaccb313d89d1e0ce366b3136f56dd2cb71a1b65df8d67ae6f08a0"), looks := false }, kinds := [], alts := [], laidByText := true, laidKinds := [.data], laidTests := true, laidLooks := .later }
def SumPartsUptoCardSaid : Prop := Claim7.holds Tryd.pinned (.plain (OpenSpec.upto sumPartsSpec)) sumPartsUptoCard

/-- THE SECOND FORM's CARD OF 'fareboxlaw02.SumTells'. -/
def sumTellsUptoCard : Claim7 := { stood := { row := sumTellsUptoRow, standIns := [], harness := (true, "9ce826d93bcaccb313d89d1e0ce366b3136f56dd2cb71a1b65df8d67ae6f08a0"), looks := false }, kinds := [], alts := [], laidByText := true, laidKinds := [.data], laidTests := true, laidLooks := .later }
def SumTellsUptoCardSaid : Prop := Claim7.holds Tryd.pinned (.plain (OpenSpec.upto sumTellsSpec)) sumTellsUptoCard

/-- THE SECOND FORM's CARD OF 'fareboxlaw02.SumBack'. -/
def sumBackUptoCard : Claim7 := { stood := { row := sumBackUptoRow, standIns := [], harness := (true, "9ce826d93bcaccb313d89d1e0ce366b3136f56dd2cb71a1b65df8d67ae6f08a0"), looks := false }, kinds := [], alts := [], laidByText := true, laidKinds := [.data], laidTests := true, laidLooks := .later }
def SumBackUptoCardSaid : Prop := Claim7.holds Tryd.pinned (.plain (OpenSpec.upto sumBackSpec)) sumBackUptoCard

/-- THE SECOND FORM's CARD OF 'fareboxlaw02.SumAffine'. -/
def sumAffineUptoCard : Claim7 := { stood := { row := sumAffineUptoRow, standIns := [], harness := (true, "9ce826d93bcaccb313d89d1e0ce366b3136f56dd2cb71a1b65df8d67ae6f08a0"), looks := false }, kinds := [], alts := [], laidByText := true, laidKinds := [.data], laidTests := true, laidLooks := .later }
def SumAffineUptoCardSaid : Prop := Claim7.holds Tryd.pinned (.plain (OpenSpec.upto sumAffineSpec)) sumAffineUptoCard
end Rows
end Go.Proofs.YtcfgcbcciaeabaaDoor
