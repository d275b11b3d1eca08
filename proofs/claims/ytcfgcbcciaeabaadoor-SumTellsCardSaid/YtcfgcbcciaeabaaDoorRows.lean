/-
  NARROWER THAN 'FOR EVERY INPUT', by the rows' own cells (each row's printed sentence says how): SumAdds: laid · SumJoins: laid · SumFrames: laid · SumParts: laid · SumTells: laid · SumBack: laid · SumAffine: laid.
  DERIVED. THE GIVEN ROWS OF THIS SEAT. 7 by the template 'for every input the law returns true; each argument reads behind the call as it read before'; 0 by the template 'total and deterministic' (their statements: YtcfgcbcciaeabaaDoorTotals.lean).
  GIVEN WITH THE SEED: the statements are not yours to turn. If you find one false, say at which input.
  Laid BY PROGRAM, IN A SANDBOX (cutbox-rows.mjs): the forced cells as the released guide's own fill.sh prints them over the translation ef637f1b602df45f… (all of the seat's roots in one cut). By AI agents, Wed Nov 11 2026. No macro, syntax, notation, axiom, sorry.
-/
import Derived.Test.YtcfgcbcciaeabaaDoorChecked
import GoSem.Claim
import GoSem.ClaimJoined
import GoSem.ClaimMapViews
import Derived.JoinedTies
import Derived.KernelRfl
namespace Go.Proofs.YtcfgcbcciaeabaaDoor
/- THE CELL 'sum', in the pinned program and in every row, IS THE sha256 OF THE DUMP (.gsa) THAT YtcfgcbcciaeabaaDoorProg.lean LOADS. Nothing in Lean hashes anything: it is a label: what it is worth is what the hold of that sum in a sandbox is worth. -/
noncomputable def Tryd.pinned : Pinned := { name := "ytcfgcbcciaeabaadoor", sum := "ef637f1b602df45f8f0807b4f660e3f69b5aba8889a31d4fa2839e45f6ec82d5", checked := Tryd.checked }
namespace Rows
def none {H : Type} : Left H := { results := [], args := [] }

/- WHAT THE LISTED PACKAGE-LEVEL VARIABLES READ AS WHEN THE CALL BEGINS. Each datum BY PROGRAM (the guide's laid-datum.mjs) off the statement by which the dump's own 'gosem.cut.vars' lays the variable. In a bare row this is a premise. The card (YtcfgcbcciaeabaaDoorCards.lean) ties it to the program's text. -/
def laid_farebox_sum_nibble {H : Type} : DataW H := .agg [.lit (.int .u32 0), .lit (.int .u32 274646895), .lit (.int .u32 549293790), .lit (.int .u32 820201905), .lit (.int .u32 1098587580), .lit (.int .u32 1361435347), .lit (.int .u32 1640403810), .lit (.int .u32 1905808397), .lit (.int .u32 2197175160), .lit (.int .u32 2460548119), .lit (.int .u32 2722870694), .lit (.int .u32 2987750089), .lit (.int .u32 3280807620), .lit (.int .u32 3553878443), .lit (.int .u32 3811616794), .lit (.int .u32 4084100981)]

/-- 'fareboxlaw02.SumAdds': WHATEVER THE INPUT: true; the input reads as it did. -/
def sumAddsSpec : ChangeSpec := { name := "sumAdds", fn := fun _ => fun
  | [d1, d2] => { results := [.lit (.bool true)], args := [d1, d2] }
  | _ => none }
def sumAddsRow : OpenClaim := { program := "ytcfgcbcciaeabaadoor", sum := "ef637f1b602df45f8f0807b4f660e3f69b5aba8889a31d4fa2839e45f6ec82d5", func := "farebox/fareboxlaw02.SumAdds", spec := "sumAdds", named := ["farebox/sum.nibble"], apart := false, laid := [("farebox/sum.nibble", laid_farebox_sum_nibble)] }
def SumAddsSaid : Prop := sumAddsRow.holds Tryd.pinned (OpenSpec.ofChange sumAddsSpec)

/-- ITS FALSE NEIGHBOUR: 'it returns false'. Refute it at one input. -/
def sumAddsWrong : ChangeSpec := { name := "sumAdds", fn := fun _ => fun
  | [d1, d2] => { results := [.lit (.bool false)], args := [d1, d2] }
  | _ => none }
def SumAddsWrongFalsely : Prop := sumAddsRow.holds Tryd.pinned (OpenSpec.ofChange sumAddsWrong)

/-- 'fareboxlaw02.SumJoins': WHATEVER THE INPUT: true; the input reads as it did. -/
def sumJoinsSpec : ChangeSpec := { name := "sumJoins", fn := fun _ => fun
  | [d1, d2, d3] => { results := [.lit (.bool true)], args := [d1, d2, d3] }
  | _ => none }
def sumJoinsRow : OpenClaim := { program := "ytcfgcbcciaeabaadoor", sum := "ef637f1b602df45f8f0807b4f660e3f69b5aba8889a31d4fa2839e45f6ec82d5", func := "farebox/fareboxlaw02.SumJoins", spec := "sumJoins", named := ["farebox/sum.nibble"], apart := false, laid := [("farebox/sum.nibble", laid_farebox_sum_nibble)] }
def SumJoinsSaid : Prop := sumJoinsRow.holds Tryd.pinned (OpenSpec.ofChange sumJoinsSpec)

/-- ITS FALSE NEIGHBOUR: 'it returns false'. Refute it at one input. -/
def sumJoinsWrong : ChangeSpec := { name := "sumJoins", fn := fun _ => fun
  | [d1, d2, d3] => { results := [.lit (.bool false)], args := [d1, d2, d3] }
  | _ => none }
def SumJoinsWrongFalsely : Prop := sumJoinsRow.holds Tryd.pinned (OpenSpec.ofChange sumJoinsWrong)

/-- 'fareboxlaw02.SumFrames': WHATEVER THE INPUT: true; the input reads as it did. -/
def sumFramesSpec : ChangeSpec := { name := "sumFrames", fn := fun _ => fun
  | [d1, d2] => { results := [.lit (.bool true)], args := [d1, d2] }
  | _ => none }
def sumFramesRow : OpenClaim := { program := "ytcfgcbcciaeabaadoor", sum := "ef637f1b602df45f8f0807b4f660e3f69b5aba8889a31d4fa2839e45f6ec82d5", func := "farebox/fareboxlaw02.SumFrames", spec := "sumFrames", named := ["farebox/sum.nibble"], apart := false, laid := [("farebox/sum.nibble", laid_farebox_sum_nibble)] }
def SumFramesSaid : Prop := sumFramesRow.holds Tryd.pinned (OpenSpec.ofChange sumFramesSpec)

/-- ITS FALSE NEIGHBOUR: 'it returns false'. Refute it at one input. -/
def sumFramesWrong : ChangeSpec := { name := "sumFrames", fn := fun _ => fun
  | [d1, d2] => { results := [.lit (.bool false)], args := [d1, d2] }
  | _ => none }
def SumFramesWrongFalsely : Prop := sumFramesRow.holds Tryd.pinned (OpenSpec.ofChange sumFramesWrong)

/-- 'fareboxlaw02.SumParts': WHATEVER THE INPUT: true; the input reads as it did. -/
def sumPartsSpec : ChangeSpec := { name := "sumParts", fn := fun _ => fun
  | [d1, d2, d3] => { results := [.lit (.bool true)], args := [d1, d2, d3] }
  | _ => none }
def sumPartsRow : OpenClaim := { program := "ytcfgcbcciaeabaadoor", sum := "ef637f1b602df45f8f0807b4f660e3f69b5aba8889a31d4fa2839e45f6ec82d5", func := "farebox/fareboxlaw02.SumParts", spec := "sumParts", named := ["farebox/sum.nibble"], apart := false, laid := [("farebox/sum.nibble", laid_farebox_sum_nibble)] }
def SumPartsSaid : Prop := sumPartsRow.holds Tryd.pinned (OpenSpec.ofChange sumPartsSpec)

/-- ITS FALSE NEIGHBOUR: 'it returns false'. Refute it at one input. -/
def sumPartsWrong : ChangeSpec := { name := "sumParts", fn := fun _ => fun
  | [d1, d2, d3] => { results := [.lit (.bool false)], args := [d1, d2, d3] }
  | _ => none }
def SumPartsWrongFalsely : Prop := sumPartsRow.holds Tryd.pinned (OpenSpec.ofChange sumPartsWrong)

/-- 'fareboxlaw02.SumTells': WHATEVER THE INPUT: true; the input reads as it did. -/
def sumTellsSpec : ChangeSpec := { name := "sumTells", fn := fun _ => fun
  | [d1, d2, d3] => { results := [.lit (.bool true)], args := [d1, d2, d3] }
  | _ => none }
def sumTellsRow : OpenClaim := { program := "ytcfgcbcciaeabaadoor", sum := "ef637f1b602df45f8f0807b4f660e3f69b5aba8889a31d4fa2839e45f6ec82d5", func := "farebox/fareboxlaw02.SumTells", spec := "sumTells", named := ["farebox/sum.nibble"], apart := false, laid := [("farebox/sum.nibble", laid_farebox_sum_nibble)] }
def SumTellsSaid : Prop := sumTellsRow.holds Tryd.pinned (OpenSpec.ofChange sumTellsSpec)

/-- ITS FALSE NEIGHBOUR: 'it returns false'. Refute it at one input. -/
def sumTellsWrong : ChangeSpec := { name := "sumTells", fn := fun _ => fun
  | [d1, d2, d3] => { results := [.lit (.bool false)], args := [d1, d2, d3] }
  | _ => none }
def SumTellsWrongFalsely : Prop := sumTellsRow.holds Tryd.pinned (OpenSpec.ofChange sumTellsWrong)

/-- 'fareboxlaw02.SumBack': WHATEVER THE INPUT: true; the input reads as it did. -/
def sumBackSpec : ChangeSpec := { name := "sumBack", fn := fun _ => fun
  | [d1, d2] => { results := [.lit (.bool true)], args := [d1, d2] }
  | _ => none }
def sumBackRow : OpenClaim := { program := "ytcfgcbcciaeabaadoor", sum := "ef637f1b602df45f8f0807b4f660e3f69b5aba8889a31d4fa2839e45f6ec82d5", func := "farebox/fareboxlaw02.SumBack", spec := "sumBack", named := ["farebox/sum.nibble"], apart := false, laid := [("farebox/sum.nibble", laid_farebox_sum_nibble)] }
def SumBackSaid : Prop := sumBackRow.holds Tryd.pinned (OpenSpec.ofChange sumBackSpec)

/-- ITS FALSE NEIGHBOUR: 'it returns false'. Refute it at one input. -/
def sumBackWrong : ChangeSpec := { name := "sumBack", fn := fun _ => fun
  | [d1, d2] => { results := [.lit (.bool false)], args := [d1, d2] }
  | _ => none }
def SumBackWrongFalsely : Prop := sumBackRow.holds Tryd.pinned (OpenSpec.ofChange sumBackWrong)

/-- 'fareboxlaw02.SumAffine': WHATEVER THE INPUT: true; the input reads as it did. -/
def sumAffineSpec : ChangeSpec := { name := "sumAffine", fn := fun _ => fun
  | [d1, d2, d3] => { results := [.lit (.bool true)], args := [d1, d2, d3] }
  | _ => none }
def sumAffineRow : OpenClaim := { program := "ytcfgcbcciaeabaadoor", sum := "ef637f1b602df45f8f0807b4f660e3f69b5aba8889a31d4fa2839e45f6ec82d5", func := "farebox/fareboxlaw02.SumAffine", spec := "sumAffine", named := ["farebox/sum.nibble"], apart := false, laid := [("farebox/sum.nibble", laid_farebox_sum_nibble)] }
def SumAffineSaid : Prop := sumAffineRow.holds Tryd.pinned (OpenSpec.ofChange sumAffineSpec)

/-- ITS FALSE NEIGHBOUR: 'it returns false'. Refute it at one input. -/
def sumAffineWrong : ChangeSpec := { name := "sumAffine", fn := fun _ => fun
  | [d1, d2, d3] => { results := [.lit (.bool false)], args := [d1, d2, d3] }
  | _ => none }
def SumAffineWrongFalsely : Prop := sumAffineRow.holds Tryd.pinned (OpenSpec.ofChange sumAffineWrong)

/- THE SECOND FORM. 'bulk': how many values and letters a reading holds, each counted each time it is reached (what is shared counts as often as it is met; a slice's spare places count too). A statement '..UptoSaid' is the law's where the arguments, and the package variables that the reading takes, are together of bulk at most 1048576: NARROWER than '..Said'. Prove '..Said' where nothing that the law and all that it calls make is longer than what came in: it says more and counts as full. Else prove '..UptoSaid'. A law counts once. -/
mutual
def uptoBulk {H : Type} : DataW H → Nat
  | .lit (.string bytes) => bytes.length + 1
  | .lit _ => 1
  | .nil => 1
  | .ptr d => uptoBulk d + 1
  | .slice elems spare => uptoBulkAll elems + uptoBulkAll spare + 1
  | .agg parts => uptoBulkAll parts + 1
  | .iface _ d => uptoBulk d + 1
  | .map entries => uptoBulkEntries entries + 1
  | .held _ => 1
def uptoBulkAll {H : Type} : List (DataW H) → Nat
  | [] => 0
  | d :: r => uptoBulk d + uptoBulkAll r
def uptoBulkEntries {H : Type} : List (Lit × DataW H) → Nat
  | [] => 0
  | x :: r => uptoBulkEntry x + uptoBulkEntries r
def uptoBulkEntry {H : Type} : Lit × DataW H → Nat
  | (.string bytes, d) => bytes.length + uptoBulk d + 1
  | (_, d) => uptoBulk d + 1
 end
def uptoSmall : (H : Type) → List (DataW H) → Bool := fun _ ds => decide (uptoBulkAll ds ≤ 1048576)
def OpenSpec.upto (s : _root_.Go.ChangeSpec) : _root_.Go.OpenSpec := { _root_.Go.OpenSpec.ofChange s with cond := some uptoSmall }

/-- 'fareboxlaw02.SumAdds', WHERE WHAT IT READS IS OF BULK AT MOST 1048576: true; the input reads as it did. -/
def sumAddsUptoRow : OpenClaim := { program := "ytcfgcbcciaeabaadoor", sum := "ef637f1b602df45f8f0807b4f660e3f69b5aba8889a31d4fa2839e45f6ec82d5", func := "farebox/fareboxlaw02.SumAdds", spec := "sumAdds", named := ["farebox/sum.nibble"], apart := false, laid := [("farebox/sum.nibble", laid_farebox_sum_nibble)], narrowed := true }
def SumAddsUptoSaid : Prop := sumAddsUptoRow.holds Tryd.pinned (OpenSpec.upto sumAddsSpec)

/-- 'fareboxlaw02.SumJoins', WHERE WHAT IT READS IS OF BULK AT MOST 1048576: true; the input reads as it did. -/
def sumJoinsUptoRow : OpenClaim := { program := "ytcfgcbcciaeabaadoor", sum := "ef637f1b602df45f8f0807b4f660e3f69b5aba8889a31d4fa2839e45f6ec82d5", func := "farebox/fareboxlaw02.SumJoins", spec := "sumJoins", named := ["farebox/sum.nibble"], apart := false, laid := [("farebox/sum.nibble", laid_farebox_sum_nibble)], narrowed := true }
def SumJoinsUptoSaid : Prop := sumJoinsUptoRow.holds Tryd.pinned (OpenSpec.upto sumJoinsSpec)

/-- 'fareboxlaw02.SumFrames', WHERE WHAT IT READS IS OF BULK AT MOST 1048576: true; the input reads as it did. -/
def sumFramesUptoRow : OpenClaim := { program := "ytcfgcbcciaeabaadoor", sum := "ef637f1b602df45f8f0807b4f660e3f69b5aba8889a31d4fa2839e45f6ec82d5", func := "farebox/fareboxlaw02.SumFrames", spec := "sumFrames", named := ["farebox/sum.nibble"], apart := false, laid := [("farebox/sum.nibble", laid_farebox_sum_nibble)], narrowed := true }
def SumFramesUptoSaid : Prop := sumFramesUptoRow.holds Tryd.pinned (OpenSpec.upto sumFramesSpec)

/-- 'fareboxlaw02.SumParts', WHERE WHAT IT READS IS OF BULK AT MOST 1048576: true; the input reads as it did. -/
def sumPartsUptoRow : OpenClaim := { program := "ytcfgcbcciaeabaadoor", sum := "ef637f1b602df45f8f0807b4f660e3f69b5aba8889a31d4fa2839e45f6ec82d5", func := "farebox/fareboxlaw02.SumParts", spec := "sumParts", named := ["farebox/sum.nibble"], apart := false, laid := [("farebox/sum.nibble", laid_farebox_sum_nibble)], narrowed := true }
def SumPartsUptoSaid : Prop := sumPartsUptoRow.holds Tryd.pinned (OpenSpec.upto sumPartsSpec)

/-- 'fareboxlaw02.SumTells', WHERE WHAT IT READS IS OF BULK AT MOST 1048576: true; the input reads as it did. -/
def sumTellsUptoRow : OpenClaim := { program := "ytcfgcbcciaeabaadoor", sum := "ef637f1b602df45f8f0807b4f660e3f69b5aba8889a31d4fa2839e45f6ec82d5", func := "farebox/fareboxlaw02.SumTells", spec := "sumTells", named := ["farebox/sum.nibble"], apart := false, laid := [("farebox/sum.nibble", laid_farebox_sum_nibble)], narrowed := true }
def SumTellsUptoSaid : Prop := sumTellsUptoRow.holds Tryd.pinned (OpenSpec.upto sumTellsSpec)

/-- 'fareboxlaw02.SumBack', WHERE WHAT IT READS IS OF BULK AT MOST 1048576: true; the input reads as it did. -/
def sumBackUptoRow : OpenClaim := { program := "ytcfgcbcciaeabaadoor", sum := "ef637f1b602df45f8f0807b4f660e3f69b5aba8889a31d4fa2839e45f6ec82d5", func := "farebox/fareboxlaw02.SumBack", spec := "sumBack", named := ["farebox/sum.nibble"], apart := false, laid := [("farebox/sum.nibble", laid_farebox_sum_nibble)], narrowed := true }
def SumBackUptoSaid : Prop := sumBackUptoRow.holds Tryd.pinned (OpenSpec.upto sumBackSpec)

/-- 'fareboxlaw02.SumAffine', WHERE WHAT IT READS IS OF BULK AT MOST 1048576: true; the input reads as it did. -/
def sumAffineUptoRow : OpenClaim := { program := "ytcfgcbcciaeabaadoor", sum := "ef637f1b602df45f8f0807b4f660e3f69b5aba8889a31d4fa2839e45f6ec82d5", func := "farebox/fareboxlaw02.SumAffine", spec := "sumAffine", named := ["farebox/sum.nibble"], apart := false, laid := [("farebox/sum.nibble", laid_farebox_sum_nibble)], narrowed := true }
def SumAffineUptoSaid : Prop := sumAffineUptoRow.holds Tryd.pinned (OpenSpec.upto sumAffineSpec)

end Rows
end Go.Proofs.YtcfgcbcciaeabaaDoor
