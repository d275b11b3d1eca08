/-
  NARROWER THAN 'FOR EVERY INPUT', by the rows' own cells (each row's printed sentence says how): HashSums: laid · HashPieces: laid · HashPlays: laid · HashApart: laid · SealMacs: laid · SealOpens: laid · SealBack: laid · SealPads: laid · SealKeys: laid · SealApart: laid.
  DERIVED. THE GIVEN ROWS OF THIS SEAT. 10 by the template 'for every input the law returns true; each argument reads behind the call as it read before'; 0 by the template 'total and deterministic' (their statements: YtcelojkecfiocaaDoorTotals.lean).
  GIVEN WITH THE SEED: the statements are not yours to turn. If you find one false, say at which input.
  Laid BY PROGRAM, IN A SANDBOX (cutbox-rows.mjs): the forced cells as the released guide's own fill.sh prints them over the translation 9416fe5d8fc50f0c… (all of the seat's roots in one cut). By AI agents, Wed Nov 11 2026. No macro, syntax, notation, axiom, sorry.
-/
import Derived.Test.YtcelojkecfiocaaDoorChecked
import GoSem.Claim
import GoSem.ClaimJoined
import GoSem.ClaimMapViews
import Derived.JoinedTies
import Derived.KernelRfl
namespace Go.Proofs.YtcelojkecfiocaaDoor
/- THE CELL 'sum', in the pinned program and in every row, IS THE sha256 OF THE DUMP (.gsa) THAT YtcelojkecfiocaaDoorProg.lean LOADS. Nothing in Lean hashes anything: it is a label: what it is worth is what the hold of that sum in a sandbox is worth. -/
noncomputable def Tryd.pinned : Pinned := { name := "ytcelojkecfiocaadoor", sum := "9416fe5d8fc50f0cabc7d645fce59826c9d0ac15836e5cc83b0fa1382155fb9c", checked := Tryd.checked }
namespace Rows
def none {H : Type} : Left H := { results := [], args := [] }

/- WHAT THE LISTED PACKAGE-LEVEL VARIABLES READ AS WHEN THE CALL BEGINS. Each datum BY PROGRAM (the guide's laid-datum.mjs) off the statement by which the dump's own 'gosem.cut.vars' lays the variable. In a bare row this is a premise. The card (YtcelojkecfiocaaDoorCards.lean) ties it to the program's text. -/
def laid_farebox_fareboxref03_first {H : Type} : DataW H := .agg [.lit (.int .u32 1779033703), .lit (.int .u32 3144134277), .lit (.int .u32 1013904242), .lit (.int .u32 2773480762), .lit (.int .u32 1359893119), .lit (.int .u32 2600822924), .lit (.int .u32 528734635), .lit (.int .u32 1541459225)]
def laid_farebox_fareboxref03_k {H : Type} : DataW H := .agg [.lit (.int .u32 1116352408), .lit (.int .u32 1899447441), .lit (.int .u32 3049323471), .lit (.int .u32 3921009573), .lit (.int .u32 961987163), .lit (.int .u32 1508970993), .lit (.int .u32 2453635748), .lit (.int .u32 2870763221), .lit (.int .u32 3624381080), .lit (.int .u32 310598401), .lit (.int .u32 607225278), .lit (.int .u32 1426881987), .lit (.int .u32 1925078388), .lit (.int .u32 2162078206), .lit (.int .u32 2614888103), .lit (.int .u32 3248222580), .lit (.int .u32 3835390401), .lit (.int .u32 4022224774), .lit (.int .u32 264347078), .lit (.int .u32 604807628), .lit (.int .u32 770255983), .lit (.int .u32 1249150122), .lit (.int .u32 1555081692), .lit (.int .u32 1996064986), .lit (.int .u32 2554220882), .lit (.int .u32 2821834349), .lit (.int .u32 2952996808), .lit (.int .u32 3210313671), .lit (.int .u32 3336571891), .lit (.int .u32 3584528711), .lit (.int .u32 113926993), .lit (.int .u32 338241895), .lit (.int .u32 666307205), .lit (.int .u32 773529912), .lit (.int .u32 1294757372), .lit (.int .u32 1396182291), .lit (.int .u32 1695183700), .lit (.int .u32 1986661051), .lit (.int .u32 2177026350), .lit (.int .u32 2456956037), .lit (.int .u32 2730485921), .lit (.int .u32 2820302411), .lit (.int .u32 3259730800), .lit (.int .u32 3345764771), .lit (.int .u32 3516065817), .lit (.int .u32 3600352804), .lit (.int .u32 4094571909), .lit (.int .u32 275423344), .lit (.int .u32 430227734), .lit (.int .u32 506948616), .lit (.int .u32 659060556), .lit (.int .u32 883997877), .lit (.int .u32 958139571), .lit (.int .u32 1322822218), .lit (.int .u32 1537002063), .lit (.int .u32 1747873779), .lit (.int .u32 1955562222), .lit (.int .u32 2024104815), .lit (.int .u32 2227730452), .lit (.int .u32 2361852424), .lit (.int .u32 2428436474), .lit (.int .u32 2756734187), .lit (.int .u32 3204031479), .lit (.int .u32 3329325298)]
def laid_farebox_hash_start {H : Type} : DataW H := .agg [.lit (.int .u32 1779033703), .lit (.int .u32 3144134277), .lit (.int .u32 1013904242), .lit (.int .u32 2773480762), .lit (.int .u32 1359893119), .lit (.int .u32 2600822924), .lit (.int .u32 528734635), .lit (.int .u32 1541459225)]
def laid_farebox_hash_rounds {H : Type} : DataW H := .agg [.lit (.int .u32 1116352408), .lit (.int .u32 1899447441), .lit (.int .u32 3049323471), .lit (.int .u32 3921009573), .lit (.int .u32 961987163), .lit (.int .u32 1508970993), .lit (.int .u32 2453635748), .lit (.int .u32 2870763221), .lit (.int .u32 3624381080), .lit (.int .u32 310598401), .lit (.int .u32 607225278), .lit (.int .u32 1426881987), .lit (.int .u32 1925078388), .lit (.int .u32 2162078206), .lit (.int .u32 2614888103), .lit (.int .u32 3248222580), .lit (.int .u32 3835390401), .lit (.int .u32 4022224774), .lit (.int .u32 264347078), .lit (.int .u32 604807628), .lit (.int .u32 770255983), .lit (.int .u32 1249150122), .lit (.int .u32 1555081692), .lit (.int .u32 1996064986), .lit (.int .u32 2554220882), .lit (.int .u32 2821834349), .lit (.int .u32 2952996808), .lit (.int .u32 3210313671), .lit (.int .u32 3336571891), .lit (.int .u32 3584528711), .lit (.int .u32 113926993), .lit (.int .u32 338241895), .lit (.int .u32 666307205), .lit (.int .u32 773529912), .lit (.int .u32 1294757372), .lit (.int .u32 1396182291), .lit (.int .u32 1695183700), .lit (.int .u32 1986661051), .lit (.int .u32 2177026350), .lit (.int .u32 2456956037), .lit (.int .u32 2730485921), .lit (.int .u32 2820302411), .lit (.int .u32 3259730800), .lit (.int .u32 3345764771), .lit (.int .u32 3516065817), .lit (.int .u32 3600352804), .lit (.int .u32 4094571909), .lit (.int .u32 275423344), .lit (.int .u32 430227734), .lit (.int .u32 506948616), .lit (.int .u32 659060556), .lit (.int .u32 883997877), .lit (.int .u32 958139571), .lit (.int .u32 1322822218), .lit (.int .u32 1537002063), .lit (.int .u32 1747873779), .lit (.int .u32 1955562222), .lit (.int .u32 2024104815), .lit (.int .u32 2227730452), .lit (.int .u32 2361852424), .lit (.int .u32 2428436474), .lit (.int .u32 2756734187), .lit (.int .u32 3204031479), .lit (.int .u32 3329325298)]

/-- 'fareboxlaw03.HashSums': WHATEVER THE INPUT: true; the input reads as it did. -/
def hashSumsSpec : ChangeSpec := { name := "hashSums", fn := fun _ => fun
  | [d] => { results := [.lit (.bool true)], args := [d] }
  | _ => none }
def hashSumsRow : OpenClaim := { program := "ytcelojkecfiocaadoor", sum := "9416fe5d8fc50f0cabc7d645fce59826c9d0ac15836e5cc83b0fa1382155fb9c", func := "farebox/fareboxlaw03.HashSums", spec := "hashSums", named := ["farebox/hash.start", "farebox/hash.rounds", "farebox/fareboxref03.first", "farebox/fareboxref03.k"], apart := false, laid := [("farebox/fareboxref03.first", laid_farebox_fareboxref03_first), ("farebox/fareboxref03.k", laid_farebox_fareboxref03_k), ("farebox/hash.start", laid_farebox_hash_start), ("farebox/hash.rounds", laid_farebox_hash_rounds)] }
def HashSumsSaid : Prop := hashSumsRow.holds Tryd.pinned (OpenSpec.ofChange hashSumsSpec)

/-- ITS FALSE NEIGHBOUR: 'it returns false'. Refute it at one input. -/
def hashSumsWrong : ChangeSpec := { name := "hashSums", fn := fun _ => fun
  | [d] => { results := [.lit (.bool false)], args := [d] }
  | _ => none }
def HashSumsWrongFalsely : Prop := hashSumsRow.holds Tryd.pinned (OpenSpec.ofChange hashSumsWrong)

/-- 'fareboxlaw03.HashPieces': WHATEVER THE INPUT: true; the input reads as it did. -/
def hashPiecesSpec : ChangeSpec := { name := "hashPieces", fn := fun _ => fun
  | [d1, d2] => { results := [.lit (.bool true)], args := [d1, d2] }
  | _ => none }
def hashPiecesRow : OpenClaim := { program := "ytcelojkecfiocaadoor", sum := "9416fe5d8fc50f0cabc7d645fce59826c9d0ac15836e5cc83b0fa1382155fb9c", func := "farebox/fareboxlaw03.HashPieces", spec := "hashPieces", named := ["farebox/hash.start", "farebox/hash.rounds"], apart := false, laid := [("farebox/hash.start", laid_farebox_hash_start), ("farebox/hash.rounds", laid_farebox_hash_rounds)] }
def HashPiecesSaid : Prop := hashPiecesRow.holds Tryd.pinned (OpenSpec.ofChange hashPiecesSpec)

/-- ITS FALSE NEIGHBOUR: 'it returns false'. Refute it at one input. -/
def hashPiecesWrong : ChangeSpec := { name := "hashPieces", fn := fun _ => fun
  | [d1, d2] => { results := [.lit (.bool false)], args := [d1, d2] }
  | _ => none }
def HashPiecesWrongFalsely : Prop := hashPiecesRow.holds Tryd.pinned (OpenSpec.ofChange hashPiecesWrong)

/-- 'fareboxlaw03.HashPlays': WHATEVER THE INPUT: true; the input reads as it did. -/
def hashPlaysSpec : ChangeSpec := { name := "hashPlays", fn := fun _ => fun
  | [d] => { results := [.lit (.bool true)], args := [d] }
  | _ => none }
def hashPlaysRow : OpenClaim := { program := "ytcelojkecfiocaadoor", sum := "9416fe5d8fc50f0cabc7d645fce59826c9d0ac15836e5cc83b0fa1382155fb9c", func := "farebox/fareboxlaw03.HashPlays", spec := "hashPlays", named := ["farebox/hash.start", "farebox/hash.rounds", "farebox/fareboxref03.first", "farebox/fareboxref03.k"], apart := false, laid := [("farebox/fareboxref03.first", laid_farebox_fareboxref03_first), ("farebox/fareboxref03.k", laid_farebox_fareboxref03_k), ("farebox/hash.start", laid_farebox_hash_start), ("farebox/hash.rounds", laid_farebox_hash_rounds)] }
def HashPlaysSaid : Prop := hashPlaysRow.holds Tryd.pinned (OpenSpec.ofChange hashPlaysSpec)

/-- ITS FALSE NEIGHBOUR: 'it returns false'. Refute it at one input. -/
def hashPlaysWrong : ChangeSpec := { name := "hashPlays", fn := fun _ => fun
  | [d] => { results := [.lit (.bool false)], args := [d] }
  | _ => none }
def HashPlaysWrongFalsely : Prop := hashPlaysRow.holds Tryd.pinned (OpenSpec.ofChange hashPlaysWrong)

/-- 'fareboxlaw03.HashApart': WHATEVER THE INPUT: true; the input reads as it did. -/
def hashApartSpec : ChangeSpec := { name := "hashApart", fn := fun _ => fun
  | [d1, d2, d3] => { results := [.lit (.bool true)], args := [d1, d2, d3] }
  | _ => none }
def hashApartRow : OpenClaim := { program := "ytcelojkecfiocaadoor", sum := "9416fe5d8fc50f0cabc7d645fce59826c9d0ac15836e5cc83b0fa1382155fb9c", func := "farebox/fareboxlaw03.HashApart", spec := "hashApart", named := ["farebox/hash.start", "farebox/hash.rounds"], apart := false, laid := [("farebox/hash.start", laid_farebox_hash_start), ("farebox/hash.rounds", laid_farebox_hash_rounds)] }
def HashApartSaid : Prop := hashApartRow.holds Tryd.pinned (OpenSpec.ofChange hashApartSpec)

/-- ITS FALSE NEIGHBOUR: 'it returns false'. Refute it at one input. -/
def hashApartWrong : ChangeSpec := { name := "hashApart", fn := fun _ => fun
  | [d1, d2, d3] => { results := [.lit (.bool false)], args := [d1, d2, d3] }
  | _ => none }
def HashApartWrongFalsely : Prop := hashApartRow.holds Tryd.pinned (OpenSpec.ofChange hashApartWrong)

/-- 'fareboxlaw04.SealMacs': WHATEVER THE INPUT: true; the input reads as it did. -/
def sealMacsSpec : ChangeSpec := { name := "sealMacs", fn := fun _ => fun
  | [d1, d2, d3] => { results := [.lit (.bool true)], args := [d1, d2, d3] }
  | _ => none }
def sealMacsRow : OpenClaim := { program := "ytcelojkecfiocaadoor", sum := "9416fe5d8fc50f0cabc7d645fce59826c9d0ac15836e5cc83b0fa1382155fb9c", func := "farebox/fareboxlaw04.SealMacs", spec := "sealMacs", unfollowed := true, recurses := true, named := ["farebox/hash.start", "farebox/hash.rounds", "farebox/fareboxref03.first", "farebox/fareboxref03.k"], apart := false, laid := [("farebox/fareboxref03.first", laid_farebox_fareboxref03_first), ("farebox/fareboxref03.k", laid_farebox_fareboxref03_k), ("farebox/hash.start", laid_farebox_hash_start), ("farebox/hash.rounds", laid_farebox_hash_rounds)] }
def SealMacsSaid : Prop := sealMacsRow.holds Tryd.pinned (OpenSpec.ofChange sealMacsSpec)

/-- ITS FALSE NEIGHBOUR: 'it returns false'. Refute it at one input. -/
def sealMacsWrong : ChangeSpec := { name := "sealMacs", fn := fun _ => fun
  | [d1, d2, d3] => { results := [.lit (.bool false)], args := [d1, d2, d3] }
  | _ => none }
def SealMacsWrongFalsely : Prop := sealMacsRow.holds Tryd.pinned (OpenSpec.ofChange sealMacsWrong)

/-- 'fareboxlaw04.SealOpens': WHATEVER THE INPUT: true; the input reads as it did. -/
def sealOpensSpec : ChangeSpec := { name := "sealOpens", fn := fun _ => fun
  | [d1, d2, d3] => { results := [.lit (.bool true)], args := [d1, d2, d3] }
  | _ => none }
def sealOpensRow : OpenClaim := { program := "ytcelojkecfiocaadoor", sum := "9416fe5d8fc50f0cabc7d645fce59826c9d0ac15836e5cc83b0fa1382155fb9c", func := "farebox/fareboxlaw04.SealOpens", spec := "sealOpens", unfollowed := true, recurses := true, named := ["farebox/hash.start", "farebox/hash.rounds", "farebox/fareboxref03.first", "farebox/fareboxref03.k"], apart := false, laid := [("farebox/fareboxref03.first", laid_farebox_fareboxref03_first), ("farebox/fareboxref03.k", laid_farebox_fareboxref03_k), ("farebox/hash.start", laid_farebox_hash_start), ("farebox/hash.rounds", laid_farebox_hash_rounds)] }
def SealOpensSaid : Prop := sealOpensRow.holds Tryd.pinned (OpenSpec.ofChange sealOpensSpec)

/-- ITS FALSE NEIGHBOUR: 'it returns false'. Refute it at one input. -/
def sealOpensWrong : ChangeSpec := { name := "sealOpens", fn := fun _ => fun
  | [d1, d2, d3] => { results := [.lit (.bool false)], args := [d1, d2, d3] }
  | _ => none }
def SealOpensWrongFalsely : Prop := sealOpensRow.holds Tryd.pinned (OpenSpec.ofChange sealOpensWrong)

/-- 'fareboxlaw04.SealBack': WHATEVER THE INPUT: true; the input reads as it did. -/
def sealBackSpec : ChangeSpec := { name := "sealBack", fn := fun _ => fun
  | [d1, d2, d3, d4, d5] => { results := [.lit (.bool true)], args := [d1, d2, d3, d4, d5] }
  | _ => none }
def sealBackRow : OpenClaim := { program := "ytcelojkecfiocaadoor", sum := "9416fe5d8fc50f0cabc7d645fce59826c9d0ac15836e5cc83b0fa1382155fb9c", func := "farebox/fareboxlaw04.SealBack", spec := "sealBack", unfollowed := true, recurses := true, named := ["farebox/hash.start", "farebox/hash.rounds"], apart := false, laid := [("farebox/hash.start", laid_farebox_hash_start), ("farebox/hash.rounds", laid_farebox_hash_rounds)] }
def SealBackSaid : Prop := sealBackRow.holds Tryd.pinned (OpenSpec.ofChange sealBackSpec)

/-- ITS FALSE NEIGHBOUR: 'it returns false'. Refute it at one input. -/
def sealBackWrong : ChangeSpec := { name := "sealBack", fn := fun _ => fun
  | [d1, d2, d3, d4, d5] => { results := [.lit (.bool false)], args := [d1, d2, d3, d4, d5] }
  | _ => none }
def SealBackWrongFalsely : Prop := sealBackRow.holds Tryd.pinned (OpenSpec.ofChange sealBackWrong)

/-- 'fareboxlaw04.SealPads': WHATEVER THE INPUT: true; the input reads as it did. -/
def sealPadsSpec : ChangeSpec := { name := "sealPads", fn := fun _ => fun
  | [d1, d2, d3] => { results := [.lit (.bool true)], args := [d1, d2, d3] }
  | _ => none }
def sealPadsRow : OpenClaim := { program := "ytcelojkecfiocaadoor", sum := "9416fe5d8fc50f0cabc7d645fce59826c9d0ac15836e5cc83b0fa1382155fb9c", func := "farebox/fareboxlaw04.SealPads", spec := "sealPads", unfollowed := true, recurses := true, named := ["farebox/hash.start", "farebox/hash.rounds"], apart := false, laid := [("farebox/hash.start", laid_farebox_hash_start), ("farebox/hash.rounds", laid_farebox_hash_rounds)] }
def SealPadsSaid : Prop := sealPadsRow.holds Tryd.pinned (OpenSpec.ofChange sealPadsSpec)

/-- ITS FALSE NEIGHBOUR: 'it returns false'. Refute it at one input. -/
def sealPadsWrong : ChangeSpec := { name := "sealPads", fn := fun _ => fun
  | [d1, d2, d3] => { results := [.lit (.bool false)], args := [d1, d2, d3] }
  | _ => none }
def SealPadsWrongFalsely : Prop := sealPadsRow.holds Tryd.pinned (OpenSpec.ofChange sealPadsWrong)

/-- 'fareboxlaw04.SealKeys': WHATEVER THE INPUT: true; the input reads as it did. -/
def sealKeysSpec : ChangeSpec := { name := "sealKeys", fn := fun _ => fun
  | [d1, d2, d3] => { results := [.lit (.bool true)], args := [d1, d2, d3] }
  | _ => none }
def sealKeysRow : OpenClaim := { program := "ytcelojkecfiocaadoor", sum := "9416fe5d8fc50f0cabc7d645fce59826c9d0ac15836e5cc83b0fa1382155fb9c", func := "farebox/fareboxlaw04.SealKeys", spec := "sealKeys", unfollowed := true, recurses := true, named := ["farebox/hash.start", "farebox/hash.rounds", "farebox/fareboxref03.first", "farebox/fareboxref03.k"], apart := false, laid := [("farebox/fareboxref03.first", laid_farebox_fareboxref03_first), ("farebox/fareboxref03.k", laid_farebox_fareboxref03_k), ("farebox/hash.start", laid_farebox_hash_start), ("farebox/hash.rounds", laid_farebox_hash_rounds)] }
def SealKeysSaid : Prop := sealKeysRow.holds Tryd.pinned (OpenSpec.ofChange sealKeysSpec)

/-- ITS FALSE NEIGHBOUR: 'it returns false'. Refute it at one input. -/
def sealKeysWrong : ChangeSpec := { name := "sealKeys", fn := fun _ => fun
  | [d1, d2, d3] => { results := [.lit (.bool false)], args := [d1, d2, d3] }
  | _ => none }
def SealKeysWrongFalsely : Prop := sealKeysRow.holds Tryd.pinned (OpenSpec.ofChange sealKeysWrong)

/-- 'fareboxlaw04.SealApart': WHATEVER THE INPUT: true; the input reads as it did. -/
def sealApartSpec : ChangeSpec := { name := "sealApart", fn := fun _ => fun
  | [d1, d2, d3] => { results := [.lit (.bool true)], args := [d1, d2, d3] }
  | _ => none }
def sealApartRow : OpenClaim := { program := "ytcelojkecfiocaadoor", sum := "9416fe5d8fc50f0cabc7d645fce59826c9d0ac15836e5cc83b0fa1382155fb9c", func := "farebox/fareboxlaw04.SealApart", spec := "sealApart", unfollowed := true, recurses := true, named := ["farebox/hash.start", "farebox/hash.rounds"], apart := false, laid := [("farebox/hash.start", laid_farebox_hash_start), ("farebox/hash.rounds", laid_farebox_hash_rounds)] }
def SealApartSaid : Prop := sealApartRow.holds Tryd.pinned (OpenSpec.ofChange sealApartSpec)

/-- ITS FALSE NEIGHBOUR: 'it returns false'. Refute it at one input. -/
def sealApartWrong : ChangeSpec := { name := "sealApart", fn := fun _ => fun
  | [d1, d2, d3] => { results := [.lit (.bool false)], args := [d1, d2, d3] }
  | _ => none }
def SealApartWrongFalsely : Prop := sealApartRow.holds Tryd.pinned (OpenSpec.ofChange sealApartWrong)

/- THE SECOND FORM. 'bulk': how many values and letters a reading holds, each counted each time it is reached (what is shared counts as often as it is met; a slice's spare places count too). A statement '..UptoSaid' is the law's where the arguments, and the package variables that the reading takes, are together of bulk at most 1048576: NARROWER than '..Said'. Prove '..Said' where nothing that the law and all that it calls make is longer than what came in: it says more and counts as full. Else prove '..UptoSaid'. A law counts once. -/
mutual
def uptoBulk {H : Type} : DataW H → Nat
  | .lit (.string bytes) => bytes.length + 1
  | .lit _ => 1
  | .nil => 1
  | .ptr d => uptoBulk d + 1
  | .slice elems spare => uptoBulkAll elems + uptoBulkAll spare + 1
  | .agg parts => uptoBulkAll parts + 1
  | .iface _ d => uptoBulk d + 1
  | .map entries => uptoBulkEntries entries + 1
  | .held _ => 1
def uptoBulkAll {H : Type} : List (DataW H) → Nat
  | [] => 0
  | d :: r => uptoBulk d + uptoBulkAll r
def uptoBulkEntries {H : Type} : List (Lit × DataW H) → Nat
  | [] => 0
  | x :: r => uptoBulkEntry x + uptoBulkEntries r
def uptoBulkEntry {H : Type} : Lit × DataW H → Nat
  | (.string bytes, d) => bytes.length + uptoBulk d + 1
  | (_, d) => uptoBulk d + 1
 end
def uptoSmall : (H : Type) → List (DataW H) → Bool := fun _ ds => decide (uptoBulkAll ds ≤ 1048576)
def OpenSpec.upto (s : _root_.Go.ChangeSpec) : _root_.Go.OpenSpec := { _root_.Go.OpenSpec.ofChange s with cond := some uptoSmall }

/-- 'fareboxlaw03.HashSums', WHERE WHAT IT READS IS OF BULK AT MOST 1048576: true; the input reads as it did. -/
def hashSumsUptoRow : OpenClaim := { program := "ytcelojkecfiocaadoor", sum := "9416fe5d8fc50f0cabc7d645fce59826c9d0ac15836e5cc83b0fa1382155fb9c", func := "farebox/fareboxlaw03.HashSums", spec := "hashSums", named := ["farebox/hash.start", "farebox/hash.rounds", "farebox/fareboxref03.first", "farebox/fareboxref03.k"], apart := false, laid := [("farebox/fareboxref03.first", laid_farebox_fareboxref03_first), ("farebox/fareboxref03.k", laid_farebox_fareboxref03_k), ("farebox/hash.start", laid_farebox_hash_start), ("farebox/hash.rounds", laid_farebox_hash_rounds)], narrowed := true }
def HashSumsUptoSaid : Prop := hashSumsUptoRow.holds Tryd.pinned (OpenSpec.upto hashSumsSpec)

/-- 'fareboxlaw03.HashPieces', WHERE WHAT IT READS IS OF BULK AT MOST 1048576: true; the input reads as it did. -/
def hashPiecesUptoRow : OpenClaim := { program := "ytcelojkecfiocaadoor", sum := "9416fe5d8fc50f0cabc7d645fce59826c9d0ac15836e5cc83b0fa1382155fb9c", func := "farebox/fareboxlaw03.HashPieces", spec := "hashPieces", named := ["farebox/hash.start", "farebox/hash.rounds"], apart := false, laid := [("farebox/hash.start", laid_farebox_hash_start), ("farebox/hash.rounds", laid_farebox_hash_rounds)], narrowed := true }
def HashPiecesUptoSaid : Prop := hashPiecesUptoRow.holds Tryd.pinned (OpenSpec.upto hashPiecesSpec)

/-- 'fareboxlaw03.HashPlays', WHERE WHAT IT READS IS OF BULK AT MOST 1048576: true; the input reads as it did. -/
def hashPlaysUptoRow : OpenClaim := { program := "ytcelojkecfiocaadoor", sum := "9416fe5d8fc50f0cabc7d645fce59826c9d0ac15836e5cc83b0fa1382155fb9c", func := "farebox/fareboxlaw03.HashPlays", spec := "hashPlays", named := ["farebox/hash.start", "farebox/hash.rounds", "farebox/fareboxref03.first", "farebox/fareboxref03.k"], apart := false, laid := [("farebox/fareboxref03.first", laid_farebox_fareboxref03_first), ("farebox/fareboxref03.k", laid_farebox_fareboxref03_k), ("farebox/hash.start", laid_farebox_hash_start), ("farebox/hash.rounds", laid_farebox_hash_rounds)], narrowed := true }
def HashPlaysUptoSaid : Prop := hashPlaysUptoRow.holds Tryd.pinned (OpenSpec.upto hashPlaysSpec)

/-- 'fareboxlaw03.HashApart', WHERE WHAT IT READS IS OF BULK AT MOST 1048576: true; the input reads as it did. -/
def hashApartUptoRow : OpenClaim := { program := "ytcelojkecfiocaadoor", sum := "9416fe5d8fc50f0cabc7d645fce59826c9d0ac15836e5cc83b0fa1382155fb9c", func := "farebox/fareboxlaw03.HashApart", spec := "hashApart", named := ["farebox/hash.start", "farebox/hash.rounds"], apart := false, laid := [("farebox/hash.start", laid_farebox_hash_start), ("farebox/hash.rounds", laid_farebox_hash_rounds)], narrowed := true }
def HashApartUptoSaid : Prop := hashApartUptoRow.holds Tryd.pinned (OpenSpec.upto hashApartSpec)

/-- 'fareboxlaw04.SealMacs', WHERE WHAT IT READS IS OF BULK AT MOST 1048576: true; the input reads as it did. -/
def sealMacsUptoRow : OpenClaim := { program := "ytcelojkecfiocaadoor", sum := "9416fe5d8fc50f0cabc7d645fce59826c9d0ac15836e5cc83b0fa1382155fb9c", func := "farebox/fareboxlaw04.SealMacs", spec := "sealMacs", unfollowed := true, recurses := true, named := ["farebox/hash.start", "farebox/hash.rounds", "farebox/fareboxref03.first", "farebox/fareboxref03.k"], apart := false, laid := [("farebox/fareboxref03.first", laid_farebox_fareboxref03_first), ("farebox/fareboxref03.k", laid_farebox_fareboxref03_k), ("farebox/hash.start", laid_farebox_hash_start), ("farebox/hash.rounds", laid_farebox_hash_rounds)], narrowed := true }
def SealMacsUptoSaid : Prop := sealMacsUptoRow.holds Tryd.pinned (OpenSpec.upto sealMacsSpec)

/-- 'fareboxlaw04.SealOpens', WHERE WHAT IT READS IS OF BULK AT MOST 1048576: true; the input reads as it did. -/
def sealOpensUptoRow : OpenClaim := { program := "ytcelojkecfiocaadoor", sum := "9416fe5d8fc50f0cabc7d645fce59826c9d0ac15836e5cc83b0fa1382155fb9c", func := "farebox/fareboxlaw04.SealOpens", spec := "sealOpens", unfollowed := true, recurses := true, named := ["farebox/hash.start", "farebox/hash.rounds", "farebox/fareboxref03.first", "farebox/fareboxref03.k"], apart := false, laid := [("farebox/fareboxref03.first", laid_farebox_fareboxref03_first), ("farebox/fareboxref03.k", laid_farebox_fareboxref03_k), ("farebox/hash.start", laid_farebox_hash_start), ("farebox/hash.rounds", laid_farebox_hash_rounds)], narrowed := true }
def SealOpensUptoSaid : Prop := sealOpensUptoRow.holds Tryd.pinned (OpenSpec.upto sealOpensSpec)

/-- 'fareboxlaw04.SealBack', WHERE WHAT IT READS IS OF BULK AT MOST 1048576: true; the input reads as it did. -/
def sealBackUptoRow : OpenClaim := { program := "ytcelojkecfiocaadoor", sum := "9416fe5d8fc50f0cabc7d645fce59826c9d0ac15836e5cc83b0fa1382155fb9c", func := "farebox/fareboxlaw04.SealBack", spec := "sealBack", unfollowed := true, recurses := true, named := ["farebox/hash.start", "farebox/hash.rounds"], apart := false, laid := [("farebox/hash.start", laid_farebox_hash_start), ("farebox/hash.rounds", laid_farebox_hash_rounds)], narrowed := true }
def SealBackUptoSaid : Prop := sealBackUptoRow.holds Tryd.pinned (OpenSpec.upto sealBackSpec)

/-- 'fareboxlaw04.SealPads', WHERE WHAT IT READS IS OF BULK AT MOST 1048576: true; the input reads as it did. -/
def sealPadsUptoRow : OpenClaim := { program := "ytcelojkecfiocaadoor", sum := "9416fe5d8fc50f0cabc7d645fce59826c9d0ac15836e5cc83b0fa1382155fb9c", func := "farebox/fareboxlaw04.SealPads", spec := "sealPads", unfollowed := true, recurses := true, named := ["farebox/hash.start", "farebox/hash.rounds"], apart := false, laid := [("farebox/hash.start", laid_farebox_hash_start), ("farebox/hash.rounds", laid_farebox_hash_rounds)], narrowed := true }
def SealPadsUptoSaid : Prop := sealPadsUptoRow.holds Tryd.pinned (OpenSpec.upto sealPadsSpec)

/-- 'fareboxlaw04.SealKeys', WHERE WHAT IT READS IS OF BULK AT MOST 1048576: true; the input reads as it did. -/
def sealKeysUptoRow : OpenClaim := { program := "ytcelojkecfiocaadoor", sum := "9416fe5d8fc50f0cabc7d645fce59826c9d0ac15836e5cc83b0fa1382155fb9c", func := "farebox/fareboxlaw04.SealKeys", spec := "sealKeys", unfollowed := true, recurses := true, named := ["farebox/hash.start", "farebox/hash.rounds", "farebox/fareboxref03.first", "farebox/fareboxref03.k"], apart := false, laid := [("farebox/fareboxref03.first", laid_farebox_fareboxref03_first), ("farebox/fareboxref03.k", laid_farebox_fareboxref03_k), ("farebox/hash.start", laid_farebox_hash_start), ("farebox/hash.rounds", laid_farebox_hash_rounds)], narrowed := true }
def SealKeysUptoSaid : Prop := sealKeysUptoRow.holds Tryd.pinned (OpenSpec.upto sealKeysSpec)

/-- 'fareboxlaw04.SealApart', WHERE WHAT IT READS IS OF BULK AT MOST 1048576: true; the input reads as it did. -/
def sealApartUptoRow : OpenClaim := { program := "ytcelojkecfiocaadoor", sum := "9416fe5d8fc50f0cabc7d645fce59826c9d0ac15836e5cc83b0fa1382155fb9c", func := "farebox/fareboxlaw04.SealApart", spec := "sealApart", unfollowed := true, recurses := true, named := ["farebox/hash.start", "farebox/hash.rounds"], apart := false, laid := [("farebox/hash.start", laid_farebox_hash_start), ("farebox/hash.rounds", laid_farebox_hash_rounds)], narrowed := true }
def SealApartUptoSaid : Prop := sealApartUptoRow.holds Tryd.pinned (OpenSpec.upto sealApartSpec)

end Rows
end Go.Proofs.YtcelojkecfiocaaDoor
