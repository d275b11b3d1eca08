/- Bytes of rows, words of bytes. No conditions. -/
namespace Go.Proofs.YtcfgcbcciaeabaaDoor.Sha
abbrev U := BitVec 32
def b8 (l : List UInt8) (i : Nat) : UInt8 := l.getD i 0
/-- A byte as a word. -/
def up (c : UInt8) : U := c.toBitVec.setWidth 32
/-- A word's lowest byte. -/
def low (x : U) : UInt8 := ⟨x.setWidth 8⟩
end Go.Proofs.YtcfgcbcciaeabaaDoor.Sha
