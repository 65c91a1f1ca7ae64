/- Checksums, in plain Lean: the table, a step, the sum. No program in sight. -/
import Derived.Test.YtihljjfnjclefaaDoorM
set_option linter.unusedVariables false
set_option linter.unusedSimpArgs false
namespace Go.Proofs.YtihljjfnjclefaaDoor

/-- One bit of the table's word. -/
def crcBit (x : BitVec 32) : BitVec 32 := if x &&& 1#32 = 1#32 then (x >>> 1) ^^^ 0x82f63b78#32 else x >>> 1
def crcBits : Nat → BitVec 32 → BitVec 32
  | 0, x => x
  | n + 1, x => crcBit (crcBits n x)
/-- The table's word of a number. -/
def crcWord (i : Nat) : BitVec 32 := crcBits 8 (BitVec.ofNat 32 i)
/-- Behind a byte. -/
def crcStep (t : Byte → BitVec 32) (s : BitVec 32) (b : Byte) : BitVec 32 := t (s.setWidth 8 ^^^ b) ^^^ s >>> 8
def crcOn (t : Byte → BitVec 32) (s : BitVec 32) (xs : List Byte) : BitVec 32 := ~~~ (xs.foldl (crcStep t) (~~~ s))
def crcT (b : Byte) : BitVec 32 := crcWord b.toNat
def crcSum (xs : List Byte) : BitVec 32 := crcOn crcT 0#32 xs

/-- Cells that hold a table of 256 words. -/
def IsTab (T : Array Value) (t : Byte → BitVec 32) : Prop := T.size = 256 ∧ ∀ b : Byte, T[(nb b).toNat]? = some (.int .u32 (nb (t b)))

end Go.Proofs.YtihljjfnjclefaaDoor
