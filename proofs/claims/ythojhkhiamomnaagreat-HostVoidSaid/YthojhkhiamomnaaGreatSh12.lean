/-
  Names for what the printed conditions say, and the laws by which they are met.
-/
import Derived.Test.YthojhkhiamomnaaGreatSh11
namespace Go.Sh

/-- A new block. -/
def NewW (H : Heap) (o : Obj) (k : Nat → Heap → Prop) : Prop := ∀ n, H n = none → k n (H.upd n o)

def bitsAnd (k : IntKind) (x y : Int) : Int := k.wrap (BitVec.ofInt k.bits x &&& BitVec.ofInt k.bits y).toNat
def bitsOr (k : IntKind) (x y : Int) : Int := k.wrap (BitVec.ofInt k.bits x ||| BitVec.ofInt k.bits y).toNat
def bitsXor (k : IntKind) (x y : Int) : Int := k.wrap (BitVec.ofInt k.bits x ^^^ BitVec.ofInt k.bits y).toNat
def bitsAndNot (k : IntKind) (x y : Int) : Int := k.wrap (BitVec.ofInt k.bits x &&& ~~~(BitVec.ofInt k.bits y)).toNat

end Go.Sh
