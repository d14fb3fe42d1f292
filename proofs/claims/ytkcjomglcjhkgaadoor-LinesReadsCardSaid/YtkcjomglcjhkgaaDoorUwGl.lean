/- The tables that stand in the world. Own work. -/
import Derived.WalkKit
import Derived.Lib.ItoaNum
import Derived.Lib.LaidTab
set_option linter.unusedVariables false
set_option linter.unusedSimpArgs false
namespace Go.Uw
/-- the variables of the program that a walk reads: the block, and what its cells are -/
def strV (l : List UInt8) : Value := .string (ByteArray.mk l.toArray)
def Gl : List (Nat × Array Value) := [
  (0, #[strV [], strV [111, 112, 101, 110], strV [100, 97, 116, 97], strV [99, 108, 111, 115, 101], strV [97, 110, 115, 119, 101, 114], strV [106, 111, 105, 110], strV [114, 101, 116, 105, 114, 101], strV [116, 105, 99, 107]]),
  (4, (Lib.pow10Tab.map fun z => Value.int .u64 z).toArray)]
/-- the variables that hold an interface value -/
def GlE : List Nat := [2, 3]
/-- the variables that hold some integer, no matter which -/
def GlI : List Nat := [1]
end Go.Uw
