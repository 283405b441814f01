/-
  The two functions without a Go body: what the model answers for them.
-/
import Derived.Test.YtnmaachmjnmlmaaGreatFj
import Derived.Laws.Externs
import Derived.KernelRfl
set_option linter.unusedVariables false
set_option linter.unusedSimpArgs false
set_option linter.unusedSectionVars false
namespace Go.Ev
variable {P : Program}

def addE : Array Value → Sem Value := fun args => do
  let (x, y, c) ← Extern.MathBitsCarry.three "Add64" args
  pure (Extern.MathBitsCarry.pair ((x + y + c) % Extern.MathBitsCarry.m64) ((x + y + c) / Extern.MathBitsCarry.m64))
def subE : Array Value → Sem Value := fun args => do
  let (x, y, b) ← Extern.MathBitsCarry.three "Sub64" args
  pure (Extern.MathBitsCarry.pair ((x + Extern.MathBitsCarry.m64 - y - b) % Extern.MathBitsCarry.m64) (if x < y + b then 1 else 0))

theorem run_addE (x y : Int) (c : Nat) (hc : c ≤ 1) (w : World) : (addE #[.int .u64 x, .int .u64 y, .int .u64 (c : Int)]).run P w =
    .ok (.tuple #[.int .u64 (((x.toNat + y.toNat + c) % 2 ^ 64 : Nat) : Int), .int .u64 (((x.toNat + y.toNat + c) / 2 ^ 64 : Nat) : Int)]) w := by
  have : c = 0 ∨ c = 1 := by omega
  rcases this with rfl | rfl <;> rfl
theorem run_subE (x y : Int) (c : Nat) (hc : c ≤ 1) (w : World) : (subE #[.int .u64 x, .int .u64 y, .int .u64 (c : Int)]).run P w =
    .ok (.tuple #[.int .u64 (((x.toNat + 2 ^ 64 - y.toNat - c) % 2 ^ 64 : Nat) : Int), .int .u64 (((if x.toNat < y.toNat + c then 1 else 0 : Nat)) : Int)]) w := by
  have : c = 0 ∨ c = 1 := by omega
  rcases this with rfl | rfl <;> rfl
end Go.Ev

