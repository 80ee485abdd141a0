/- The law AllocOld: its run. -/
import Derived.Test.YtjninokocidaaaaAlH
set_option linter.unusedVariables false
set_option linter.unusedSimpArgs false
set_option maxRecDepth 4000
namespace Go.Al
open Go.Gr

/-- A bit of a bitmap. -/
def bitAt (m : List Nat) (i : Nat) : Bool := (m.getD (i / 8) 0).testBit (i % 8)

/-- What a crash would leave of a state. -/
def cls (x : Nat) : Nat := if x = 1 ∨ x = 3 then 1 else if x = 4 then 2 else 0

namespace AM
variable {A : AM}
end AM

theorem wrapU8 : ∀ k : Fin 8, IntKind.wrap .u64 (k.val : Int) = (k.val : Int) := by decide

/-- Bytes. -/
def toB (l : List Nat) : List UInt8 := l.map UInt8.ofNat
theorem toB_of {l : List Nat} (h : ∀ x ∈ l, x < 256) : ofBytes (toB l) = row .u8 l := by
  simp only [ofBytes, toB, row, List.map_map]
  apply List.map_congr_left
  intro x hx
  have := h x hx
  simp only [Function.comp]
  rw [UInt8.toNat_ofNat', Nat.mod_eq_of_lt this]

end Go.Al
