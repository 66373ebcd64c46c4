/- A store's area in plain Lean: what it holds. No program stands in this text. -/
import Derived.Test.YtgpafdagealnbaaDoorSto1
namespace Go.Proofs.YtgpafdagealnbaaDoor
open Go.RowKit

/-- What an area holds, the bytes f beginning at its first sector p: its generation and record; none: it does not count. -/
def numAt (f : Nat → UInt8) (o n : Nat) : Nat := numB ((List.range n).map fun i => f (o + i))
def areaF (f : Nat → UInt8) (p room : Nat) : Option (Nat × List UInt8) :=
  let g := numAt f (64 * p + 4) 8
  let m := numAt f (64 * p + 12) 4
  if g = 0 ∨ room < m then none
  else
    let r := (List.range m).map fun i => f (64 * (p + 1) + i)
    if (List.range 64).map (fun i => f (64 * p + i)) = (List.range 64).map (headF g r) then some (g, r) else none

theorem numB4_lt (a b c d : UInt8) : numB [a, b, c, d] < 4294967296 := by
  have := a.toNat_lt; have := b.toNat_lt; have := c.toNat_lt; have := d.toNat_lt
  simp only [numB, List.foldl_cons, List.foldl_nil]
  omega
theorem numAt4_lt (f : Nat → UInt8) (o : Nat) : numAt f o 4 < 4294967296 := numB4_lt _ _ _ _
end Go.Proofs.YtgpafdagealnbaaDoor
