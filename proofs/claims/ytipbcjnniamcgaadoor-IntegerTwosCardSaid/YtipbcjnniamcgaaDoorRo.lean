/- The law of powers, as what its code computes: true. -/
import Derived.Test.YtipbcjnniamcgaaDoorRn
namespace Go.Proofs.YtipbcjnniamcgaaDoor.Fw
set_option linter.unusedSimpArgs false
set_option linter.unusedVariables false
open Go Go.Proofs.YtipbcjnniamcgaaDoor.Ma
set_option maxRecDepth 20000

/-- The reference's numbers in memory. -/
def RefB (z : Int) : AV := .bool (decide (z < 0))
def RefD (z : Int) : AV := LS (digs 65536 z.natAbs) false
theorem RefA_eq {z : Int} : RefA z false = .agg [RefB z, RefD z] := id rfl
theorem cells_RefA {z : Int} : (RefA z false).cells = some [RefB z, RefD z] := id rfl
theorem fold_RefA {z : Int} : AV.agg [RefB z, RefD z] = RefA z false := id rfl

theorem Bd.blen {z : Int} {k : Nat} (h : Bd k z) : Ma.blen z.natAbs ≤ 32 * k := by rw [blen_le, Nat.pow_mul]; exact h
theorem rep22 {x y : AV} : repA [x, y] 2 = [x, y] := by simp [repA, List.range_succ]
end Go.Proofs.YtipbcjnniamcgaaDoor.Fw
