/- Sums and products of rows of whole numbers. -/
import Derived.Test.YtipbcjnniamcgaaDoorRj
namespace Go.Proofs.YtipbcjnniamcgaaDoor.Fw
set_option linter.unusedSimpArgs false
set_option linter.unusedVariables false
open Go Go.Proofs.YtipbcjnniamcgaaDoor.Ma
set_option maxRecDepth 20000

/-- Whole numbers in a row. -/
def IntC : List Int → List AV
  | [] => []
  | z :: r => .bool (decide (z < 0)) :: LS (digs 4294967296 z.natAbs) true :: IntC r
theorem IntC_len : ∀ l, (IntC l).length = l.length * 2
  | [] => rfl
  | q :: r => by simp [IntC, IntC_len r]; omega
theorem IntC_drop : ∀ (l : List Int) (i : Nat) (h : i < l.length), ((IntC l).drop (i * 2)).take 2 = [.bool (decide (l[i] < 0)), LS (digs 4294967296 (l[i]).natAbs) true]
  | q :: r, 0, _ => by simp [IntC]
  | q :: r, i + 1, h => by
    have := IntC_drop r i (by simpa using h)
    rw [show (i + 1) * 2 = i * 2 + 1 + 1 by omega]
    simpa [IntC] using this
section
variable {l : List Int} {t : Bool} {H : AHeap} {K : AV → Prop}
theorem len_IntC (h : l.length < 2 ^ 63) : lenW false (.seq l.length (IntC l) t) K = K (.int .i64 ((l.length : Nat) : Int)) := by simp [lenW, h]
theorem idx_IntC {i : Nat} (h : i < l.length) : idxAW 2 (.seq l.length (IntC l) t) (.int .i64 (i : Int)) K = K (.cptr ((IntC l).drop (i * 2))) := by simp [idxAW, IntC_len, h]
theorem load_IntC {i : Nat} (h : i < l.length) : loadW H (some 2) (.cptr ((IntC l).drop (i * 2))) K = K (IntA (l[i])) := by
  have : 2 ≤ (IntC l).length - i * 2 := by rw [IntC_len]; omega
  simp [loadW, cellsAt, IntC_drop l i h, IntA, this]
end
end Go.Proofs.YtipbcjnniamcgaaDoor.Fw
