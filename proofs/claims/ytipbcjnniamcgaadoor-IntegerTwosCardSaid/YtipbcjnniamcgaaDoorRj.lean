/- The law of sums, as what its code computes: true. -/
import Derived.Test.YtipbcjnniamcgaaDoorRi
namespace Go.Proofs.YtipbcjnniamcgaaDoor.Fw
set_option linter.unusedSimpArgs false
set_option linter.unusedVariables false
open Go Go.Proofs.YtipbcjnniamcgaaDoor.Ma
set_option maxRecDepth 20000

theorem live_fn : PFn Tryd.prog 18 [] (.bool true) := by
  intro H Q hq
  refine enter18 (by simp) ?_
  simp (disch := first | assumption | (apply Ap.symm; assumption) | omega | decide | (simp only [U_len, List.length_append, List.length_replicate, List.length_cons, List.length_nil, List.length_set] <;> omega) | fail) only [ac18, ↓Xa, Xb, Xc, ↓reduceIte, Nat.reduceLT, Nat.reduceEqDiff, Nat.reduceBEq, Nat.reduceLeDiff, Nat.reduceAdd, Nat.reduceMul]
  refine (of_fn (n := -7) (by omega)).call ?_
  simp (disch := first | assumption | (apply Ap.symm; assumption) | omega | decide | (simp only [U_len, List.length_append, List.length_replicate, List.length_cons, List.length_nil, List.length_set] <;> omega) | fail) only [↓Xa, Xb, Xc, ↓reduceIte, Nat.reduceLT, Nat.reduceEqDiff, Nat.reduceBEq, Nat.reduceLeDiff, Nat.reduceAdd, Nat.reduceMul]
  refine (of_fn (n := ((2 : Nat) : Int)) (by omega)).call ?_
  simp (disch := first | assumption | (apply Ap.symm; assumption) | omega | decide | (simp only [U_len, List.length_append, List.length_replicate, List.length_cons, List.length_nil, List.length_set] <;> omega) | fail) only [↓Xa, Xb, Xc, ↓reduceIte, Nat.reduceLT, Nat.reduceEqDiff, Nat.reduceBEq, Nat.reduceLeDiff, Nat.reduceAdd, Nat.reduceMul]
  refine (addi_fn (Bd.i64 (n := -7) (by omega)) (by omega) (Bd.i64 (n := ((2 : Nat) : Int)) (by omega)) (by omega)).call ?_
  simp (disch := first | assumption | (apply Ap.symm; assumption) | omega | decide | (simp only [U_len, List.length_append, List.length_replicate, List.length_cons, List.length_nil, List.length_set] <;> omega) | fail) only [↓Xa, Xb, Xc, ↓reduceIte, Nat.reduceLT, Nat.reduceEqDiff, Nat.reduceBEq, Nat.reduceLeDiff, Nat.reduceAdd, Nat.reduceMul]
  refine (small_fn ((Bd.i64 (n := -7) (by omega)).add (Bd.i64 (n := ((2 : Nat) : Int)) (by omega))) (by omega)).call ?_
  rw [show smallV (-7 + ((2 : Nat) : Int)) = -5 from by decide, show fits (-7 + ((2 : Nat) : Int)) = true from by decide]
  have c : ∀ K, binW .eql (.int .i64 (-5)) (.int .i64 (-5)) K ↔ K (.bool true) := fun K => by simp [binW, binInt]
  simp (disch := first | assumption | (apply Ap.symm; assumption) | omega | decide | (simp only [U_len, List.length_append, List.length_replicate, List.length_cons, List.length_nil, List.length_set] <;> omega) | fail) only [rs18, c, ↓Xa, Xb, Xc, ↓reduceIte, Nat.reduceLT, Nat.reduceEqDiff, Nat.reduceBEq, Nat.reduceLeDiff, Nat.reduceAdd, Nat.reduceMul]
  exact SetR.now hq

theorem rep24 {x y : AV} : repA [x, y] 4 = [x, y, x, y] := by simp [repA, List.range_succ]
theorem rep26 {x y : AV} : repA [x, y] 6 = [x, y, x, y, x, y] := by simp [repA, List.range_succ]
theorem eql_self {k : IntKind} {n : Int} {K : AV → Prop} : binW .eql (.int k n) (.int k n) K ↔ K (.bool true) := by simp [binW, binInt]

end Go.Proofs.YtipbcjnniamcgaaDoor.Fw
