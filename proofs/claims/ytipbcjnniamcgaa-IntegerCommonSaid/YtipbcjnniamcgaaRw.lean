/- The law of the greatest common divisor, as what its code computes: true. -/
import Derived.Test.YtipbcjnniamcgaaRv
namespace Go.Proofs.Ytipbcjnniamcgaa.Fw
set_option linter.unusedSimpArgs false
set_option linter.unusedVariables false
open Go Go.Proofs.Ytipbcjnniamcgaa.Ma
set_option maxRecDepth 20000

def BezF (x y u v : Int) : Prop := u * x + v * y = (Int.gcd x y : Int) ∧ (y = 0 → u = sgnI x ∧ v = 0) ∧ (y ≠ 0 → 0 ≤ u ∧ u < (y.natAbs : Int) / (Int.gcd x y : Int))
theorem bezout_all {x y : Int} {k : Nat} {H : AHeap} {Q : AV → AHeap → Prop} (hx : Bd k x) (hk : k ≤ 1000000) (hy : Bd k y)
    (hq : ∀ u v, BezF x y u v → Q (.tup [IntA ((Int.gcd x y : Nat) : Int), IntA u, IntA v]) H) : Run Try.prog 41 [IntA x, IntA y] H Q := by
  by_cases hy0 : y = 0
  · subst hy0
    refine bezout0_fn hx hk H Q ?_
    have e : ((Int.gcd x 0 : Nat) : Int) = (x.natAbs : Int) := by rw [Int.gcd_zero_right]
    rw [← e]
    refine hq (sgnI x) 0 ⟨?_, fun _ => ⟨rfl, rfl⟩, fun h => absurd rfl h⟩
    rw [e]; unfold sgnI; (repeat' split) <;> omega
  · exact bezout_run hx hk hy hy0 fun u v h => hq u v ⟨h.2.2, fun e => absurd e hy0, fun _ => ⟨h.1, h.2.1⟩⟩
theorem sgn_geq0 {x : Int} {K : AV → Prop} : binW .geq (.int .i64 (sgnI x)) (.int .i64 ((0 : Nat) : Int)) K ↔ K (.bool (decide (0 ≤ x))) := by
  have : (((0 : Nat) : Int) ≤ sgnI x) ↔ 0 ≤ x := by unfold sgnI; (repeat' split) <;> omega
  simp only [binW, binInt, true_and, ge_iff_le, this]
theorem cmp_lss0 {x y : Int} {K : AV → Prop} : binW .lss (.int .i64 (cmpI x y)) (.int .i64 ((0 : Nat) : Int)) K ↔ K (.bool (decide (x < y))) := by
  have : (cmpI x y < ((0 : Nat) : Int)) ↔ x < y := by unfold cmpI; (repeat' split) <;> omega
  simp only [binW, binInt, true_and, this]
theorem cmp_eql0 {x y : Int} {K : AV → Prop} : binW .eql (.int .i64 (cmpI x y)) (.int .i64 ((0 : Nat) : Int)) K ↔ K (.bool (decide (x = y))) := by
  have : (cmpI x y = ((0 : Nat) : Int)) ↔ x = y := by unfold cmpI; (repeat' split) <;> omega
  simp only [binW, binInt, true_and, this]
theorem same_fn {x y : Int} {k k' : Nat} (hx : Bd k x) (hk : k ≤ 274877906944) (hy : Bd k' y) (hk' : k' ≤ 274877906944) : PFn Try.prog 45 [RefA x false, RefA y false] (.bool (decide (x = y))) := by
  intro H Q hq
  refine enter45 (by simp) ?_
  simp (disch := first | assumption | (apply Ap.symm; assumption) | omega | decide | (simp only [U_len, List.length_append, List.length_replicate, List.length_cons, List.length_nil, List.length_set] <;> omega) | fail) only [ac45, cells_RefA, ↓Xa, Xb, Xc, ↓reduceIte, Nat.reduceLT, Nat.reduceEqDiff, Nat.reduceBEq, Nat.reduceLeDiff, Nat.reduceAdd, Nat.reduceMul]
  refine alloc_i fun p1 hp1 => ?_
  have n1 := hp1
  simp (disch := first | assumption | (apply Ap.symm; assumption) | omega | decide | (simp only [U_len, List.length_append, List.length_replicate, List.length_cons, List.length_nil, List.length_set] <;> omega) | fail) only [cells_RefA, fold_RefA, ↓Xa, Xb, Xc, ↓reduceIte, Nat.reduceLT, Nat.reduceEqDiff, Nat.reduceBEq, Nat.reduceLeDiff, Nat.reduceAdd, Nat.reduceMul]
  refine alloc_i fun p2 hp2 => ?_
  have n2 := hp2
  simp only [upd_none] at n2
  obtain ⟨_, n2⟩ := n2
  simp (disch := first | assumption | (apply Ap.symm; assumption) | omega | decide | (simp only [U_len, List.length_append, List.length_replicate, List.length_cons, List.length_nil, List.length_set] <;> omega) | fail) only [cells_RefA, fold_RefA, ↓Xa, Xb, Xc, ↓reduceIte, Nat.reduceLT, Nat.reduceEqDiff, Nat.reduceBEq, Nat.reduceLeDiff, Nat.reduceAdd, Nat.reduceMul]
  refine (rcmp_fn false false hx (by omega) hy (by omega)).call ?_
  simp (disch := first | assumption | (apply Ap.symm; assumption) | omega | decide | (simp only [U_len, List.length_append, List.length_replicate, List.length_cons, List.length_nil, List.length_set] <;> omega) | fail) only [cmp_eql0, rs45, ↓Xa, Xb, Xc, ↓reduceIte, Nat.reduceLT, Nat.reduceEqDiff, Nat.reduceBEq, Nat.reduceLeDiff, Nat.reduceAdd, Nat.reduceMul]
  exact SetR.dropTo (((Le.refl H).updB n1).updB n2) (SetR.now hq)
end Go.Proofs.Ytipbcjnniamcgaa.Fw
