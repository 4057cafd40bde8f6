/- The laws' first question: are numbers added, multiplied, divided, told? -/
import Derived.Test.YtipbcjnniamcgaaDoorSd
import Derived.Test.YtipbcjnniamcgaaDoorLm
namespace Go.Proofs.YtipbcjnniamcgaaDoor.Fw
set_option linter.unusedSimpArgs false
set_option linter.unusedVariables false
open Go Go.Proofs.YtipbcjnniamcgaaDoor.Ma
set_option maxRecDepth 20000

theorem digs_is {l : List Nat} (n : Nat) (h : Lim 4294967296 l) (h0 : l = [] ∨ l.getD (l.length - 1) 0 ≠ 0) (hv : val 4294967296 l = n) : digs 4294967296 n = l := by
  rw [← hv]; exact (digs_of (by omega) h h0).symm
theorem works_fn : PFn Tryd.prog 33 [] (.bool true) := by
  intro H Q hq
  refine enter33 (by simp) ?_
  simp (disch := first | assumption | (apply Ap.symm; assumption) | omega | decide | (simp only [U_len, List.length_append, List.length_replicate, List.length_cons, List.length_nil, List.length_set] <;> omega) | fail) only [ac33, str_Sx, ↓Xa, Xb, Xc, ↓reduceIte, Nat.reduceLT, Nat.reduceEqDiff, Nat.reduceBEq, Nat.reduceLeDiff, Nat.reduceAdd, Nat.reduceMul]
  have l1 : Lim 4294967296 [4294967295] := Lim.one (by omega)
  have l2 : Lim 4294967296 [4294967295, 0] := Lim.cons (by omega) (Lim.one (by omega))
  have l3 : Lim 4294967296 [5] := Lim.one (by omega)
  have l4 : Lim 4294967296 [1, 4294967294] := Lim.cons (by omega) (Lim.one (by omega))
  have d1 : digs 4294967296 18446744065119617025 = [1, 4294967294] := digs_is _ l4 (.inr (by decide)) (by decide)
  have d2 : digs 4294967296 4294967295 = [4294967295] := digs_is _ l1 (.inr (by decide)) (by decide)
  have d3 : digs 4294967296 5 = [5] := digs_is _ l3 (.inr (by decide)) (by decide)
  have m1 := mul_fn (a := [4294967295]) (b := [4294967295, 0]) true true l1 l2 (by simp) (by simp)
  rw [show val 4294967296 [4294967295] * val 4294967296 [4294967295, 0] = 18446744065119617025 by decide, d1] at m1
  refine m1.call ?_
  simp (disch := first | assumption | (apply Ap.symm; assumption) | omega | decide | (simp only [U_len, List.length_append, List.length_replicate, List.length_cons, List.length_nil, List.length_set] <;> omega) | fail) only [↓Xa, Xb, Xc, ↓reduceIte, Nat.reduceLT, Nat.reduceEqDiff, Nat.reduceBEq, Nat.reduceLeDiff, Nat.reduceAdd, Nat.reduceMul]
  have m2 := add_fn (a := [1, 4294967294]) (b := [5]) true true l4 l3 (by simp) (by simp)
  refine m2.call ?_
  rw [show val 4294967296 [1, 4294967294] + val 4294967296 [5] = 18446744065119617030 by decide]
  simp (disch := first | assumption | (apply Ap.symm; assumption) | omega | decide | (simp only [U_len, List.length_append, List.length_replicate, List.length_cons, List.length_nil, List.length_set] <;> omega) | fail) only [↓Xa, Xb, Xc, ↓reduceIte, Nat.reduceLT, Nat.reduceEqDiff, Nat.reduceBEq, Nat.reduceLeDiff, Nat.reduceAdd, Nat.reduceMul]
  have m3 := divmod_fn (a := digs 4294967296 18446744065119617030) (b := [4294967295]) true true (lim_digs (by omega) _) l1 (by decide) (Nat.le_trans (digs_len (k := 3) (by omega) _ (by decide)) (by omega)) (by simp)
  rw [val_digs (by omega), show 18446744065119617030 / val 4294967296 [4294967295] = 4294967295 by decide, show 18446744065119617030 % val 4294967296 [4294967295] = 5 by decide, d2, d3] at m3
  refine m3.call ?_
  simp (disch := first | assumption | (apply Ap.symm; assumption) | omega | decide | (simp only [U_len, List.length_append, List.length_replicate, List.length_cons, List.length_nil, List.length_set] <;> omega) | fail) only [↓Xa, Xb, Xc, ↓reduceIte, Nat.reduceLT, Nat.reduceEqDiff, Nat.reduceBEq, Nat.reduceLeDiff, Nat.reduceAdd, Nat.reduceMul]
  refine (equal_fn (a := [1, 4294967294]) (b := [1, 4294967294]) true true (by simp) (by simp)).call ?_
  rw [decide_eq_true rfl]
  simp (disch := first | assumption | (apply Ap.symm; assumption) | omega | decide | (simp only [U_len, List.length_append, List.length_replicate, List.length_cons, List.length_nil, List.length_set] <;> omega) | fail) only [↓Xa, Xb, Xc, ↓reduceIte, Nat.reduceLT, Nat.reduceEqDiff, Nat.reduceBEq, Nat.reduceLeDiff, Nat.reduceAdd, Nat.reduceMul]
  refine (equal_fn (a := [4294967295]) (b := [4294967295]) true true (by simp) (by simp)).call ?_
  rw [decide_eq_true rfl]
  simp (disch := first | assumption | (apply Ap.symm; assumption) | omega | decide | (simp only [U_len, List.length_append, List.length_replicate, List.length_cons, List.length_nil, List.length_set] <;> omega) | fail) only [↓Xa, Xb, Xc, ↓reduceIte, Nat.reduceLT, Nat.reduceEqDiff, Nat.reduceBEq, Nat.reduceLeDiff, Nat.reduceAdd, Nat.reduceMul]
  refine (equal_fn (a := [5]) (b := [5]) true true (by simp) (by simp)).call ?_
  rw [decide_eq_true rfl]
  simp (disch := first | assumption | (apply Ap.symm; assumption) | omega | decide | (simp only [U_len, List.length_append, List.length_replicate, List.length_cons, List.length_nil, List.length_set] <;> omega) | fail) only [↓Xa, Xb, Xc, ↓reduceIte, Nat.reduceLT, Nat.reduceEqDiff, Nat.reduceBEq, Nat.reduceLeDiff, Nat.reduceAdd, Nat.reduceMul]
  have m4 := text_fn (l := [1, 4294967294]) true l4 (by simp)
  refine m4.call ?_
  have d4 : decT (val 4294967296 [1, 4294967294]) = [49, 56, 52, 52, 54, 55, 52, 52, 48, 54, 53, 49, 49, 57, 54, 49, 55, 48, 50, 53] := by
    have l10 : Lim 10 [5, 2, 0, 7, 1, 6, 9, 1, 1, 5, 6, 0, 4, 4, 7, 6, 4, 4, 8, 1] := by
      intro x hx
      simp only [List.mem_cons, List.not_mem_nil, or_false] at hx
      omega
    have e10 : digs 10 18446744065119617025 = [5, 2, 0, 7, 1, 6, 9, 1, 1, 5, 6, 0, 4, 4, 7, 6, 4, 4, 8, 1] := by
      have := digs_of (by omega) l10 (.inr (by decide))
      rw [this]; congr 1
    rw [show val 4294967296 [1, 4294967294] = 18446744065119617025 by decide]
    unfold decT dec
    rw [if_neg (by decide), e10]
    rfl
  rw [d4]
  simp (disch := first | assumption | (apply Ap.symm; assumption) | omega | decide | (simp only [U_len, List.length_append, List.length_replicate, List.length_cons, List.length_nil, List.length_set] <;> omega) | fail) only [eql_Sx, rs33, ↓Xa, Xb, Xc, ↓reduceIte, Nat.reduceLT, Nat.reduceEqDiff, Nat.reduceBEq, Nat.reduceLeDiff, Nat.reduceAdd, Nat.reduceMul]
  exact SetR.now hq
end Go.Proofs.YtipbcjnniamcgaaDoor.Fw
