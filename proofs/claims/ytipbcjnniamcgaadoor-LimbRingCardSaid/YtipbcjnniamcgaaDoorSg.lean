/- The law of sums and products of limbs, as what its code computes: true. -/
import Derived.Test.YtipbcjnniamcgaaDoorSf
import Derived.Test.YtipbcjnniamcgaaDoorAl9
namespace Go.Proofs.YtipbcjnniamcgaaDoor.Fw
set_option linter.unusedSimpArgs false
set_option linter.unusedVariables false
open Go Go.Proofs.YtipbcjnniamcgaaDoor.Ma
set_option maxRecDepth 20000

theorem limbRing_law (a b c : List Nat) (ha : Lim 4294967296 a) (hb : Lim 4294967296 b) (hc : Lim 4294967296 c) (la : a.length < 9223372036854775808) (lb : b.length < 9223372036854775808) (lc : c.length < 9223372036854775808) :
    PFn Tryd.prog 9 [LS a false, LS b false, LS c false] (.bool true) := by
  intro H Q hq
  refine enter9 (by simp) ?_
  simp (disch := first | assumption | (apply Ap.symm; assumption) | omega | decide | (simp only [U_len, List.length_append, List.length_replicate, List.length_cons, List.length_nil, List.length_set] <;> omega) | fail) only [ac9, ↓Xa, Xb, Xc, ↓reduceIte, Nat.reduceLT, Nat.reduceEqDiff, Nat.reduceBEq, Nat.reduceLeDiff, Nat.reduceAdd, Nat.reduceMul]
  refine works_fn.call ?_
  by_cases h1 : 2000 < a.length
  · simp (disch := first | assumption | (apply Ap.symm; assumption) | omega | decide | (simp only [U_len, List.length_append, List.length_replicate, List.length_cons, List.length_nil, List.length_set] <;> omega) | fail) only [h1, rs9, ↓Xa, Xb, Xc, ↓reduceIte, Nat.reduceLT, Nat.reduceEqDiff, Nat.reduceBEq, Nat.reduceLeDiff, Nat.reduceAdd, Nat.reduceMul]
    exact SetR.now hq
  by_cases h2 : 2000 < b.length
  · simp (disch := first | assumption | (apply Ap.symm; assumption) | omega | decide | (simp only [U_len, List.length_append, List.length_replicate, List.length_cons, List.length_nil, List.length_set] <;> omega) | fail) only [h1, h2, rs9, ↓Xa, Xb, Xc, ↓reduceIte, Nat.reduceLT, Nat.reduceEqDiff, Nat.reduceBEq, Nat.reduceLeDiff, Nat.reduceAdd, Nat.reduceMul]
    exact SetR.now hq
  by_cases h3 : 2000 < c.length
  · simp (disch := first | assumption | (apply Ap.symm; assumption) | omega | decide | (simp only [U_len, List.length_append, List.length_replicate, List.length_cons, List.length_nil, List.length_set] <;> omega) | fail) only [h1, h2, h3, rs9, ↓Xa, Xb, Xc, ↓reduceIte, Nat.reduceLT, Nat.reduceEqDiff, Nat.reduceBEq, Nat.reduceLeDiff, Nat.reduceAdd, Nat.reduceMul]
    exact SetR.now hq
  have na := Nm.raw (k := 2000) ha (by omega)
  have nb := Nm.raw (k := 2000) hb (by omega)
  have nc := Nm.raw (k := 2000) hc (by omega)
  generalize Ma.val 4294967296 a = A at na
  generalize Ma.val 4294967296 b = B at nb
  generalize Ma.val 4294967296 c = C at nc
  have ab := lt_add na.lt nb.lt
  have bc := lt_add nb.lt nc.lt
  have p := lt_mul na.lt nb.lt
  have q := lt_mul nb.lt nc.lt
  simp (disch := first | assumption | (apply Ap.symm; assumption) | omega | decide | (simp only [U_len, List.length_append, List.length_replicate, List.length_cons, List.length_nil, List.length_set] <;> omega) | fail) only [h1, h2, h3, ↓Xa, Xb, Xc, ↓reduceIte, Nat.reduceLT, Nat.reduceEqDiff, Nat.reduceBEq, Nat.reduceLeDiff, Nat.reduceAdd, Nat.reduceMul]
  refine (add_n false false na nb (by omega) (by omega)).call ?_
  simp (disch := first | assumption | (apply Ap.symm; assumption) | omega | decide | (simp only [U_len, List.length_append, List.length_replicate, List.length_cons, List.length_nil, List.length_set] <;> omega) | fail) only [↓Xa, Xb, Xc, ↓reduceIte, Nat.reduceLT, Nat.reduceEqDiff, Nat.reduceBEq, Nat.reduceLeDiff, Nat.reduceAdd, Nat.reduceMul]
  refine (add_n false false nb nc (by omega) (by omega)).call ?_
  simp (disch := first | assumption | (apply Ap.symm; assumption) | omega | decide | (simp only [U_len, List.length_append, List.length_replicate, List.length_cons, List.length_nil, List.length_set] <;> omega) | fail) only [↓Xa, Xb, Xc, ↓reduceIte, Nat.reduceLT, Nat.reduceEqDiff, Nat.reduceBEq, Nat.reduceLeDiff, Nat.reduceAdd, Nat.reduceMul]
  refine (mul_n false false na nb (by omega) (by omega)).call ?_
  simp (disch := first | assumption | (apply Ap.symm; assumption) | omega | decide | (simp only [U_len, List.length_append, List.length_replicate, List.length_cons, List.length_nil, List.length_set] <;> omega) | fail) only [↓Xa, Xb, Xc, ↓reduceIte, Nat.reduceLT, Nat.reduceEqDiff, Nat.reduceBEq, Nat.reduceLeDiff, Nat.reduceAdd, Nat.reduceMul]
  refine (mul_n false false nb nc (by omega) (by omega)).call ?_
  simp (disch := first | assumption | (apply Ap.symm; assumption) | omega | decide | (simp only [U_len, List.length_append, List.length_replicate, List.length_cons, List.length_nil, List.length_set] <;> omega) | fail) only [↓Xa, Xb, Xc, ↓reduceIte, Nat.reduceLT, Nat.reduceEqDiff, Nat.reduceBEq, Nat.reduceLeDiff, Nat.reduceAdd, Nat.reduceMul]
  refine (add_n false false nb na (by omega) (by omega)).call ?_
  simp (disch := first | assumption | (apply Ap.symm; assumption) | omega | decide | (simp only [U_len, List.length_append, List.length_replicate, List.length_cons, List.length_nil, List.length_set] <;> omega) | fail) only [↓Xa, Xb, Xc, ↓reduceIte, Nat.reduceLT, Nat.reduceEqDiff, Nat.reduceBEq, Nat.reduceLeDiff, Nat.reduceAdd, Nat.reduceMul]
  refine (eq_same true true (Nat.add_comm A B) ab (by omega)).call ?_
  simp (disch := first | assumption | (apply Ap.symm; assumption) | omega | decide | (simp only [U_len, List.length_append, List.length_replicate, List.length_cons, List.length_nil, List.length_set] <;> omega) | fail) only [↓Xa, Xb, Xc, ↓reduceIte, Nat.reduceLT, Nat.reduceEqDiff, Nat.reduceBEq, Nat.reduceLeDiff, Nat.reduceAdd, Nat.reduceMul]
  refine (mul_n false false nb na (by omega) (by omega)).call ?_
  simp (disch := first | assumption | (apply Ap.symm; assumption) | omega | decide | (simp only [U_len, List.length_append, List.length_replicate, List.length_cons, List.length_nil, List.length_set] <;> omega) | fail) only [↓Xa, Xb, Xc, ↓reduceIte, Nat.reduceLT, Nat.reduceEqDiff, Nat.reduceBEq, Nat.reduceLeDiff, Nat.reduceAdd, Nat.reduceMul]
  refine (eq_same true true (Nat.mul_comm A B) p (by omega)).call ?_
  simp (disch := first | assumption | (apply Ap.symm; assumption) | omega | decide | (simp only [U_len, List.length_append, List.length_replicate, List.length_cons, List.length_nil, List.length_set] <;> omega) | fail) only [↓Xa, Xb, Xc, ↓reduceIte, Nat.reduceLT, Nat.reduceEqDiff, Nat.reduceBEq, Nat.reduceLeDiff, Nat.reduceAdd, Nat.reduceMul]
  refine (add_n true false (Nm.digs ab) nc (by omega) (by omega)).call ?_
  simp (disch := first | assumption | (apply Ap.symm; assumption) | omega | decide | (simp only [U_len, List.length_append, List.length_replicate, List.length_cons, List.length_nil, List.length_set] <;> omega) | fail) only [↓Xa, Xb, Xc, ↓reduceIte, Nat.reduceLT, Nat.reduceEqDiff, Nat.reduceBEq, Nat.reduceLeDiff, Nat.reduceAdd, Nat.reduceMul]
  refine (add_n false true na (Nm.digs bc) (by omega) (by omega)).call ?_
  simp (disch := first | assumption | (apply Ap.symm; assumption) | omega | decide | (simp only [U_len, List.length_append, List.length_replicate, List.length_cons, List.length_nil, List.length_set] <;> omega) | fail) only [↓Xa, Xb, Xc, ↓reduceIte, Nat.reduceLT, Nat.reduceEqDiff, Nat.reduceBEq, Nat.reduceLeDiff, Nat.reduceAdd, Nat.reduceMul]
  refine (eq_same true true (Nat.add_assoc A B C) (lt_add ab nc.lt) (by omega)).call ?_
  simp (disch := first | assumption | (apply Ap.symm; assumption) | omega | decide | (simp only [U_len, List.length_append, List.length_replicate, List.length_cons, List.length_nil, List.length_set] <;> omega) | fail) only [↓Xa, Xb, Xc, ↓reduceIte, Nat.reduceLT, Nat.reduceEqDiff, Nat.reduceBEq, Nat.reduceLeDiff, Nat.reduceAdd, Nat.reduceMul]
  refine (mul_n true false (Nm.digs p) nc (by omega) (by omega)).call ?_
  simp (disch := first | assumption | (apply Ap.symm; assumption) | omega | decide | (simp only [U_len, List.length_append, List.length_replicate, List.length_cons, List.length_nil, List.length_set] <;> omega) | fail) only [↓Xa, Xb, Xc, ↓reduceIte, Nat.reduceLT, Nat.reduceEqDiff, Nat.reduceBEq, Nat.reduceLeDiff, Nat.reduceAdd, Nat.reduceMul]
  refine (mul_n false true na (Nm.digs q) (by omega) (by omega)).call ?_
  simp (disch := first | assumption | (apply Ap.symm; assumption) | omega | decide | (simp only [U_len, List.length_append, List.length_replicate, List.length_cons, List.length_nil, List.length_set] <;> omega) | fail) only [↓Xa, Xb, Xc, ↓reduceIte, Nat.reduceLT, Nat.reduceEqDiff, Nat.reduceBEq, Nat.reduceLeDiff, Nat.reduceAdd, Nat.reduceMul]
  refine (eq_same true true (Nat.mul_assoc A B C) (lt_mul p nc.lt) (by omega)).call ?_
  simp (disch := first | assumption | (apply Ap.symm; assumption) | omega | decide | (simp only [U_len, List.length_append, List.length_replicate, List.length_cons, List.length_nil, List.length_set] <;> omega) | fail) only [↓Xa, Xb, Xc, ↓reduceIte, Nat.reduceLT, Nat.reduceEqDiff, Nat.reduceBEq, Nat.reduceLeDiff, Nat.reduceAdd, Nat.reduceMul]
  refine (mul_n false true na (Nm.digs bc) (by omega) (by omega)).call ?_
  simp (disch := first | assumption | (apply Ap.symm; assumption) | omega | decide | (simp only [U_len, List.length_append, List.length_replicate, List.length_cons, List.length_nil, List.length_set] <;> omega) | fail) only [↓Xa, Xb, Xc, ↓reduceIte, Nat.reduceLT, Nat.reduceEqDiff, Nat.reduceBEq, Nat.reduceLeDiff, Nat.reduceAdd, Nat.reduceMul]
  refine (mul_n false false na nc (by omega) (by omega)).call ?_
  simp (disch := first | assumption | (apply Ap.symm; assumption) | omega | decide | (simp only [U_len, List.length_append, List.length_replicate, List.length_cons, List.length_nil, List.length_set] <;> omega) | fail) only [↓Xa, Xb, Xc, ↓reduceIte, Nat.reduceLT, Nat.reduceEqDiff, Nat.reduceBEq, Nat.reduceLeDiff, Nat.reduceAdd, Nat.reduceMul]
  refine (add_n true true (Nm.digs p) (Nm.digs (lt_mul na.lt nc.lt)) (by omega) (by omega)).call ?_
  simp (disch := first | assumption | (apply Ap.symm; assumption) | omega | decide | (simp only [U_len, List.length_append, List.length_replicate, List.length_cons, List.length_nil, List.length_set] <;> omega) | fail) only [↓Xa, Xb, Xc, ↓reduceIte, Nat.reduceLT, Nat.reduceEqDiff, Nat.reduceBEq, Nat.reduceLeDiff, Nat.reduceAdd, Nat.reduceMul]
  refine (eq_same true true (Nat.mul_add A B C) (lt_mul na.lt bc) (by omega)).call ?_
  simp (disch := first | assumption | (apply Ap.symm; assumption) | omega | decide | (simp only [U_len, List.length_append, List.length_replicate, List.length_cons, List.length_nil, List.length_set] <;> omega) | fail) only [↓Xa, Xb, Xc, ↓reduceIte, Nat.reduceLT, Nat.reduceEqDiff, Nat.reduceBEq, Nat.reduceLeDiff, Nat.reduceAdd, Nat.reduceMul]
  refine (sub_n true false (Nm.digs ab) nb (by omega) (by omega) (Nat.le_add_left _ _)).call ?_
  simp (disch := first | assumption | (apply Ap.symm; assumption) | omega | decide | (simp only [U_len, List.length_append, List.length_replicate, List.length_cons, List.length_nil, List.length_set] <;> omega) | fail) only [↓Xa, Xb, Xc, ↓reduceIte, Nat.reduceLT, Nat.reduceEqDiff, Nat.reduceBEq, Nat.reduceLeDiff, Nat.reduceAdd, Nat.reduceMul]
  refine (norm_n false na (by omega)).call ?_
  simp (disch := first | assumption | (apply Ap.symm; assumption) | omega | decide | (simp only [U_len, List.length_append, List.length_replicate, List.length_cons, List.length_nil, List.length_set] <;> omega) | fail) only [↓Xa, Xb, Xc, ↓reduceIte, Nat.reduceLT, Nat.reduceEqDiff, Nat.reduceBEq, Nat.reduceLeDiff, Nat.reduceAdd, Nat.reduceMul]
  refine (eq_same true true (Nat.add_sub_cancel A B) (by rw [Nat.add_sub_cancel]; exact na.lt) (by omega)).call ?_
  simp (disch := first | assumption | (apply Ap.symm; assumption) | omega | decide | (simp only [U_len, List.length_append, List.length_replicate, List.length_cons, List.length_nil, List.length_set] <;> omega) | fail) only [↓Xa, Xb, Xc, ↓reduceIte, Nat.reduceLT, Nat.reduceEqDiff, Nat.reduceBEq, Nat.reduceLeDiff, Nat.reduceAdd, Nat.reduceMul]
  refine (cmp_n true false (Nm.digs ab) na).call ?_
  simp (disch := first | assumption | (apply Ap.symm; assumption) | omega | decide | (simp only [U_len, List.length_append, List.length_replicate, List.length_cons, List.length_nil, List.length_set] <;> omega) | fail) only [cmpZ_geq, Nat.le_add_right, rs9, ↓Xa, Xb, Xc, ↓reduceIte, Nat.reduceLT, Nat.reduceEqDiff, Nat.reduceBEq, Nat.reduceLeDiff, Nat.reduceAdd, Nat.reduceMul]
  exact SetR.now hq
end Go.Proofs.YtipbcjnniamcgaaDoor.Fw
