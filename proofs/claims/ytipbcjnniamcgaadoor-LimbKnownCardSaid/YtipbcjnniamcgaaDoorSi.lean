/- The greatest common divisor of limbs. -/
import Derived.Test.YtipbcjnniamcgaaDoorSh
namespace Go.Proofs.YtipbcjnniamcgaaDoor.Fw
set_option linter.unusedSimpArgs false
set_option linter.unusedVariables false
open Go Go.Proofs.YtipbcjnniamcgaaDoor.Ma
set_option maxRecDepth 20000

theorem gcd_n {a b : List Nat} {m n k : Nat} (ta tb : Bool) (ha : Nm a m k) (hb : Nm b n k) (hk : k ≤ 1000000) : PFn Tryd.prog 45 [LS a ta, LS b tb] (LS (Ma.digs 4294967296 (Nat.gcd m n)) true) := by
  intro H Q hq
  refine enter45 (by simp) ?_
  simp (disch := first | assumption | (apply Ap.symm; assumption) | omega | decide | (simp only [U_len, List.length_append, List.length_replicate, List.length_cons, List.length_nil, List.length_set] <;> omega) | fail) only [ac45, ↓Xa, Xb, Xc, ↓reduceIte, Nat.reduceLT, Nat.reduceEqDiff, Nat.reduceBEq, Nat.reduceLeDiff, Nat.reduceAdd, Nat.reduceMul]
  refine (norm_n ta ha hk).call ?_
  simp (disch := first | assumption | (apply Ap.symm; assumption) | omega | decide | (simp only [U_len, List.length_append, List.length_replicate, List.length_cons, List.length_nil, List.length_set] <;> omega) | fail) only [↓Xa, Xb, Xc, ↓reduceIte, Nat.reduceLT, Nat.reduceEqDiff, Nat.reduceBEq, Nat.reduceLeDiff, Nat.reduceAdd, Nat.reduceMul]
  refine (norm_n tb hb hk).call ?_
  simp (disch := first | assumption | (apply Ap.symm; assumption) | omega | decide | (simp only [U_len, List.length_append, List.length_replicate, List.length_cons, List.length_nil, List.length_set] <;> omega) | fail) only [↓Xa, Xb, Xc, ↓reduceIte, Nat.reduceLT, Nat.reduceEqDiff, Nat.reduceBEq, Nat.reduceLeDiff, Nat.reduceAdd, Nat.reduceMul]
  refine W_loop (fun s : Nat × Nat => ⟨[], [(5, LS (Ma.digs 4294967296 s.1) true), (6, LS (Ma.digs 4294967296 s.2) true)], H⟩) (fun s => Nat.gcd s.1 s.2 = Nat.gcd m n ∧ s.1 < 4294967296 ^ k ∧ s.2 < 4294967296 ^ k) (fun s => s.2) (m, n) (Settle.now rfl) ⟨rfl, ha.lt, hb.lt⟩ ?_
  rintro ⟨x, y⟩ ⟨hg, hx, hy⟩
  dsimp only at hg hx hy ⊢
  have hl := digs_pos_iff (m := y)
  have hl1 := (Nm.digs hy).len
  by_cases hy0 : y = 0
  · rw [decide_eq_false (show ¬ 0 < y by omega)] at hl
    simp (disch := first | assumption | (apply Ap.symm; assumption) | omega | decide | (simp only [U_len, List.length_append, List.length_replicate, List.length_cons, List.length_nil, List.length_set] <;> omega) | fail) only [hl, ↓Xa, Xb, Xc, ↓reduceIte, Nat.reduceLT, Nat.reduceEqDiff, Nat.reduceBEq, Nat.reduceLeDiff, Nat.reduceAdd, Nat.reduceMul]
    refine Settle.now ?_
    simp (disch := first | assumption | (apply Ap.symm; assumption) | omega | decide | (simp only [U_len, List.length_append, List.length_replicate, List.length_cons, List.length_nil, List.length_set] <;> omega) | fail) only [rs45, ↓Xa, Xb, Xc, ↓reduceIte, Nat.reduceLT, Nat.reduceEqDiff, Nat.reduceBEq, Nat.reduceLeDiff, Nat.reduceAdd, Nat.reduceMul]
    have e : Nat.gcd m n = x := by rw [← hg, hy0, Nat.gcd_zero_right]
    rw [e] at hq
    exact SetR.now hq
  · rw [decide_eq_true (show 0 < y by omega)] at hl
    simp (disch := first | assumption | (apply Ap.symm; assumption) | omega | decide | (simp only [U_len, List.length_append, List.length_replicate, List.length_cons, List.length_nil, List.length_set] <;> omega) | fail) only [hl, ↓Xa, Xb, Xc, ↓reduceIte, Nat.reduceLT, Nat.reduceEqDiff, Nat.reduceBEq, Nat.reduceLeDiff, Nat.reduceAdd, Nat.reduceMul]
    refine (div_n true true (Nm.digs hx) (Nm.digs hy) hk hk (by omega)).call ?_
    simp (disch := first | assumption | (apply Ap.symm; assumption) | omega | decide | (simp only [U_len, List.length_append, List.length_replicate, List.length_cons, List.length_nil, List.length_set] <;> omega) | fail) only [↓Xa, Xb, Xc, ↓reduceIte, Nat.reduceLT, Nat.reduceEqDiff, Nat.reduceBEq, Nat.reduceLeDiff, Nat.reduceAdd, Nat.reduceMul]
    have hlt : x % y < y := Nat.mod_lt _ (by omega)
    refine Settle.now ⟨(y, x % y), hlt, ⟨?_, hy, lt_le hy (Nat.le_of_lt hlt)⟩, rfl⟩
    dsimp only
    rw [← hg, Nat.gcd_comm y, ← Nat.gcd_rec, Nat.gcd_comm]
end Go.Proofs.YtipbcjnniamcgaaDoor.Fw
