/- Whether rows are long, as package swagelaw01 asks it. -/
import Derived.Test.YtipbcjnniamcgaaDoorVc
namespace Go.Proofs.YtipbcjnniamcgaaDoor.Fw
set_option linter.unusedSimpArgs false
set_option linter.unusedVariables false
open Go Go.Proofs.YtipbcjnniamcgaaDoor.Ma
set_option maxRecDepth 20000

/-- Rows of limbs, one behind the other. -/
def RowC (l : List (List Nat × Bool)) : List AV := l.map fun q => LS q.1 q.2
theorem RowC_len {l : List (List Nat × Bool)} : (RowC l).length = l.length := by simp [RowC]
def lngA (l : List (List Nat × Bool)) : Bool := l.any fun q => decide (160 < q.1.length)
theorem long1_fn {l : List Nat} (t : Bool) (hl : l.length < 9223372036854775808) : PFn Tryd.prog 98 [LS l t] (.bool (decide (160 < l.length))) := by
  intro H Q hq
  refine enter98 (by simp) ?_
  simp (disch := first | assumption | (apply Ap.symm; assumption) | omega | decide | (simp only [U_len, List.length_append, List.length_replicate, List.length_cons, List.length_nil, List.length_set] <;> omega) | fail) only [ac98, rs98, ↓Xa, Xb, Xc, ↓reduceIte, Nat.reduceLT, Nat.reduceEqDiff, Nat.reduceBEq, Nat.reduceLeDiff, Nat.reduceAdd, Nat.reduceMul]
  exact SetR.now hq
theorem index_run {H : AHeap} {Q : AV → AHeap → Prop} (l : List (List Nat × Bool)) (t : Bool) (hl : l.length < 1000) (hb : ∀ q, q ∈ l → q.1.length < 9223372036854775808) (hq : ∀ r : Int, decide (((0 : Nat) : Int) ≤ r) = lngA l → Q (.int .i64 r) H) :
    Run Tryd.prog 118 [.seq l.length (RowC l) t, .fn (.func 98) [] []] H Q := by
  have len9 : ∀ {n : Nat} {c : List AV} {t : Bool} {K : AV → Prop} (_ : n < 2 ^ 63), lenW false (.seq n c t) K = K (.int .i64 ((n : Nat) : Int)) := fun h => by simp [lenW, h]
  have idx9 : ∀ {i : Nat} {K : AV → Prop} (_ : i < l.length), idxAW 1 (.seq l.length (RowC l) t) (.int .i64 (i : Int)) K = K (.cptr ((RowC l).drop i)) := fun {i K} h => by simp [idxAW, RowC_len, h]
  have ld9 : ∀ {i : Nat} {K : AV → Prop} (h : i < l.length), loadW H none (.cptr ((RowC l).drop i)) K = K (LS (l[i]).1 (l[i]).2) := fun {i K} h => by
    have e : (RowC l).drop i = LS (l[i]).1 (l[i]).2 :: (RowC l).drop (i + 1) := by
      rw [List.drop_eq_getElem_cons (by rw [RowC_len]; exact h)]; simp [RowC]
    simp only [loadW, cellsAt, e]
    simp
  refine enter118 (by simp) ?_
  simp (disch := first | assumption | (apply Ap.symm; assumption) | omega | decide | (simp only [U_len, List.length_append, List.length_replicate, List.length_cons, List.length_nil, List.length_set] <;> omega) | fail) only [ac118, len9, ↓Xa, Xb, Xc, ↓reduceIte, Nat.reduceLT, Nat.reduceEqDiff, Nat.reduceBEq, Nat.reduceLeDiff, Nat.reduceAdd, Nat.reduceMul]
  refine W_loop (fun i : Nat => ⟨[], [(0, .seq l.length (RowC l) t), (1, .fn (.func 98) [] []), (7, .int .i64 (l.length : Nat)), (8, .int .i64 (i : Nat))], H⟩) (fun i => i ≤ l.length ∧ ∀ q, q ∈ l.take i → ¬ 160 < q.1.length) (fun i => l.length - i) 0 (Settle.now rfl) ⟨by simp, by simp⟩ ?_
  rintro i ⟨h1, h2⟩
  by_cases hi : i < l.length
  · have hbi := hb (l[i]) (List.getElem_mem hi)
    simp (disch := first | assumption | (apply Ap.symm; assumption) | omega | decide | (simp only [U_len, List.length_append, List.length_replicate, List.length_cons, List.length_nil, List.length_set] <;> omega) | fail) only [hi, idx9, ld9, ↓Xa, Xb, Xc, ↓reduceIte, Nat.reduceLT, Nat.reduceEqDiff, Nat.reduceBEq, Nat.reduceLeDiff, Nat.reduceAdd, Nat.reduceMul]
    refine (long1_fn _ hbi).call ?_
    by_cases hv : 160 < (l[i]).1.length
    · simp (disch := first | assumption | (apply Ap.symm; assumption) | omega | decide | (simp only [U_len, List.length_append, List.length_replicate, List.length_cons, List.length_nil, List.length_set] <;> omega) | fail) only [hv, rs118, ↓Xa, Xb, Xc, ↓reduceIte, Nat.reduceLT, Nat.reduceEqDiff, Nat.reduceBEq, Nat.reduceLeDiff, Nat.reduceAdd, Nat.reduceMul]
      have e : lngA l = true := List.any_eq_true.2 ⟨_, List.getElem_mem hi, by simpa using hv⟩
      exact SetR.now (hq _ (by rw [e]; simp))
    · simp (disch := first | assumption | (apply Ap.symm; assumption) | omega | decide | (simp only [U_len, List.length_append, List.length_replicate, List.length_cons, List.length_nil, List.length_set] <;> omega) | fail) only [hv, ↓Xa, Xb, Xc, ↓reduceIte, Nat.reduceLT, Nat.reduceEqDiff, Nat.reduceBEq, Nat.reduceLeDiff, Nat.reduceAdd, Nat.reduceMul]
      refine Settle.now ⟨i + 1, by omega, ⟨by omega, fun q hq => ?_⟩, rfl⟩
      rw [List.take_add_one, List.getElem?_eq_getElem hi, List.mem_append] at hq
      rcases hq with hq | hq
      · exact h2 q hq
      · rw [List.mem_singleton.1 hq]; exact hv
  · simp (disch := first | assumption | (apply Ap.symm; assumption) | omega | decide | (simp only [U_len, List.length_append, List.length_replicate, List.length_cons, List.length_nil, List.length_set] <;> omega) | fail) only [hi, ↓Xa, Xb, Xc, ↓reduceIte, Nat.reduceLT, Nat.reduceEqDiff, Nat.reduceBEq, Nat.reduceLeDiff, Nat.reduceAdd, Nat.reduceMul]
    refine Settle.now ?_
    simp (disch := first | assumption | (apply Ap.symm; assumption) | omega | decide | (simp only [U_len, List.length_append, List.length_replicate, List.length_cons, List.length_nil, List.length_set] <;> omega) | fail) only [rs118, ↓Xa, Xb, Xc, ↓reduceIte, Nat.reduceLT, Nat.reduceEqDiff, Nat.reduceBEq, Nat.reduceLeDiff, Nat.reduceAdd, Nat.reduceMul]
    have e : lngA l = false := by
      rw [List.take_of_length_le (by omega)] at h2
      exact List.any_eq_false.2 fun q hq => by simpa using h2 q hq
    exact SetR.now (hq _ (by rw [e]; simp))
theorem llong_fn (l : List (List Nat × Bool)) (t : Bool) (hl : l.length < 1000) (hb : ∀ q, q ∈ l → q.1.length < 9223372036854775808) : PFn Tryd.prog 51 [.seq l.length (RowC l) t] (.bool (lngA l)) := by
  intro H Q hq
  refine enter51 (by simp) ?_
  simp (disch := first | assumption | (apply Ap.symm; assumption) | omega | decide | (simp only [U_len, List.length_append, List.length_replicate, List.length_cons, List.length_nil, List.length_set] <;> omega) | fail) only [ac51, ↓Xa, Xb, Xc, ↓reduceIte, Nat.reduceLT, Nat.reduceEqDiff, Nat.reduceBEq, Nat.reduceLeDiff, Nat.reduceAdd, Nat.reduceMul]
  refine PFn.call (r := .bool (lngA l)) (fun H Q hq => ?_) ?_
  · refine enter97 (by simp) ?_
    simp (disch := first | assumption | (apply Ap.symm; assumption) | omega | decide | (simp only [U_len, List.length_append, List.length_replicate, List.length_cons, List.length_nil, List.length_set] <;> omega) | fail) only [ac97, ↓Xa, Xb, Xc, ↓reduceIte, Nat.reduceLT, Nat.reduceEqDiff, Nat.reduceBEq, Nat.reduceLeDiff, Nat.reduceAdd, Nat.reduceMul]
    refine run_call (index_run l t hl hb fun r hr => ?_)
    have c : ∀ K, binW .geq (.int .i64 r) (.int .i64 ((0 : Nat) : Int)) K ↔ K (.bool (lngA l)) := fun K => by
      rw [← hr]; simp only [binW, binInt, true_and]
    simp (disch := first | assumption | (apply Ap.symm; assumption) | omega | decide | (simp only [U_len, List.length_append, List.length_replicate, List.length_cons, List.length_nil, List.length_set] <;> omega) | fail) only [c, rs97, ↓Xa, Xb, Xc, ↓reduceIte, Nat.reduceLT, Nat.reduceEqDiff, Nat.reduceBEq, Nat.reduceLeDiff, Nat.reduceAdd, Nat.reduceMul]
    exact SetR.now hq
  · simp (disch := first | assumption | (apply Ap.symm; assumption) | omega | decide | (simp only [U_len, List.length_append, List.length_replicate, List.length_cons, List.length_nil, List.length_set] <;> omega) | fail) only [rs51, ↓Xa, Xb, Xc, ↓reduceIte, Nat.reduceLT, Nat.reduceEqDiff, Nat.reduceBEq, Nat.reduceLeDiff, Nat.reduceAdd, Nat.reduceMul]
    exact SetR.now hq
end Go.Proofs.YtipbcjnniamcgaaDoor.Fw
