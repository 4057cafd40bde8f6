/- Sums and products of rows of whole numbers. -/
import Derived.Test.YtipbcjnniamcgaaRj
namespace Go.Proofs.Ytipbcjnniamcgaa.Fw
set_option linter.unusedSimpArgs false
set_option linter.unusedVariables false
open Go Go.Proofs.Ytipbcjnniamcgaa.Ma
set_option maxRecDepth 20000

/-- Whole numbers in a row. -/
def IntC : List Int → List AV
  | [] => []
  | z :: r => .bool (decide (z < 0)) :: LS (digs 4294967296 z.natAbs) true :: IntC r
theorem IntC_len : ∀ l, (IntC l).length = l.length * 2
  | [] => rfl
  | q :: r => by simp [IntC, IntC_len r]; omega
theorem IntC_drop : ∀ (l : List Int) (i : Nat) (h : i < l.length), ((IntC l).drop (i * 2)).take 2 = [.bool (decide (l[i] < 0)), LS (digs 4294967296 (l[i]).natAbs) true]
  | q :: r, 0, _ => by simp [IntC]
  | q :: r, i + 1, h => by
    have := IntC_drop r i (by simpa using h)
    rw [show (i + 1) * 2 = i * 2 + 1 + 1 by omega]
    simpa [IntC] using this
section
variable {l : List Int} {t : Bool} {H : AHeap} {K : AV → Prop}
theorem len_IntC (h : l.length < 2 ^ 63) : lenW false (.seq l.length (IntC l) t) K = K (.int .i64 ((l.length : Nat) : Int)) := by simp [lenW, h]
theorem idx_IntC {i : Nat} (h : i < l.length) : idxAW 2 (.seq l.length (IntC l) t) (.int .i64 (i : Int)) K = K (.cptr ((IntC l).drop (i * 2))) := by simp [idxAW, IntC_len, h]
theorem load_IntC {i : Nat} (h : i < l.length) : loadW H (some 2) (.cptr ((IntC l).drop (i * 2))) K = K (IntA (l[i])) := by
  have : 2 ≤ (IntC l).length - i * 2 := by rw [IntC_len]; omega
  simp [loadW, cellsAt, IntC_drop l i h, IntA, this]
end
theorem sumi_fn (l : List Int) (t : Bool) {k : Nat} (hl : l.length < 1000000) (hb : ∀ z, z ∈ l → Bd k z) (hk : k ≤ 274877906944) : PFn Try.prog 29 [.seq l.length (IntC l) t] (IntA (l.foldl (· + ·) 0)) := by
  intro H Q hq
  refine enter29 (by simp) ?_
  simp (disch := first | assumption | (apply Ap.symm; assumption) | omega | decide | (simp only [U_len, List.length_append, List.length_replicate, List.length_cons, List.length_nil, List.length_set] <;> omega) | fail) only [ac29, ↓Xa, Xb, Xc, ↓reduceIte, Nat.reduceLT, Nat.reduceEqDiff, Nat.reduceBEq, Nat.reduceLeDiff, Nat.reduceAdd, Nat.reduceMul]
  refine alloc_i fun p hp => ?_
  simp (disch := first | assumption | (apply Ap.symm; assumption) | omega | decide | (simp only [U_len, List.length_append, List.length_replicate, List.length_cons, List.length_nil, List.length_set] <;> omega) | fail) only [↓Xa, Xb, Xc, ↓reduceIte, Nat.reduceLT, Nat.reduceEqDiff, Nat.reduceBEq, Nat.reduceLeDiff, Nat.reduceAdd, Nat.reduceMul]
  refine alloc_i fun p2 hp2 => ?_
  have hne := (upd_none.1 hp2).1
  have n2 := (upd_none.1 hp2).2
  simp (disch := first | assumption | (apply Ap.symm; assumption) | omega | decide | (simp only [U_len, List.length_append, List.length_replicate, List.length_cons, List.length_nil, List.length_set] <;> omega) | fail) only [len_IntC, ↓Xa, Xb, Xc, ↓reduceIte, Nat.reduceLT, Nat.reduceEqDiff, Nat.reduceBEq, Nat.reduceLeDiff, Nat.reduceAdd, Nat.reduceMul]
  refine W_loop (fun s : Nat × Int => ⟨[], [(2, .ptr p 2 0), (3, .ptr p2 2 0), (6, .seq l.length (IntC l) t), (7, .int .i64 l.length), (8, .int .i64 s.1)],
      (H.upd p (some (.row 28 0 [.bool false, .seq 0 [] true]))).upd p2 (some (.row 28 0 [.bool (decide (s.2 < 0)), LS (digs 4294967296 s.2.natAbs) true]))⟩)
    (fun s => s.1 ≤ l.length ∧ s.2 = (l.take s.1).foldl (· + ·) 0 ∧ Bd (k + s.1) s.2) (fun s => l.length - s.1) (0, 0) (Settle.now (by simp [digs_zero, LS, U])) ⟨by simp, by simp, Bd.zero _⟩ ?_
  rintro ⟨i, s⟩ ⟨h1, h2, h3⟩
  dsimp only at h1 h2 h3 ⊢
  by_cases hi : i < l.length
  · simp (disch := first | assumption | (apply Ap.symm; assumption) | omega | decide | (simp only [U_len, List.length_append, List.length_replicate, List.length_cons, List.length_nil, List.length_set] <;> omega) | fail) only [hi, idx_IntC, load_IntC, ↓Xa, Xb, Xc, ↓reduceIte, Nat.reduceLT, Nat.reduceEqDiff, Nat.reduceBEq, Nat.reduceLeDiff, Nat.reduceAdd, Nat.reduceMul]
    refine alloc_i fun p3 hp3 => ?_
    have n3 := hp3
    simp only [upd_none] at n3
    obtain ⟨n31, n32, n33⟩ := n3
    have hz := hb _ (List.getElem_mem hi)
    simp (disch := first | assumption | (apply Ap.symm; assumption) | omega | decide | (simp only [U_len, List.length_append, List.length_replicate, List.length_cons, List.length_nil, List.length_set] <;> omega) | fail) only [IntA, ↓Xa, Xb, Xc, ↓reduceIte, Nat.reduceLT, Nat.reduceEqDiff, Nat.reduceBEq, Nat.reduceLeDiff, Nat.reduceAdd, Nat.reduceMul]
    refine (addi_fn h3 (by omega) hz (by omega)).call ?_
    simp (disch := first | assumption | (apply Ap.symm; assumption) | omega | decide | (simp only [U_len, List.length_append, List.length_replicate, List.length_cons, List.length_nil, List.length_set] <;> omega) | fail) only [IntA, ↓Xa, Xb, Xc, ↓reduceIte, Nat.reduceLT, Nat.reduceEqDiff, Nat.reduceBEq, Nat.reduceLeDiff, Nat.reduceAdd, Nat.reduceMul]
    refine Settle.dropTo (Le.updB (Le.refl _) (upd_none.2 ⟨n31, upd_none.2 ⟨n32, n33⟩⟩)) ?_
    refine Settle.now ⟨(i + 1, s + l[i]), by dsimp only; omega, ⟨by dsimp only; omega, ?_, ?_⟩, rfl⟩
    · dsimp only
      rw [List.take_add_one, List.getElem?_eq_getElem hi, List.foldl_append, ← h2]; rfl
    · exact (h3.add (hz.mono (by omega))).mono (by dsimp only; omega)
  · simp (disch := first | assumption | (apply Ap.symm; assumption) | omega | decide | (simp only [U_len, List.length_append, List.length_replicate, List.length_cons, List.length_nil, List.length_set] <;> omega) | fail) only [hi, ↓Xa, Xb, Xc, ↓reduceIte, Nat.reduceLT, Nat.reduceEqDiff, Nat.reduceBEq, Nat.reduceLeDiff, Nat.reduceAdd, Nat.reduceMul]
    refine Settle.now ?_
    have e : s = l.foldl (· + ·) 0 := by rw [h2, List.take_of_length_le (by omega)]
    simp (disch := first | assumption | (apply Ap.symm; assumption) | omega | decide | (simp only [U_len, List.length_append, List.length_replicate, List.length_cons, List.length_nil, List.length_set] <;> omega) | fail) only [rs29, ↓Xa, Xb, Xc, ↓reduceIte, Nat.reduceLT, Nat.reduceEqDiff, Nat.reduceBEq, Nat.reduceLeDiff, Nat.reduceAdd, Nat.reduceMul]
    subst e
    exact SetR.dropTo (((Le.refl H).updB hp).updB n2) (SetR.now hq)

theorem prodi_fn (l : List Int) (t : Bool) {k : Nat} (hl : l.length < 1000) (hb : ∀ z, z ∈ l → Bd k z) (hk : k ≤ 100000000) : PFn Try.prog 30 [.seq l.length (IntC l) t] (IntA (l.foldl (· * ·) 1)) := by
  intro H Q hq
  refine enter30 (by simp) ?_
  simp (disch := first | assumption | (apply Ap.symm; assumption) | omega | decide | (simp only [U_len, List.length_append, List.length_replicate, List.length_cons, List.length_nil, List.length_set] <;> omega) | fail) only [ac30, ↓Xa, Xb, Xc, ↓reduceIte, Nat.reduceLT, Nat.reduceEqDiff, Nat.reduceBEq, Nat.reduceLeDiff, Nat.reduceAdd, Nat.reduceMul]
  refine alloc_i fun p hp => ?_
  simp (disch := first | assumption | (apply Ap.symm; assumption) | omega | decide | (simp only [U_len, List.length_append, List.length_replicate, List.length_cons, List.length_nil, List.length_set] <;> omega) | fail) only [↓Xa, Xb, Xc, ↓reduceIte, Nat.reduceLT, Nat.reduceEqDiff, Nat.reduceBEq, Nat.reduceLeDiff, Nat.reduceAdd, Nat.reduceMul]
  refine (of_fn (n := ((1 : Nat) : Int)) (by omega)).call ?_
  simp (disch := first | assumption | (apply Ap.symm; assumption) | omega | decide | (simp only [U_len, List.length_append, List.length_replicate, List.length_cons, List.length_nil, List.length_set] <;> omega) | fail) only [↓Xa, Xb, Xc, ↓reduceIte, Nat.reduceLT, Nat.reduceEqDiff, Nat.reduceBEq, Nat.reduceLeDiff, Nat.reduceAdd, Nat.reduceMul]
  refine alloc_i fun p2 hp2 => ?_
  have hne := (upd_none.1 hp2).1
  have n2 := (upd_none.1 hp2).2
  simp (disch := first | assumption | (apply Ap.symm; assumption) | omega | decide | (simp only [U_len, List.length_append, List.length_replicate, List.length_cons, List.length_nil, List.length_set] <;> omega) | fail) only [len_IntC, IntA, ↓Xa, Xb, Xc, ↓reduceIte, Nat.reduceLT, Nat.reduceEqDiff, Nat.reduceBEq, Nat.reduceLeDiff, Nat.reduceAdd, Nat.reduceMul]
  refine W_loop (fun s : Nat × Int => ⟨[], [(2, .ptr p 2 0), (3, .ptr p2 2 0), (7, .seq l.length (IntC l) t), (8, .int .i64 l.length), (9, .int .i64 s.1)],
      (H.upd p (some (.row 28 0 [.bool false, .seq 0 [] true]))).upd p2 (some (.row 28 0 [.bool (decide (s.2 < 0)), LS (digs 4294967296 s.2.natAbs) true]))⟩)
    (fun s => s.1 ≤ l.length ∧ s.2 = (l.take s.1).foldl (· * ·) 1 ∧ Bd (2 + k * s.1) s.2) (fun s => l.length - s.1) (0, ((1 : Nat) : Int)) (Settle.now rfl) ⟨by simp, by simp, Bd.i64 (by omega)⟩ ?_
  rintro ⟨i, s⟩ ⟨h1, h2, h3⟩
  dsimp only at h1 h2 h3 ⊢
  have hki : k * i ≤ 100000000 * 1000 := Nat.mul_le_mul (by omega) (by omega)
  by_cases hi : i < l.length
  · simp (disch := first | assumption | (apply Ap.symm; assumption) | omega | decide | (simp only [U_len, List.length_append, List.length_replicate, List.length_cons, List.length_nil, List.length_set] <;> omega) | fail) only [hi, idx_IntC, load_IntC, ↓Xa, Xb, Xc, ↓reduceIte, Nat.reduceLT, Nat.reduceEqDiff, Nat.reduceBEq, Nat.reduceLeDiff, Nat.reduceAdd, Nat.reduceMul]
    refine alloc_i fun p3 hp3 => ?_
    have n3 := hp3
    simp only [upd_none] at n3
    obtain ⟨n31, n32, n33⟩ := n3
    have hz := hb _ (List.getElem_mem hi)
    simp (disch := first | assumption | (apply Ap.symm; assumption) | omega | decide | (simp only [U_len, List.length_append, List.length_replicate, List.length_cons, List.length_nil, List.length_set] <;> omega) | fail) only [IntA, ↓Xa, Xb, Xc, ↓reduceIte, Nat.reduceLT, Nat.reduceEqDiff, Nat.reduceBEq, Nat.reduceLeDiff, Nat.reduceAdd, Nat.reduceMul]
    refine (muli_fn h3 (by omega) hz (by omega)).call ?_
    simp (disch := first | assumption | (apply Ap.symm; assumption) | omega | decide | (simp only [U_len, List.length_append, List.length_replicate, List.length_cons, List.length_nil, List.length_set] <;> omega) | fail) only [IntA, ↓Xa, Xb, Xc, ↓reduceIte, Nat.reduceLT, Nat.reduceEqDiff, Nat.reduceBEq, Nat.reduceLeDiff, Nat.reduceAdd, Nat.reduceMul]
    refine Settle.dropTo (Le.updB (Le.refl _) (upd_none.2 ⟨n31, upd_none.2 ⟨n32, n33⟩⟩)) ?_
    refine Settle.now ⟨(i + 1, s * l[i]), by dsimp only; omega, ⟨by dsimp only; omega, ?_, ?_⟩, rfl⟩
    · dsimp only
      rw [List.take_add_one, List.getElem?_eq_getElem hi, List.foldl_append, ← h2]; rfl
    · exact (h3.mul hz).mono (by dsimp only; rw [Nat.mul_succ]; omega)
  · simp (disch := first | assumption | (apply Ap.symm; assumption) | omega | decide | (simp only [U_len, List.length_append, List.length_replicate, List.length_cons, List.length_nil, List.length_set] <;> omega) | fail) only [hi, ↓Xa, Xb, Xc, ↓reduceIte, Nat.reduceLT, Nat.reduceEqDiff, Nat.reduceBEq, Nat.reduceLeDiff, Nat.reduceAdd, Nat.reduceMul]
    refine Settle.now ?_
    have e : s = l.foldl (· * ·) 1 := by rw [h2, List.take_of_length_le (by omega)]
    simp (disch := first | assumption | (apply Ap.symm; assumption) | omega | decide | (simp only [U_len, List.length_append, List.length_replicate, List.length_cons, List.length_nil, List.length_set] <;> omega) | fail) only [rs30, ↓Xa, Xb, Xc, ↓reduceIte, Nat.reduceLT, Nat.reduceEqDiff, Nat.reduceBEq, Nat.reduceLeDiff, Nat.reduceAdd, Nat.reduceMul]
    subst e
    exact SetR.dropTo (((Le.refl H).updB hp).updB n2) (SetR.now hq)
end Go.Proofs.Ytipbcjnniamcgaa.Fw
