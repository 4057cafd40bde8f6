/- The reference for limbs: held against each other, added, subtracted. -/
import Derived.Test.YtipbcjnniamcgaaDoorVb
import Derived.Test.YtipbcjnniamcgaaDoorNe
namespace Go.Proofs.YtipbcjnniamcgaaDoor.Fw
set_option linter.unusedSimpArgs false
set_option linter.unusedVariables false
open Go Go.Proofs.YtipbcjnniamcgaaDoor.Ma
set_option maxRecDepth 20000

theorem max_k {a b : Nat} {K : AV → Prop} : maxW true (.int .i64 (a : Int)) (.int .i64 (b : Int)) K ↔ K (.int .i64 ((max a b : Nat) : Int)) := by
  have : (if (a : Int) < (b : Int) then (b : Int) else (a : Int)) = ((max a b : Nat) : Int) := by split <;> omega
  simp only [maxW, true_and, if_true, this]
theorem lcmp_fn {a b : List Nat} (ta tb : Bool) (ha : Lim 4294967296 a) (hb : Lim 4294967296 b) (la : a.length ≤ 1099511627776) (lb : b.length ≤ 1099511627776) : PFn Tryd.prog 56 [LS a ta, LS b tb] (.int .i64 (cmpZ (val 4294967296 a) (val 4294967296 b))) := by
  intro H Q hq
  refine enter56 (by simp) ?_
  simp (disch := first | assumption | (apply Ap.symm; assumption) | omega | decide | (simp only [U_len, List.length_append, List.length_replicate, List.length_cons, List.length_nil, List.length_set] <;> omega) | fail) only [ac56, max_k, ↓Xa, Xb, Xc, ↓reduceIte, Nat.reduceLT, Nat.reduceEqDiff, Nat.reduceBEq, Nat.reduceLeDiff, Nat.reduceAdd, Nat.reduceMul]
  refine W_loop (fun s : Nat => ⟨[], [(0, LS a ta), (1, LS b tb), (5, .int .i64 (dn s))], H⟩) (fun s => s ≤ max a.length b.length ∧ val 4294967296 (a.drop s) = val 4294967296 (b.drop s)) id (max a.length b.length) (Settle.now rfl)
    ⟨Nat.le_refl _, by rw [List.drop_of_length_le (by omega), List.drop_of_length_le (by omega)]⟩ ?_
  rintro s ⟨hs, hd⟩
  cases s with
  | zero =>
    rw [List.drop_zero, List.drop_zero] at hd
    rw [show cmpZ (val 4294967296 a) (val 4294967296 b) = ((0 : Nat) : Int) by unfold cmpZ; rw [if_neg (by omega), if_neg (by omega)]] at hq
    simp (disch := first | assumption | (apply Ap.symm; assumption) | omega | decide | (simp only [U_len, List.length_append, List.length_replicate, List.length_cons, List.length_nil, List.length_set] <;> omega) | fail) only [↓Xa, Xb, Xc, ↓reduceIte, Nat.reduceLT, Nat.reduceEqDiff, Nat.reduceBEq, Nat.reduceLeDiff, Nat.reduceAdd, Nat.reduceMul]
    refine Settle.now ?_
    simp (disch := first | assumption | (apply Ap.symm; assumption) | omega | decide | (simp only [U_len, List.length_append, List.length_replicate, List.length_cons, List.length_nil, List.length_set] <;> omega) | fail) only [rs56, ↓Xa, Xb, Xc, ↓reduceIte, Nat.reduceLT, Nat.reduceEqDiff, Nat.reduceBEq, Nat.reduceLeDiff, Nat.reduceAdd, Nat.reduceMul]
    exact SetR.now hq
  | succ i =>
    have hx := ha.getD (by omega) i
    have hy := hb.getD (by omega) i
    simp (disch := first | assumption | (apply Ap.symm; assumption) | omega | decide | (simp only [U_len, List.length_append, List.length_replicate, List.length_cons, List.length_nil, List.length_set] <;> omega) | fail) only [↓Xa, Xb, Xc, ↓reduceIte, Nat.reduceLT, Nat.reduceEqDiff, Nat.reduceBEq, Nat.reduceLeDiff, Nat.reduceAdd, Nat.reduceMul]
    refine (lat_fn ta (by omega)).call ?_
    simp (disch := first | assumption | (apply Ap.symm; assumption) | omega | decide | (simp only [U_len, List.length_append, List.length_replicate, List.length_cons, List.length_nil, List.length_set] <;> omega) | fail) only [↓Xa, Xb, Xc, ↓reduceIte, Nat.reduceLT, Nat.reduceEqDiff, Nat.reduceBEq, Nat.reduceLeDiff, Nat.reduceAdd, Nat.reduceMul]
    refine (lat_fn tb (by omega)).call ?_
    rcases Nat.lt_trichotomy (a.getD i 0) (b.getD i 0) with h | h | h
    · have := cmp_at (by omega) ha hd h
      rw [show cmpZ (val 4294967296 a) (val 4294967296 b) = -1 by unfold cmpZ; rw [if_pos this]] at hq
      simp (disch := first | assumption | (apply Ap.symm; assumption) | omega | decide | (simp only [U_len, List.length_append, List.length_replicate, List.length_cons, List.length_nil, List.length_set] <;> omega) | fail) only [h, rs56, ↓Xa, Xb, Xc, ↓reduceIte, Nat.reduceLT, Nat.reduceEqDiff, Nat.reduceBEq, Nat.reduceLeDiff, Nat.reduceAdd, Nat.reduceMul]
      exact SetR.now hq
    · have h1 : ¬ a.getD i 0 < b.getD i 0 := by omega
      have h2 : ¬ b.getD i 0 < a.getD i 0 := by omega
      simp (disch := first | assumption | (apply Ap.symm; assumption) | omega | decide | (simp only [U_len, List.length_append, List.length_replicate, List.length_cons, List.length_nil, List.length_set] <;> omega) | fail) only [h1, h2, ↓Xa, Xb, Xc, ↓reduceIte, Nat.reduceLT, Nat.reduceEqDiff, Nat.reduceBEq, Nat.reduceLeDiff, Nat.reduceAdd, Nat.reduceMul]
      refine Settle.now ⟨i, by simp, ⟨by omega, ?_⟩, rfl⟩
      rw [val_dropC a i, val_dropC b i, hd, h]
    · have h1 : ¬ a.getD i 0 < b.getD i 0 := by omega
      have := cmp_at (by omega) hb hd.symm h
      rw [show cmpZ (val 4294967296 a) (val 4294967296 b) = ((1 : Nat) : Int) by unfold cmpZ; rw [if_neg (by omega), if_pos this]] at hq
      simp (disch := first | assumption | (apply Ap.symm; assumption) | omega | decide | (simp only [U_len, List.length_append, List.length_replicate, List.length_cons, List.length_nil, List.length_set] <;> omega) | fail) only [h1, h, rs56, ↓Xa, Xb, Xc, ↓reduceIte, Nat.reduceLT, Nat.reduceEqDiff, Nat.reduceBEq, Nat.reduceLeDiff, Nat.reduceAdd, Nat.reduceMul]
      exact SetR.now hq
theorem ladd_fn {a b : List Nat} (ta tb : Bool) (ha : Lim 4294967296 a) (hb : Lim 4294967296 b) (la : a.length ≤ 274877906944) (lb : b.length ≤ 274877906944) : PFn Tryd.prog 57 [LS a ta, LS b tb] (LS (digs 4294967296 (val 4294967296 a + val 4294967296 b)) false) := by
  intro H Q hq
  refine enter57 (by simp) ?_
  simp (disch := first | assumption | (apply Ap.symm; assumption) | omega | decide | (simp only [U_len, List.length_append, List.length_replicate, List.length_cons, List.length_nil, List.length_set] <;> omega) | fail) only [ac57, ↓Xa, Xb, Xc, ↓reduceIte, Nat.reduceLT, Nat.reduceEqDiff, Nat.reduceBEq, Nat.reduceLeDiff, Nat.reduceAdd, Nat.reduceMul]
  refine W_loop (fun s : Nat × Nat × List Nat × AV × AHeap => ⟨[], [(0, LS a ta), (1, LS b tb), (5, s.2.2.2.1), (6, .int .u64 (s.2.1 : Nat)), (7, .int .i64 (s.1 : Nat))], s.2.2.2.2⟩)
    (fun s => (s.1 ≤ max a.length b.length + 1 ∧ (max a.length b.length < s.1 → s.2.1 = 0)) ∧ SumI a b s.1 s.2.1 s.2.2.1 ∧ grow H 45 s.2.2.1 s.2.2.2.1 s.2.2.2.2) (fun s => 2 * (max a.length b.length - s.1) + s.2.1) (0, 0, [], _, _) (Settle.now rfl) ⟨⟨Nat.zero_le _, fun _ => rfl⟩, SumI.zero a b, grow_nil⟩ ?_
  rintro ⟨i, c, done, x, H'⟩ ⟨⟨hi, hi2⟩, hI, hg⟩
  dsimp only at hi hi2 hI hg ⊢
  have hx := ha.getD (by omega) i
  have hy := hb.getD (by omega) i
  have hc := hI.2.2.1
  have hdl := hI.1
  have beyond : max a.length b.length ≤ i → (c + (a.getD i 0 + b.getD i 0)) / 4294967296 = 0 := fun h => by
    rw [getD_beyond (show a.length ≤ i by omega), getD_beyond (show b.length ≤ i by omega)]; omega
  by_cases hw : i < a.length ∨ i < b.length ∨ 0 < c
  · have himax : i ≤ max a.length b.length := by
      apply Nat.le_of_not_lt; intro h
      have := hi2 h
      omega
    have meas : 2 * (max a.length b.length - (i + 1)) + (c + (a.getD i 0 + b.getD i 0)) / 4294967296 < 2 * (max a.length b.length - i) + c := by
      rcases Nat.lt_or_ge i (max a.length b.length) with h | h
      · omega
      · have := beyond h; omega
    have inv : i + 1 ≤ max a.length b.length + 1 ∧ (max a.length b.length < i + 1 → (c + (a.getD i 0 + b.getD i 0)) / 4294967296 = 0) := ⟨by omega, fun h => beyond (by omega)⟩
    have hdn : done.length + 1 ≤ 17592186044416 := by omega
    by_cases h1 : i < a.length
    · simp (disch := first | assumption | (apply Ap.symm; assumption) | omega | decide | (simp only [U_len, List.length_append, List.length_replicate, List.length_cons, List.length_nil, List.length_set] <;> omega) | fail) only [h1, ↓Xa, Xb, Xc, ↓reduceIte, Nat.reduceLT, Nat.reduceEqDiff, Nat.reduceBEq, Nat.reduceLeDiff, Nat.reduceAdd, Nat.reduceMul]
      refine (lat_fn ta (by omega)).call ?_
      simp (disch := first | assumption | (apply Ap.symm; assumption) | omega | decide | (simp only [U_len, List.length_append, List.length_replicate, List.length_cons, List.length_nil, List.length_set] <;> omega) | fail) only [↓Xa, Xb, Xc, ↓reduceIte, Nat.reduceLT, Nat.reduceEqDiff, Nat.reduceBEq, Nat.reduceLeDiff, Nat.reduceAdd, Nat.reduceMul]
      refine (lat_fn tb (by omega)).call ?_
      simp (disch := first | assumption | (apply Ap.symm; assumption) | omega | decide | (simp only [U_len, List.length_append, List.length_replicate, List.length_cons, List.length_nil, List.length_set] <;> omega) | fail) only [rep1, ne_eq, Nat.reduceEqDiff, ↓Xa, Xb, Xc, ↓reduceIte, Nat.reduceLT, Nat.reduceEqDiff, Nat.reduceBEq, Nat.reduceLeDiff, Nat.reduceAdd, Nat.reduceMul]
      refine app_grow (m := [(c + (a.getD i 0 + b.getD i 0)) % 4294967296]) hg rfl (by simp) (by simp; omega) fun z' H2 hg2 => ?_
      simp (disch := first | assumption | (apply Ap.symm; assumption) | omega | decide | (simp only [U_len, List.length_append, List.length_replicate, List.length_cons, List.length_nil, List.length_set] <;> omega) | fail) only [ne_eq, Nat.reduceEqDiff, ↓Xa, Xb, Xc, ↓reduceIte, Nat.reduceLT, Nat.reduceEqDiff, Nat.reduceBEq, Nat.reduceLeDiff, Nat.reduceAdd, Nat.reduceMul]
      exact Settle.now ⟨(i + 1, _, done ++ [_], _, _), meas, ⟨inv, hI.step ha hb rfl, hg2⟩, rfl⟩
    · by_cases h2 : i < b.length
      · simp (disch := first | assumption | (apply Ap.symm; assumption) | omega | decide | (simp only [U_len, List.length_append, List.length_replicate, List.length_cons, List.length_nil, List.length_set] <;> omega) | fail) only [h1, h2, ↓Xa, Xb, Xc, ↓reduceIte, Nat.reduceLT, Nat.reduceEqDiff, Nat.reduceBEq, Nat.reduceLeDiff, Nat.reduceAdd, Nat.reduceMul]
        refine (lat_fn ta (by omega)).call ?_
        simp (disch := first | assumption | (apply Ap.symm; assumption) | omega | decide | (simp only [U_len, List.length_append, List.length_replicate, List.length_cons, List.length_nil, List.length_set] <;> omega) | fail) only [↓Xa, Xb, Xc, ↓reduceIte, Nat.reduceLT, Nat.reduceEqDiff, Nat.reduceBEq, Nat.reduceLeDiff, Nat.reduceAdd, Nat.reduceMul]
        refine (lat_fn tb (by omega)).call ?_
        simp (disch := first | assumption | (apply Ap.symm; assumption) | omega | decide | (simp only [U_len, List.length_append, List.length_replicate, List.length_cons, List.length_nil, List.length_set] <;> omega) | fail) only [rep1, ne_eq, Nat.reduceEqDiff, ↓Xa, Xb, Xc, ↓reduceIte, Nat.reduceLT, Nat.reduceEqDiff, Nat.reduceBEq, Nat.reduceLeDiff, Nat.reduceAdd, Nat.reduceMul]
        refine app_grow (m := [(c + (a.getD i 0 + b.getD i 0)) % 4294967296]) hg rfl (by simp) (by simp; omega) fun z' H2 hg2 => ?_
        simp (disch := first | assumption | (apply Ap.symm; assumption) | omega | decide | (simp only [U_len, List.length_append, List.length_replicate, List.length_cons, List.length_nil, List.length_set] <;> omega) | fail) only [ne_eq, Nat.reduceEqDiff, ↓Xa, Xb, Xc, ↓reduceIte, Nat.reduceLT, Nat.reduceEqDiff, Nat.reduceBEq, Nat.reduceLeDiff, Nat.reduceAdd, Nat.reduceMul]
        exact Settle.now ⟨(i + 1, _, done ++ [_], _, _), meas, ⟨inv, hI.step ha hb rfl, hg2⟩, rfl⟩
      · have h3 : 0 < c := by omega
        simp (disch := first | assumption | (apply Ap.symm; assumption) | omega | decide | (simp only [U_len, List.length_append, List.length_replicate, List.length_cons, List.length_nil, List.length_set] <;> omega) | fail) only [h1, h2, h3, ↓Xa, Xb, Xc, ↓reduceIte, Nat.reduceLT, Nat.reduceEqDiff, Nat.reduceBEq, Nat.reduceLeDiff, Nat.reduceAdd, Nat.reduceMul]
        refine (lat_fn ta (by omega)).call ?_
        simp (disch := first | assumption | (apply Ap.symm; assumption) | omega | decide | (simp only [U_len, List.length_append, List.length_replicate, List.length_cons, List.length_nil, List.length_set] <;> omega) | fail) only [↓Xa, Xb, Xc, ↓reduceIte, Nat.reduceLT, Nat.reduceEqDiff, Nat.reduceBEq, Nat.reduceLeDiff, Nat.reduceAdd, Nat.reduceMul]
        refine (lat_fn tb (by omega)).call ?_
        simp (disch := first | assumption | (apply Ap.symm; assumption) | omega | decide | (simp only [U_len, List.length_append, List.length_replicate, List.length_cons, List.length_nil, List.length_set] <;> omega) | fail) only [rep1, ne_eq, Nat.reduceEqDiff, ↓Xa, Xb, Xc, ↓reduceIte, Nat.reduceLT, Nat.reduceEqDiff, Nat.reduceBEq, Nat.reduceLeDiff, Nat.reduceAdd, Nat.reduceMul]
        refine app_grow (m := [(c + (a.getD i 0 + b.getD i 0)) % 4294967296]) hg rfl (by simp) (by simp; omega) fun z' H2 hg2 => ?_
        simp (disch := first | assumption | (apply Ap.symm; assumption) | omega | decide | (simp only [U_len, List.length_append, List.length_replicate, List.length_cons, List.length_nil, List.length_set] <;> omega) | fail) only [ne_eq, Nat.reduceEqDiff, ↓Xa, Xb, Xc, ↓reduceIte, Nat.reduceLT, Nat.reduceEqDiff, Nat.reduceBEq, Nat.reduceLeDiff, Nat.reduceAdd, Nat.reduceMul]
        exact Settle.now ⟨(i + 1, _, done ++ [_], _, _), meas, ⟨inv, hI.step ha hb rfl, hg2⟩, rfl⟩
  · have h1 : ¬ i < a.length := by omega
    have h2 : ¬ i < b.length := by omega
    obtain rfl : c = 0 := by omega
    have hv := hI.end (by omega) (by omega)
    simp (disch := first | assumption | (apply Ap.symm; assumption) | omega | decide | (simp only [U_len, List.length_append, List.length_replicate, List.length_cons, List.length_nil, List.length_set] <;> omega) | fail) only [h1, h2, ↓Xa, Xb, Xc, ↓reduceIte, Nat.reduceLT, Nat.reduceEqDiff, Nat.reduceBEq, Nat.reduceLeDiff, Nat.reduceAdd, Nat.reduceMul]
    refine Settle.grown 5 rfl hg (Settle.now ?_)
    simp (disch := first | assumption | (apply Ap.symm; assumption) | omega | decide | (simp only [U_len, List.length_append, List.length_replicate, List.length_cons, List.length_nil, List.length_set] <;> omega) | fail) only [↓Xa, Xb, Xc, ↓reduceIte, Nat.reduceLT, Nat.reduceEqDiff, Nat.reduceBEq, Nat.reduceLeDiff, Nat.reduceAdd, Nat.reduceMul]
    refine (lnorm_fn false (by omega)).call ?_
    rw [tr_digs (by omega) hI.2.1, hv]
    simp (disch := first | assumption | (apply Ap.symm; assumption) | omega | decide | (simp only [U_len, List.length_append, List.length_replicate, List.length_cons, List.length_nil, List.length_set] <;> omega) | fail) only [rs57, ↓Xa, Xb, Xc, ↓reduceIte, Nat.reduceLT, Nat.reduceEqDiff, Nat.reduceBEq, Nat.reduceLeDiff, Nat.reduceAdd, Nat.reduceMul]
    exact SetR.now hq
theorem lsub_fn {a b : List Nat} (ta tb : Bool) (ha : Lim 4294967296 a) (hb : Lim 4294967296 b) (la : a.length ≤ 274877906944) (lb : b.length ≤ 274877906944) (hab : val 4294967296 b ≤ val 4294967296 a) : PFn Tryd.prog 58 [LS a ta, LS b tb] (LS (digs 4294967296 (val 4294967296 a - val 4294967296 b)) false) := by
  intro H Q hq
  refine enter58 (by simp) ?_
  simp (disch := first | assumption | (apply Ap.symm; assumption) | omega | decide | (simp only [U_len, List.length_append, List.length_replicate, List.length_cons, List.length_nil, List.length_set] <;> omega) | fail) only [ac58, ↓Xa, Xb, Xc, ↓reduceIte, Nat.reduceLT, Nat.reduceEqDiff, Nat.reduceBEq, Nat.reduceLeDiff, Nat.reduceAdd, Nat.reduceMul]
  refine W_loop (fun s : Nat × Nat × List Nat × AV × AHeap => ⟨[], [(0, LS a ta), (1, LS b tb), (5, s.2.2.2.1), (6, .int .u64 (s.2.1 : Nat)), (7, .int .i64 (s.1 : Nat))], s.2.2.2.2⟩)
    (fun s => s.1 ≤ a.length ∧ DifI a b s.1 s.2.1 s.2.2.1 ∧ grow H 45 s.2.2.1 s.2.2.2.1 s.2.2.2.2) (fun s => a.length - s.1) (0, 0, [], _, _) (Settle.now rfl) ⟨Nat.zero_le _, DifI.zero a b, grow_nil⟩ ?_
  rintro ⟨i, c, done, x, H'⟩ ⟨hi, hI, hg⟩
  dsimp only at hi hI hg ⊢
  have hx := ha.getD (by omega) i
  have hy := hb.getD (by omega) i
  have hc := hI.2.2.1
  have hdl := hI.1
  by_cases h1 : i < a.length
  · simp (disch := first | assumption | (apply Ap.symm; assumption) | omega | decide | (simp only [U_len, List.length_append, List.length_replicate, List.length_cons, List.length_nil, List.length_set] <;> omega) | fail) only [h1, ↓Xa, Xb, Xc, ↓reduceIte, Nat.reduceLT, Nat.reduceEqDiff, Nat.reduceBEq, Nat.reduceLeDiff, Nat.reduceAdd, Nat.reduceMul]
    refine (lat_fn ta (by omega)).call ?_
    simp (disch := first | assumption | (apply Ap.symm; assumption) | omega | decide | (simp only [U_len, List.length_append, List.length_replicate, List.length_cons, List.length_nil, List.length_set] <;> omega) | fail) only [↓Xa, Xb, Xc, ↓reduceIte, Nat.reduceLT, Nat.reduceEqDiff, Nat.reduceBEq, Nat.reduceLeDiff, Nat.reduceAdd, Nat.reduceMul]
    refine (lat_fn tb (by omega)).call ?_
    by_cases h2 : a.getD i 0 < b.getD i 0 + c
    · have st := hI.step (x := a.getD i 0 + 4294967296 - (b.getD i 0 + c)) (c' := 1) (by omega) (by omega) (by omega)
      simp (disch := first | assumption | (apply Ap.symm; assumption) | omega | decide | (simp only [U_len, List.length_append, List.length_replicate, List.length_cons, List.length_nil, List.length_set] <;> omega) | fail) only [h2, rep1, ↓Xa, Xb, Xc, ↓reduceIte, Nat.reduceLT, Nat.reduceEqDiff, Nat.reduceBEq, Nat.reduceLeDiff, Nat.reduceAdd, Nat.reduceMul]
      refine app_grow (m := [a.getD i 0 + 4294967296 - (b.getD i 0 + c)]) hg rfl (by simp) (by simp; omega) fun z' H2 hg2 => ?_
      simp (disch := first | assumption | (apply Ap.symm; assumption) | omega | decide | (simp only [U_len, List.length_append, List.length_replicate, List.length_cons, List.length_nil, List.length_set] <;> omega) | fail) only [↓Xa, Xb, Xc, ↓reduceIte, Nat.reduceLT, Nat.reduceEqDiff, Nat.reduceBEq, Nat.reduceLeDiff, Nat.reduceAdd, Nat.reduceMul]
      exact Settle.now ⟨(i + 1, 1, done ++ [_], _, _), by dsimp only; omega, ⟨by dsimp only; omega, st, hg2⟩, rfl⟩
    · have st := hI.step (x := a.getD i 0 - (b.getD i 0 + c)) (c' := 0) (by omega) (by omega) (by omega)
      simp (disch := first | assumption | (apply Ap.symm; assumption) | omega | decide | (simp only [U_len, List.length_append, List.length_replicate, List.length_cons, List.length_nil, List.length_set] <;> omega) | fail) only [h2, rep1, ↓Xa, Xb, Xc, ↓reduceIte, Nat.reduceLT, Nat.reduceEqDiff, Nat.reduceBEq, Nat.reduceLeDiff, Nat.reduceAdd, Nat.reduceMul]
      refine app_grow (m := [a.getD i 0 - (b.getD i 0 + c)]) hg rfl (by simp) (by simp; omega) fun z' H2 hg2 => ?_
      simp (disch := first | assumption | (apply Ap.symm; assumption) | omega | decide | (simp only [U_len, List.length_append, List.length_replicate, List.length_cons, List.length_nil, List.length_set] <;> omega) | fail) only [↓Xa, Xb, Xc, ↓reduceIte, Nat.reduceLT, Nat.reduceEqDiff, Nat.reduceBEq, Nat.reduceLeDiff, Nat.reduceAdd, Nat.reduceMul]
      exact Settle.now ⟨(i + 1, 0, done ++ [_], _, _), by dsimp only; omega, ⟨by dsimp only; omega, st, hg2⟩, rfl⟩
  · obtain rfl : i = a.length := by omega
    have hv := hI.end ha hab
    simp (disch := first | assumption | (apply Ap.symm; assumption) | omega | decide | (simp only [U_len, List.length_append, List.length_replicate, List.length_cons, List.length_nil, List.length_set] <;> omega) | fail) only [h1, ↓Xa, Xb, Xc, ↓reduceIte, Nat.reduceLT, Nat.reduceEqDiff, Nat.reduceBEq, Nat.reduceLeDiff, Nat.reduceAdd, Nat.reduceMul]
    refine Settle.grown 5 rfl hg (Settle.now ?_)
    simp (disch := first | assumption | (apply Ap.symm; assumption) | omega | decide | (simp only [U_len, List.length_append, List.length_replicate, List.length_cons, List.length_nil, List.length_set] <;> omega) | fail) only [↓Xa, Xb, Xc, ↓reduceIte, Nat.reduceLT, Nat.reduceEqDiff, Nat.reduceBEq, Nat.reduceLeDiff, Nat.reduceAdd, Nat.reduceMul]
    refine (lnorm_fn false (by omega)).call ?_
    rw [tr_digs (by omega) hI.2.1, hv]
    simp (disch := first | assumption | (apply Ap.symm; assumption) | omega | decide | (simp only [U_len, List.length_append, List.length_replicate, List.length_cons, List.length_nil, List.length_set] <;> omega) | fail) only [rs58, ↓Xa, Xb, Xc, ↓reduceIte, Nat.reduceLT, Nat.reduceEqDiff, Nat.reduceBEq, Nat.reduceLeDiff, Nat.reduceAdd, Nat.reduceMul]
    exact SetR.now hq
end Go.Proofs.YtipbcjnniamcgaaDoor.Fw
