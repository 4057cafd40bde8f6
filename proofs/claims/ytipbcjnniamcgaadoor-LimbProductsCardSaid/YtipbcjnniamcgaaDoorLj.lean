/- What package limb computes: sums, differences, products, quotients by one limb. -/
import Derived.Test.YtipbcjnniamcgaaDoorLi
import Derived.Test.YtipbcjnniamcgaaDoorNa
namespace Go.Proofs.YtipbcjnniamcgaaDoor.Fw
set_option linter.unusedSimpArgs false
set_option linter.unusedVariables false
open Go Go.Proofs.YtipbcjnniamcgaaDoor.Ma
set_option maxRecDepth 20000

theorem add_tail {a b : List Nat} {ta tb : Bool} {H : AHeap} {Q : AV → AHeap → Prop} (hab : b.length ≤ a.length) (ha : Lim 4294967296 a) (hb : Lim 4294967296 b) (hl : a.length ≤ 1099511627776)
    (hq : Q (LS (digs 4294967296 (val 4294967296 a + val 4294967296 b)) true) H) : W Tryd.prog (hold (sndC (sndC ac38))) (retN rs38 Q) ⟨[], [(0, LS a ta), (1, LS b tb)], H⟩ := by
  simp (disch := first | assumption | (apply Ap.symm; assumption) | omega | decide | (simp only [U_len, List.length_append, List.length_replicate, List.length_cons, List.length_nil, List.length_set] <;> omega) | fail) only [ac38, hold, sndC, ↓Xa, Xb, Xc, ↓reduceIte, Nat.reduceLT, Nat.reduceEqDiff, Nat.reduceBEq, Nat.reduceLeDiff, Nat.reduceAdd, Nat.reduceMul]
  refine newU_i fun o ho => ?_
  simp (disch := first | assumption | (apply Ap.symm; assumption) | omega | decide | (simp only [U_len, List.length_append, List.length_replicate, List.length_cons, List.length_nil, List.length_set] <;> omega) | fail) only [↓Xa, Xb, Xc, ↓reduceIte, Nat.reduceLT, Nat.reduceEqDiff, Nat.reduceBEq, Nat.reduceLeDiff, Nat.reduceAdd, Nat.reduceMul]
  refine W_loop (fun p : Nat × Nat × List Nat => ⟨[], [(0, LS a ta), (1, LS b tb), (5, .own o (a.length + 1) 0 (a.length + 1) true), (6, .int .u64 p.2.1), (20, LS a ta), (21, .int .i64 a.length), (22, .int .i64 p.1)],
      H.upd o (some (.row 45 1 (U (p.2.2 ++ List.replicate (a.length + 1 - p.1) 0))))⟩)
    (fun p => p.1 ≤ a.length ∧ AddI a b p.1 p.2.1 p.2.2) (fun p => a.length - p.1) (0, 0, []) (Settle.now rfl) ⟨by simp, AddI.zero a b⟩ ?_
  rintro ⟨i, c, done⟩ ⟨h1, h2⟩
  dsimp only at h1 h2 ⊢
  have hdl := h2.1
  have hc := h2.2.2.1
  by_cases hi : i < a.length
  · have hx := ha.getD (by omega) i
    have hy := hb.getD (by omega) i
    by_cases hj : i < b.length
    · simp (disch := first | assumption | (apply Ap.symm; assumption) | omega | decide | (simp only [U_len, List.length_append, List.length_replicate, List.length_cons, List.length_nil, List.length_set] <;> omega) | fail) only [hi, hj, ↓Xa, Xb, Xc, ↓reduceIte, Nat.reduceLT, Nat.reduceEqDiff, Nat.reduceBEq, Nat.reduceLeDiff, Nat.reduceAdd, Nat.reduceMul]
      refine Settle.now ⟨(i + 1, _, done ++ [_]), by dsimp only; omega, ⟨by dsimp only; omega, h2.step ha hb rfl⟩, ?_⟩
      rw [set_zeros' _ _ _ _ hdl (by omega)]
    · simp (disch := first | assumption | (apply Ap.symm; assumption) | omega | decide | (simp only [U_len, List.length_append, List.length_replicate, List.length_cons, List.length_nil, List.length_set] <;> omega) | fail) only [hi, hj, ↓Xa, Xb, Xc, ↓reduceIte, Nat.reduceLT, Nat.reduceEqDiff, Nat.reduceBEq, Nat.reduceLeDiff, Nat.reduceAdd, Nat.reduceMul]
      have := getD_beyond (show b.length ≤ i by omega)
      refine Settle.now ⟨(i + 1, _, done ++ [_]), by dsimp only; omega, ⟨by dsimp only; omega, h2.step ha hb (s := c + a.getD i 0) (by omega)⟩, ?_⟩
      rw [set_zeros' _ _ _ _ hdl (by omega)]
  · obtain rfl : i = a.length := by omega
    simp (disch := first | assumption | (apply Ap.symm; assumption) | omega | decide | (simp only [U_len, List.length_append, List.length_replicate, List.length_cons, List.length_nil, List.length_set] <;> omega) | fail) only [hi, ↓Xa, Xb, Xc, ↓reduceIte, Nat.reduceLT, Nat.reduceEqDiff, Nat.reduceBEq, Nat.reduceLeDiff, Nat.reduceAdd, Nat.reduceMul]
    refine Settle.now ?_
    simp (disch := first | assumption | (apply Ap.symm; assumption) | omega | decide | (simp only [U_len, List.length_append, List.length_replicate, List.length_cons, List.length_nil, List.length_set] <;> omega) | fail) only [↓Xa, Xb, Xc, ↓reduceIte, Nat.reduceLT, Nat.reduceEqDiff, Nat.reduceBEq, Nat.reduceLeDiff, Nat.reduceAdd, Nat.reduceMul]
    rw [set_zeros _ _ _ _ hdl (by omega), show a.length + 1 - a.length - 1 = 0 by omega, List.replicate_zero, List.append_nil]
    refine trim_call (upd_same _ _ _) (by simp [hdl]) ?_
    simp (disch := first | assumption | (apply Ap.symm; assumption) | omega | decide | (simp only [U_len, List.length_append, List.length_replicate, List.length_cons, List.length_nil, List.length_set] <;> omega) | fail) only [rs38, ↓Xa, Xb, Xc, ↓reduceIte, Nat.reduceLT, Nat.reduceEqDiff, Nat.reduceBEq, Nat.reduceLeDiff, Nat.reduceAdd, Nat.reduceMul]
    exact fin_tr ho (by simp [hdl]) (by rw [h2.end hab]; exact hq)

theorem add_fn {a b : List Nat} (ta tb : Bool) (ha : Lim 4294967296 a) (hb : Lim 4294967296 b) (hla : a.length ≤ 1099511627776) (hlb : b.length ≤ 1099511627776) : PFn Tryd.prog 38 [LS a ta, LS b tb] (LS (digs 4294967296 (val 4294967296 a + val 4294967296 b)) true) := by
  intro H Q hq
  refine enter38 (by simp) ?_
  rw [show ac38 = .seq (fstC ac38) (.seq (fstC (sndC ac38)) (hold (sndC (sndC ac38)))) from rfl]
  by_cases c : a.length < b.length
  · simp (disch := first | assumption | (apply Ap.symm; assumption) | omega | decide | (simp only [U_len, List.length_append, List.length_replicate, List.length_cons, List.length_nil, List.length_set] <;> omega) | fail) only [c, fstC, sndC, ac38, ↓Xa, Xb, Xc, ↓reduceIte, Nat.reduceLT, Nat.reduceEqDiff, Nat.reduceBEq, Nat.reduceLeDiff, Nat.reduceAdd, Nat.reduceMul]
    exact add_tail (by omega) hb ha hlb (by rw [Nat.add_comm]; exact hq)
  · simp (disch := first | assumption | (apply Ap.symm; assumption) | omega | decide | (simp only [U_len, List.length_append, List.length_replicate, List.length_cons, List.length_nil, List.length_set] <;> omega) | fail) only [c, fstC, sndC, ac38, ↓Xa, Xb, Xc, ↓reduceIte, Nat.reduceLT, Nat.reduceEqDiff, Nat.reduceBEq, Nat.reduceLeDiff, Nat.reduceAdd, Nat.reduceMul]
    exact add_tail (by omega) ha hb hla hq

theorem sub_fn {a b : List Nat} (ta tb : Bool) (ha : Lim 4294967296 a) (hb : Lim 4294967296 b) (hab : val 4294967296 b ≤ val 4294967296 a) (hl : a.length ≤ 1099511627776) (hlb : b.length ≤ 1099511627776) :
    PFn Tryd.prog 50 [LS a ta, LS b tb] (.tup [LS (digs 4294967296 (val 4294967296 a - val 4294967296 b)) true, .int .i64 ((0 : Nat) : Int)]) := by
  intro H Q hq
  refine enter50 (by simp) ?_
  simp (disch := first | assumption | (apply Ap.symm; assumption) | omega | decide | (simp only [U_len, List.length_append, List.length_replicate, List.length_cons, List.length_nil, List.length_set] <;> omega) | fail) only [ac50, ↓Xa, Xb, Xc, ↓reduceIte, Nat.reduceLT, Nat.reduceEqDiff, Nat.reduceBEq, Nat.reduceLeDiff, Nat.reduceAdd, Nat.reduceMul]
  refine (cmp_fn ta tb ha hb).call ?_
  have hc : ∃ n : Nat, cmpZ (val 4294967296 a) (val 4294967296 b) = (n : Int) := by
    by_cases e : val 4294967296 b < val 4294967296 a
    · exact ⟨1, by simp [cmpZ, e, Nat.not_lt_of_lt e]⟩
    · exact ⟨0, by simp [cmpZ, show val 4294967296 a = val 4294967296 b by omega]⟩
  obtain ⟨n, hc⟩ := hc
  simp (disch := first | assumption | (apply Ap.symm; assumption) | omega | decide | (simp only [U_len, List.length_append, List.length_replicate, List.length_cons, List.length_nil, List.length_set] <;> omega) | fail) only [hc, ↓Xa, Xb, Xc, ↓reduceIte, Nat.reduceLT, Nat.reduceEqDiff, Nat.reduceBEq, Nat.reduceLeDiff, Nat.reduceAdd, Nat.reduceMul]
  refine newU_i fun o ho => ?_
  simp (disch := first | assumption | (apply Ap.symm; assumption) | omega | decide | (simp only [U_len, List.length_append, List.length_replicate, List.length_cons, List.length_nil, List.length_set] <;> omega) | fail) only [↓Xa, Xb, Xc, ↓reduceIte, Nat.reduceLT, Nat.reduceEqDiff, Nat.reduceBEq, Nat.reduceLeDiff, Nat.reduceAdd, Nat.reduceMul]
  refine W_loop (fun p : Nat × Nat × List Nat => ⟨[], [(1, LS b tb), (6, .own o a.length 0 a.length true), (7, .int .u64 p.2.1), (19, LS a ta), (20, .int .i64 a.length), (21, .int .i64 p.1)],
      H.upd o (some (.row 45 1 (U (p.2.2 ++ List.replicate (a.length - p.1) 0))))⟩)
    (fun p => p.1 ≤ a.length ∧ SubI a b p.1 p.2.1 p.2.2) (fun p => a.length - p.1) (0, 0, []) (Settle.now rfl) ⟨by simp, SubI.zero a b⟩ ?_
  rintro ⟨i, c, done⟩ ⟨h1, h2⟩
  dsimp only at h1 h2 ⊢
  have hdl := h2.1
  have hc := h2.2.2.1
  by_cases hi : i < a.length
  · have hx := ha.getD (by omega) i
    have hy := hb.getD (by omega) i
    by_cases hj : i < b.length
    · simp (disch := first | assumption | (apply Ap.symm; assumption) | omega | decide | (simp only [U_len, List.length_append, List.length_replicate, List.length_cons, List.length_nil, List.length_set] <;> omega) | fail) only [hi, hj, ↓Xa, Xb, Xc, ↓reduceIte, Nat.reduceLT, Nat.reduceEqDiff, Nat.reduceBEq, Nat.reduceLeDiff, Nat.reduceAdd, Nat.reduceMul]
      refine Settle.now ⟨(i + 1, _, done ++ [_]), by dsimp only; omega, ⟨by dsimp only; omega, h2.step ha hb rfl rfl⟩, ?_⟩
      rw [set_zeros' _ _ _ _ hdl (by omega)]
    · simp (disch := first | assumption | (apply Ap.symm; assumption) | omega | decide | (simp only [U_len, List.length_append, List.length_replicate, List.length_cons, List.length_nil, List.length_set] <;> omega) | fail) only [hi, hj, ↓Xa, Xb, Xc, ↓reduceIte, Nat.reduceLT, Nat.reduceEqDiff, Nat.reduceBEq, Nat.reduceLeDiff, Nat.reduceAdd, Nat.reduceMul]
      have := getD_beyond (show b.length ≤ i by omega)
      refine Settle.now ⟨(i + 1, _, done ++ [_]), by dsimp only; omega, ⟨by dsimp only; omega, h2.step ha hb (y := c) (by omega) rfl⟩, ?_⟩
      rw [set_zeros' _ _ _ _ hdl (by omega)]
  · obtain rfl : i = a.length := by omega
    simp (disch := first | assumption | (apply Ap.symm; assumption) | omega | decide | (simp only [U_len, List.length_append, List.length_replicate, List.length_cons, List.length_nil, List.length_set] <;> omega) | fail) only [hi, ↓Xa, Xb, Xc, ↓reduceIte, Nat.reduceLT, Nat.reduceEqDiff, Nat.reduceBEq, Nat.reduceLeDiff, Nat.reduceAdd, Nat.reduceMul]
    refine Settle.now ?_
    simp (disch := first | assumption | (apply Ap.symm; assumption) | omega | decide | (simp only [U_len, List.length_append, List.length_replicate, List.length_cons, List.length_nil, List.length_set] <;> omega) | fail) only [Nat.sub_self, List.replicate_zero, ↓Xa, Xb, Xc, ↓reduceIte, Nat.reduceLT, Nat.reduceEqDiff, Nat.reduceBEq, Nat.reduceLeDiff, Nat.reduceAdd, Nat.reduceMul]
    refine trim_call (upd_same _ _ _) hdl ?_
    simp (disch := first | assumption | (apply Ap.symm; assumption) | omega | decide | (simp only [U_len, List.length_append, List.length_replicate, List.length_cons, List.length_nil, List.length_set] <;> omega) | fail) only [rs50, ↓Xa, Xb, Xc, ↓reduceIte, Nat.reduceLT, Nat.reduceEqDiff, Nat.reduceBEq, Nat.reduceLeDiff, Nat.reduceAdd, Nat.reduceMul]
    exact fin_tr2 ho hdl (by rw [h2.end ha hab]; exact hq)

theorem mul_fn {a b : List Nat} (ta tb : Bool) (ha : Lim 4294967296 a) (hb : Lim 4294967296 b) (hla : a.length ≤ 1099511627776) (hlb : b.length ≤ 1099511627776) :
    PFn Tryd.prog 39 [LS a ta, LS b tb] (LS (digs 4294967296 (val 4294967296 a * val 4294967296 b)) true) := by
  intro H Q hq
  refine enter39 (by simp) ?_
  simp (disch := first | assumption | (apply Ap.symm; assumption) | omega | decide | (simp only [U_len, List.length_append, List.length_replicate, List.length_cons, List.length_nil, List.length_set] <;> omega) | fail) only [ac39, ↓Xa, Xb, Xc, ↓reduceIte, Nat.reduceLT, Nat.reduceEqDiff, Nat.reduceBEq, Nat.reduceLeDiff, Nat.reduceAdd, Nat.reduceMul]
  refine newU_i fun o ho => ?_
  simp (disch := first | assumption | (apply Ap.symm; assumption) | omega | decide | (simp only [U_len, List.length_append, List.length_replicate, List.length_cons, List.length_nil, List.length_set] <;> omega) | fail) only [↓Xa, Xb, Xc, ↓reduceIte, Nat.reduceLT, Nat.reduceEqDiff, Nat.reduceBEq, Nat.reduceLeDiff, Nat.reduceAdd, Nat.reduceMul]
  refine W_loop (fun p : Nat × List Nat => ⟨[], [(1, LS b tb), (5, .own o (a.length + b.length) 0 (a.length + b.length) true), (17, LS a ta), (18, .int .i64 a.length), (19, .int .i64 p.1)],
      H.upd o (some (.row 45 1 (U p.2)))⟩)
    (fun p => p.1 ≤ a.length ∧ MulI a b p.1 p.2) (fun p => a.length - p.1) (0, List.replicate (a.length + b.length) 0) (Settle.now rfl) ⟨by simp, MulI.zero a b⟩ ?_
  rintro ⟨i, out⟩ ⟨h1, h2⟩
  dsimp only at h1 h2 ⊢
  have hol := h2.1
  by_cases hi : i < a.length
  · simp (disch := first | assumption | (apply Ap.symm; assumption) | omega | decide | (simp only [U_len, List.length_append, List.length_replicate, List.length_cons, List.length_nil, List.length_set] <;> omega) | fail) only [hi, ↓Xa, Xb, Xc, ↓reduceIte, Nat.reduceLT, Nat.reduceEqDiff, Nat.reduceBEq, Nat.reduceLeDiff, Nat.reduceAdd, Nat.reduceMul]
    refine W_loop (fun p : Nat × Nat × List Nat => ⟨[], [(1, LS b tb), (5, .own o (a.length + b.length) 0 (a.length + b.length) true), (6, .int .i64 i), (7, .int .u32 (a.getD i 0 : Nat)), (8, .int .u64 p.2.1), (17, LS a ta), (18, .int .i64 a.length), (19, .int .i64 i), (24, LS b tb), (25, .int .i64 b.length), (26, .int .i64 p.1)],
      H.upd o (some (.row 45 1 (U p.2.2)))⟩)
      (fun p => p.1 ≤ b.length ∧ MulK a b i p.1 p.2.1 p.2.2) (fun p => b.length - p.1) (0, 0, out) (Settle.now rfl) ⟨by simp, MulK.start h2⟩ ?_
    rintro ⟨k, c, out⟩ ⟨g1, g2⟩
    dsimp only at g1 g2 ⊢
    have gol := g2.1
    have gc := g2.2.2.1
    have hx := ha.getD (by omega) i
    by_cases hk : k < b.length
    · have hy := hb.getD (by omega) k
      have ho := g2.2.1.getD (by omega) (i + k)
      have hm : a.getD i 0 * b.getD k 0 ≤ 4294967295 * 4294967295 := Nat.mul_le_mul (by omega) (by omega)
      simp (disch := first | assumption | (apply Ap.symm; assumption) | omega | decide | (simp only [U_len, List.length_append, List.length_replicate, List.length_cons, List.length_nil, List.length_set] <;> omega) | fail) only [hk, ↓Xa, Xb, Xc, ↓reduceIte, Nat.reduceLT, Nat.reduceEqDiff, Nat.reduceBEq, Nat.reduceLeDiff, Nat.reduceAdd, Nat.reduceMul]
      refine Settle.now ⟨(k + 1, _, _), by dsimp only; omega, ⟨by dsimp only; omega, g2.step hi hk ha hb rfl⟩, rfl⟩
    · obtain rfl : k = b.length := by omega
      simp (disch := first | assumption | (apply Ap.symm; assumption) | omega | decide | (simp only [U_len, List.length_append, List.length_replicate, List.length_cons, List.length_nil, List.length_set] <;> omega) | fail) only [hk, ↓Xa, Xb, Xc, ↓reduceIte, Nat.reduceLT, Nat.reduceEqDiff, Nat.reduceBEq, Nat.reduceLeDiff, Nat.reduceAdd, Nat.reduceMul]
      refine Settle.now ?_
      simp (disch := first | assumption | (apply Ap.symm; assumption) | omega | decide | (simp only [U_len, List.length_append, List.length_replicate, List.length_cons, List.length_nil, List.length_set] <;> omega) | fail) only [↓Xa, Xb, Xc, ↓reduceIte, Nat.reduceLT, Nat.reduceEqDiff, Nat.reduceBEq, Nat.reduceLeDiff, Nat.reduceAdd, Nat.reduceMul]
      refine Settle.now ⟨(i + 1, _), by dsimp only; omega, ⟨by dsimp only; omega, g2.end hi⟩, rfl⟩
  · obtain rfl : i = a.length := by omega
    simp (disch := first | assumption | (apply Ap.symm; assumption) | omega | decide | (simp only [U_len, List.length_append, List.length_replicate, List.length_cons, List.length_nil, List.length_set] <;> omega) | fail) only [hi, ↓Xa, Xb, Xc, ↓reduceIte, Nat.reduceLT, Nat.reduceEqDiff, Nat.reduceBEq, Nat.reduceLeDiff, Nat.reduceAdd, Nat.reduceMul]
    refine Settle.now ?_
    simp (disch := first | assumption | (apply Ap.symm; assumption) | omega | decide | (simp only [U_len, List.length_append, List.length_replicate, List.length_cons, List.length_nil, List.length_set] <;> omega) | fail) only [↓Xa, Xb, Xc, ↓reduceIte, Nat.reduceLT, Nat.reduceEqDiff, Nat.reduceBEq, Nat.reduceLeDiff, Nat.reduceAdd, Nat.reduceMul]
    refine trim_call (upd_same _ _ _) hol ?_
    simp (disch := first | assumption | (apply Ap.symm; assumption) | omega | decide | (simp only [U_len, List.length_append, List.length_replicate, List.length_cons, List.length_nil, List.length_set] <;> omega) | fail) only [rs39, ↓Xa, Xb, Xc, ↓reduceIte, Nat.reduceLT, Nat.reduceEqDiff, Nat.reduceBEq, Nat.reduceLeDiff, Nat.reduceAdd, Nat.reduceMul]
    exact fin_tr ho hol (by rw [h2.end]; exact hq)

theorem divsmall_fn {a : List Nat} {d : Nat} (ta : Bool) (ha : Lim 4294967296 a) (hd : 0 < d) (hd' : d < 4294967296) (hla : a.length ≤ 1099511627776) :
    PFn Tryd.prog 40 [LS a ta, .int .u32 (d : Nat)] (.tup [LS (digs 4294967296 (val 4294967296 a / d)) true, .int .u32 ((val 4294967296 a % d : Nat) : Int), .int .i64 ((0 : Nat) : Int)]) := by
  intro H Q hq
  refine enter40 (by simp) ?_
  have hne : (d = 0) = False := by simp; omega
  simp (disch := first | assumption | (apply Ap.symm; assumption) | omega | decide | (simp only [U_len, List.length_append, List.length_replicate, List.length_cons, List.length_nil, List.length_set] <;> omega) | fail) only [ac40, hne, ↓Xa, Xb, Xc, ↓reduceIte, Nat.reduceLT, Nat.reduceEqDiff, Nat.reduceBEq, Nat.reduceLeDiff, Nat.reduceAdd, Nat.reduceMul]
  refine newU_i fun o ho => ?_
  simp (disch := first | assumption | (apply Ap.symm; assumption) | omega | decide | (simp only [U_len, List.length_append, List.length_replicate, List.length_cons, List.length_nil, List.length_set] <;> omega) | fail) only [↓Xa, Xb, Xc, ↓reduceIte, Nat.reduceLT, Nat.reduceEqDiff, Nat.reduceBEq, Nat.reduceLeDiff, Nat.reduceAdd, Nat.reduceMul]
  refine W_loop (fun p : Nat × Nat × List Nat => ⟨[], [(0, LS a ta), (1, .int .u32 (d : Nat)), (7, .own o a.length 0 a.length true), (8, .int .u64 p.2.1), (9, .int .i64 (dn p.1))],
      H.upd o (some (.row 45 1 (U p.2.2)))⟩)
    (fun p => p.1 ≤ a.length ∧ DivI a d p.1 p.2.1 p.2.2) (fun p => p.1) (a.length, 0, List.replicate a.length 0) (Settle.now rfl) ⟨by simp, DivI.zero a hd⟩ ?_
  rintro ⟨k, r, out⟩ ⟨h1, h2⟩
  dsimp only at h1 h2 ⊢
  have hol := h2.1
  have hr := h2.2.2.1
  cases k with
  | zero =>
    simp (disch := first | assumption | (apply Ap.symm; assumption) | omega | decide | (simp only [U_len, List.length_append, List.length_replicate, List.length_cons, List.length_nil, List.length_set] <;> omega) | fail) only [↓Xa, Xb, Xc, ↓reduceIte, Nat.reduceLT, Nat.reduceEqDiff, Nat.reduceBEq, Nat.reduceLeDiff, Nat.reduceAdd, Nat.reduceMul]
    refine Settle.now ?_
    simp (disch := first | assumption | (apply Ap.symm; assumption) | omega | decide | (simp only [U_len, List.length_append, List.length_replicate, List.length_cons, List.length_nil, List.length_set] <;> omega) | fail) only [↓Xa, Xb, Xc, ↓reduceIte, Nat.reduceLT, Nat.reduceEqDiff, Nat.reduceBEq, Nat.reduceLeDiff, Nat.reduceAdd, Nat.reduceMul]
    refine trim_call (upd_same _ _ _) hol ?_
    simp (disch := first | assumption | (apply Ap.symm; assumption) | omega | decide | (simp only [U_len, List.length_append, List.length_replicate, List.length_cons, List.length_nil, List.length_set] <;> omega) | fail) only [rs40, ↓Xa, Xb, Xc, ↓reduceIte, Nat.reduceLT, Nat.reduceEqDiff, Nat.reduceBEq, Nat.reduceLeDiff, Nat.reduceAdd, Nat.reduceMul]
    rw [h2.end.2]
    exact fin_tr3 ho hol (by rw [h2.end.1]; exact hq)
  | succ k =>
    have hx := ha.getD (by omega) k
    have hs : r * 2 ^ 32 + a.getD k 0 < 18446744073709551616 := by omega
    have hq : (r * 2 ^ 32 + a.getD k 0) / d < 18446744073709551616 := Nat.lt_of_le_of_lt (Nat.div_le_self _ _) hs
    simp (disch := first | assumption | (apply Ap.symm; assumption) | omega | decide | (simp only [U_len, List.length_append, List.length_replicate, List.length_cons, List.length_nil, List.length_set] <;> omega) | fail) only [hne, ne_eq, ↓Xa, Xb, Xc, ↓reduceIte, Nat.reduceLT, Nat.reduceEqDiff, Nat.reduceBEq, Nat.reduceLeDiff, Nat.reduceAdd, Nat.reduceMul]
    refine Settle.now ⟨(k, _, _), by dsimp only; omega, ⟨by dsimp only; omega, h2.step (by omega) ha hd' rfl⟩, rfl⟩
end Go.Proofs.YtipbcjnniamcgaaDoor.Fw
