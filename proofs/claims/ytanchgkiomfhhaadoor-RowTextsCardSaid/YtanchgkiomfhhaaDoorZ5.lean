/- The texts Lj Sd Lb Lk Ll Lm Se Sf Sh Nd Tb Ya In Yb Re Rf Rg Ri Rj Rk Rl Rm Rn Ro Io Rp Rq Rr Rs Yc Yd Ye Ym Kc, joined. -/
import Derived.Test.YtanchgkiomfhhaaDoorZ4
/- What package limb computes: sums, differences, products, quotients by one limb. -/
namespace Go.Proofs.YtanchgkiomfhhaaDoor.Fw
set_option linter.unusedSimpArgs false
set_option linter.unusedVariables false
open Go Go.Proofs.YtanchgkiomfhhaaDoor.Ma
set_option maxRecDepth 20000

theorem add_tail {a b : List Nat} {ta tb : Bool} {H : AHeap} {Q : AV → AHeap → Prop} (hab : b.length ≤ a.length) (ha : Lim 4294967296 a) (hb : Lim 4294967296 b) (hl : a.length ≤ 1099511627776)
    (hq : Q (LS (digs 4294967296 (val 4294967296 a + val 4294967296 b)) true) H) : W Tryd.prog (hold (sndC (sndC ac186))) (retN rs186 Q) ⟨[], [(0, LS a ta), (1, LS b tb)], H⟩ := by
  simp (disch := first | assumption | (apply Ap.symm; assumption) | omega | decide | (simp only [Xd] <;> omega)) only [ac186, hold, sndC, ↓Xa, Xb, Xc, ↓reduceIte, Nat.reduceLT, Nat.reduceEqDiff, Nat.reduceBEq, Nat.reduceLeDiff, Nat.reduceAdd, Nat.reduceMul]
  refine newU_i fun o ho => ?_
  simp (disch := first | assumption | (apply Ap.symm; assumption) | omega | decide | (simp only [Xd] <;> omega)) only [↓Xa, Xb, Xc, ↓reduceIte, Nat.reduceLT, Nat.reduceEqDiff, Nat.reduceBEq, Nat.reduceLeDiff, Nat.reduceAdd, Nat.reduceMul]
  refine W_loop (fun p : Nat × Nat × List Nat => ⟨[], [(0, LS a ta), (1, LS b tb), (5, .own o (a.length + 1) 0 (a.length + 1) true), (6, .int .u64 p.2.1), (20, LS a ta), (21, .int .i64 a.length), (22, .int .i64 p.1)],
      H.upd o (some (.row 172 1 (U (p.2.2 ++ List.replicate (a.length + 1 - p.1) 0))))⟩)
    (fun p => p.1 ≤ a.length ∧ AddI a b p.1 p.2.1 p.2.2) (fun p => a.length - p.1) (0, 0, []) (Settle.now rfl) ⟨by simp, AddI.zero a b⟩ ?_
  rintro ⟨i, c, done⟩ ⟨h1, h2⟩
  dsimp only at h1 h2 ⊢
  have hdl := h2.1
  have hc := h2.2.2.1
  by_cases hi : i < a.length
  · have hx := ha.getD (by omega) i
    have hy := hb.getD (by omega) i
    by_cases hj : i < b.length
    · simp (disch := first | assumption | (apply Ap.symm; assumption) | omega | decide | (simp only [Xd] <;> omega)) only [hi, hj, ↓Xa, Xb, Xc, ↓reduceIte, Nat.reduceLT, Nat.reduceEqDiff, Nat.reduceBEq, Nat.reduceLeDiff, Nat.reduceAdd, Nat.reduceMul]
      refine Settle.now ⟨(i + 1, _, done ++ [_]), by dsimp only; omega, ⟨by dsimp only; omega, h2.step ha hb rfl⟩, ?_⟩
      rw [set_zeros' _ _ _ _ hdl (by omega)]
    · simp (disch := first | assumption | (apply Ap.symm; assumption) | omega | decide | (simp only [Xd] <;> omega)) only [hi, hj, ↓Xa, Xb, Xc, ↓reduceIte, Nat.reduceLT, Nat.reduceEqDiff, Nat.reduceBEq, Nat.reduceLeDiff, Nat.reduceAdd, Nat.reduceMul]
      have := getD_beyond (show b.length ≤ i by omega)
      refine Settle.now ⟨(i + 1, _, done ++ [_]), by dsimp only; omega, ⟨by dsimp only; omega, h2.step ha hb (s := c + a.getD i 0) (by omega)⟩, ?_⟩
      rw [set_zeros' _ _ _ _ hdl (by omega)]
  · obtain rfl : i = a.length := by omega
    simp (disch := first | assumption | (apply Ap.symm; assumption) | omega | decide | (simp only [Xd] <;> omega)) only [hi, ↓Xa, Xb, Xc, ↓reduceIte, Nat.reduceLT, Nat.reduceEqDiff, Nat.reduceBEq, Nat.reduceLeDiff, Nat.reduceAdd, Nat.reduceMul]
    refine Settle.now ?_
    simp (disch := first | assumption | (apply Ap.symm; assumption) | omega | decide | (simp only [Xd] <;> omega)) only [↓Xa, Xb, Xc, ↓reduceIte, Nat.reduceLT, Nat.reduceEqDiff, Nat.reduceBEq, Nat.reduceLeDiff, Nat.reduceAdd, Nat.reduceMul]
    rw [set_zeros _ _ _ _ hdl (by omega), show a.length + 1 - a.length - 1 = 0 by omega, List.replicate_zero, List.append_nil]
    refine trim_call (upd_same _ _ _) (by simp [hdl]) ?_
    simp (disch := first | assumption | (apply Ap.symm; assumption) | omega | decide | (simp only [Xd] <;> omega)) only [rs186, ↓Xa, Xb, Xc, ↓reduceIte, Nat.reduceLT, Nat.reduceEqDiff, Nat.reduceBEq, Nat.reduceLeDiff, Nat.reduceAdd, Nat.reduceMul]
    exact fin_tr ho (by simp [hdl]) (by rw [h2.end hab]; exact hq)

theorem add_fn {a b : List Nat} (ta tb : Bool) (ha : Lim 4294967296 a) (hb : Lim 4294967296 b) (hla : a.length ≤ 1099511627776) (hlb : b.length ≤ 1099511627776) : PFn Tryd.prog 186 [LS a ta, LS b tb] (LS (digs 4294967296 (val 4294967296 a + val 4294967296 b)) true) := by
  intro H Q hq
  refine enter186 (by simp) ?_
  rw [show ac186 = .seq (fstC ac186) (.seq (fstC (sndC ac186)) (hold (sndC (sndC ac186)))) from rfl]
  by_cases c : a.length < b.length
  · simp (disch := first | assumption | (apply Ap.symm; assumption) | omega | decide | (simp only [Xd] <;> omega)) only [c, fstC, sndC, ac186, ↓Xa, Xb, Xc, ↓reduceIte, Nat.reduceLT, Nat.reduceEqDiff, Nat.reduceBEq, Nat.reduceLeDiff, Nat.reduceAdd, Nat.reduceMul]
    exact add_tail (by omega) hb ha hlb (by rw [Nat.add_comm]; exact hq)
  · simp (disch := first | assumption | (apply Ap.symm; assumption) | omega | decide | (simp only [Xd] <;> omega)) only [c, fstC, sndC, ac186, ↓Xa, Xb, Xc, ↓reduceIte, Nat.reduceLT, Nat.reduceEqDiff, Nat.reduceBEq, Nat.reduceLeDiff, Nat.reduceAdd, Nat.reduceMul]
    exact add_tail (by omega) ha hb hla hq

theorem sub_fn {a b : List Nat} (ta tb : Bool) (ha : Lim 4294967296 a) (hb : Lim 4294967296 b) (hab : val 4294967296 b ≤ val 4294967296 a) (hl : a.length ≤ 1099511627776) (hlb : b.length ≤ 1099511627776) :
    PFn Tryd.prog 187 [LS a ta, LS b tb] (.tup [LS (digs 4294967296 (val 4294967296 a - val 4294967296 b)) true, .int .i64 ((0 : Nat) : Int)]) := by
  intro H Q hq
  refine enter187 (by simp) ?_
  simp (disch := first | assumption | (apply Ap.symm; assumption) | omega | decide | (simp only [Xd] <;> omega)) only [ac187, ↓Xa, Xb, Xc, ↓reduceIte, Nat.reduceLT, Nat.reduceEqDiff, Nat.reduceBEq, Nat.reduceLeDiff, Nat.reduceAdd, Nat.reduceMul]
  refine (cmp_fn ta tb ha hb).call ?_
  have hc : ∃ n : Nat, cmpZ (val 4294967296 a) (val 4294967296 b) = (n : Int) := by
    by_cases e : val 4294967296 b < val 4294967296 a
    · exact ⟨1, by simp [cmpZ, e, Nat.not_lt_of_lt e]⟩
    · exact ⟨0, by simp [cmpZ, show val 4294967296 a = val 4294967296 b by omega]⟩
  obtain ⟨n, hc⟩ := hc
  simp (disch := first | assumption | (apply Ap.symm; assumption) | omega | decide | (simp only [Xd] <;> omega)) only [hc, ↓Xa, Xb, Xc, ↓reduceIte, Nat.reduceLT, Nat.reduceEqDiff, Nat.reduceBEq, Nat.reduceLeDiff, Nat.reduceAdd, Nat.reduceMul]
  refine newU_i fun o ho => ?_
  simp (disch := first | assumption | (apply Ap.symm; assumption) | omega | decide | (simp only [Xd] <;> omega)) only [↓Xa, Xb, Xc, ↓reduceIte, Nat.reduceLT, Nat.reduceEqDiff, Nat.reduceBEq, Nat.reduceLeDiff, Nat.reduceAdd, Nat.reduceMul]
  refine W_loop (fun p : Nat × Nat × List Nat => ⟨[], [(1, LS b tb), (6, .own o a.length 0 a.length true), (7, .int .u64 p.2.1), (19, LS a ta), (20, .int .i64 a.length), (21, .int .i64 p.1)],
      H.upd o (some (.row 172 1 (U (p.2.2 ++ List.replicate (a.length - p.1) 0))))⟩)
    (fun p => p.1 ≤ a.length ∧ SubI a b p.1 p.2.1 p.2.2) (fun p => a.length - p.1) (0, 0, []) (Settle.now rfl) ⟨by simp, SubI.zero a b⟩ ?_
  rintro ⟨i, c, done⟩ ⟨h1, h2⟩
  dsimp only at h1 h2 ⊢
  have hdl := h2.1
  have hc := h2.2.2.1
  by_cases hi : i < a.length
  · have hx := ha.getD (by omega) i
    have hy := hb.getD (by omega) i
    by_cases hj : i < b.length
    · simp (disch := first | assumption | (apply Ap.symm; assumption) | omega | decide | (simp only [Xd] <;> omega)) only [hi, hj, ↓Xa, Xb, Xc, ↓reduceIte, Nat.reduceLT, Nat.reduceEqDiff, Nat.reduceBEq, Nat.reduceLeDiff, Nat.reduceAdd, Nat.reduceMul]
      refine Settle.now ⟨(i + 1, _, done ++ [_]), by dsimp only; omega, ⟨by dsimp only; omega, h2.step ha hb rfl rfl⟩, ?_⟩
      rw [set_zeros' _ _ _ _ hdl (by omega)]
    · simp (disch := first | assumption | (apply Ap.symm; assumption) | omega | decide | (simp only [Xd] <;> omega)) only [hi, hj, ↓Xa, Xb, Xc, ↓reduceIte, Nat.reduceLT, Nat.reduceEqDiff, Nat.reduceBEq, Nat.reduceLeDiff, Nat.reduceAdd, Nat.reduceMul]
      have := getD_beyond (show b.length ≤ i by omega)
      refine Settle.now ⟨(i + 1, _, done ++ [_]), by dsimp only; omega, ⟨by dsimp only; omega, h2.step ha hb (y := c) (by omega) rfl⟩, ?_⟩
      rw [set_zeros' _ _ _ _ hdl (by omega)]
  · obtain rfl : i = a.length := by omega
    simp (disch := first | assumption | (apply Ap.symm; assumption) | omega | decide | (simp only [Xd] <;> omega)) only [hi, ↓Xa, Xb, Xc, ↓reduceIte, Nat.reduceLT, Nat.reduceEqDiff, Nat.reduceBEq, Nat.reduceLeDiff, Nat.reduceAdd, Nat.reduceMul]
    refine Settle.now ?_
    simp (disch := first | assumption | (apply Ap.symm; assumption) | omega | decide | (simp only [Xd] <;> omega)) only [Nat.sub_self, List.replicate_zero, ↓Xa, Xb, Xc, ↓reduceIte, Nat.reduceLT, Nat.reduceEqDiff, Nat.reduceBEq, Nat.reduceLeDiff, Nat.reduceAdd, Nat.reduceMul]
    refine trim_call (upd_same _ _ _) hdl ?_
    simp (disch := first | assumption | (apply Ap.symm; assumption) | omega | decide | (simp only [Xd] <;> omega)) only [rs187, ↓Xa, Xb, Xc, ↓reduceIte, Nat.reduceLT, Nat.reduceEqDiff, Nat.reduceBEq, Nat.reduceLeDiff, Nat.reduceAdd, Nat.reduceMul]
    exact fin_tr2 ho hdl (by rw [h2.end ha hab]; exact hq)

theorem mul_fn {a b : List Nat} (ta tb : Bool) (ha : Lim 4294967296 a) (hb : Lim 4294967296 b) (hla : a.length ≤ 1099511627776) (hlb : b.length ≤ 1099511627776) :
    PFn Tryd.prog 171 [LS a ta, LS b tb] (LS (digs 4294967296 (val 4294967296 a * val 4294967296 b)) true) := by
  intro H Q hq
  refine enter171 (by simp) ?_
  simp (disch := first | assumption | (apply Ap.symm; assumption) | omega | decide | (simp only [Xd] <;> omega)) only [ac171, ↓Xa, Xb, Xc, ↓reduceIte, Nat.reduceLT, Nat.reduceEqDiff, Nat.reduceBEq, Nat.reduceLeDiff, Nat.reduceAdd, Nat.reduceMul]
  refine newU_i fun o ho => ?_
  simp (disch := first | assumption | (apply Ap.symm; assumption) | omega | decide | (simp only [Xd] <;> omega)) only [↓Xa, Xb, Xc, ↓reduceIte, Nat.reduceLT, Nat.reduceEqDiff, Nat.reduceBEq, Nat.reduceLeDiff, Nat.reduceAdd, Nat.reduceMul]
  refine W_loop (fun p : Nat × List Nat => ⟨[], [(1, LS b tb), (5, .own o (a.length + b.length) 0 (a.length + b.length) true), (17, LS a ta), (18, .int .i64 a.length), (19, .int .i64 p.1)],
      H.upd o (some (.row 172 1 (U p.2)))⟩)
    (fun p => p.1 ≤ a.length ∧ MulI a b p.1 p.2) (fun p => a.length - p.1) (0, List.replicate (a.length + b.length) 0) (Settle.now rfl) ⟨by simp, MulI.zero a b⟩ ?_
  rintro ⟨i, out⟩ ⟨h1, h2⟩
  dsimp only at h1 h2 ⊢
  have hol := h2.1
  by_cases hi : i < a.length
  · simp (disch := first | assumption | (apply Ap.symm; assumption) | omega | decide | (simp only [Xd] <;> omega)) only [hi, ↓Xa, Xb, Xc, ↓reduceIte, Nat.reduceLT, Nat.reduceEqDiff, Nat.reduceBEq, Nat.reduceLeDiff, Nat.reduceAdd, Nat.reduceMul]
    refine W_loop (fun p : Nat × Nat × List Nat => ⟨[], [(1, LS b tb), (5, .own o (a.length + b.length) 0 (a.length + b.length) true), (6, .int .i64 i), (7, .int .u32 (a.getD i 0 : Nat)), (8, .int .u64 p.2.1), (17, LS a ta), (18, .int .i64 a.length), (19, .int .i64 i), (24, LS b tb), (25, .int .i64 b.length), (26, .int .i64 p.1)],
      H.upd o (some (.row 172 1 (U p.2.2)))⟩)
      (fun p => p.1 ≤ b.length ∧ MulK a b i p.1 p.2.1 p.2.2) (fun p => b.length - p.1) (0, 0, out) (Settle.now rfl) ⟨by simp, MulK.start h2⟩ ?_
    rintro ⟨k, c, out⟩ ⟨g1, g2⟩
    dsimp only at g1 g2 ⊢
    have gol := g2.1
    have gc := g2.2.2.1
    have hx := ha.getD (by omega) i
    by_cases hk : k < b.length
    · have hy := hb.getD (by omega) k
      have ho := g2.2.1.getD (by omega) (i + k)
      have hm : a.getD i 0 * b.getD k 0 ≤ 4294967295 * 4294967295 := Nat.mul_le_mul (by omega) (by omega)
      simp (disch := first | assumption | (apply Ap.symm; assumption) | omega | decide | (simp only [Xd] <;> omega)) only [hk, ↓Xa, Xb, Xc, ↓reduceIte, Nat.reduceLT, Nat.reduceEqDiff, Nat.reduceBEq, Nat.reduceLeDiff, Nat.reduceAdd, Nat.reduceMul]
      refine Settle.now ⟨(k + 1, _, _), by dsimp only; omega, ⟨by dsimp only; omega, g2.step hi hk ha hb rfl⟩, rfl⟩
    · obtain rfl : k = b.length := by omega
      simp (disch := first | assumption | (apply Ap.symm; assumption) | omega | decide | (simp only [Xd] <;> omega)) only [hk, ↓Xa, Xb, Xc, ↓reduceIte, Nat.reduceLT, Nat.reduceEqDiff, Nat.reduceBEq, Nat.reduceLeDiff, Nat.reduceAdd, Nat.reduceMul]
      refine Settle.now ?_
      simp (disch := first | assumption | (apply Ap.symm; assumption) | omega | decide | (simp only [Xd] <;> omega)) only [↓Xa, Xb, Xc, ↓reduceIte, Nat.reduceLT, Nat.reduceEqDiff, Nat.reduceBEq, Nat.reduceLeDiff, Nat.reduceAdd, Nat.reduceMul]
      refine Settle.now ⟨(i + 1, _), by dsimp only; omega, ⟨by dsimp only; omega, g2.end hi⟩, rfl⟩
  · obtain rfl : i = a.length := by omega
    simp (disch := first | assumption | (apply Ap.symm; assumption) | omega | decide | (simp only [Xd] <;> omega)) only [hi, ↓Xa, Xb, Xc, ↓reduceIte, Nat.reduceLT, Nat.reduceEqDiff, Nat.reduceBEq, Nat.reduceLeDiff, Nat.reduceAdd, Nat.reduceMul]
    refine Settle.now ?_
    simp (disch := first | assumption | (apply Ap.symm; assumption) | omega | decide | (simp only [Xd] <;> omega)) only [↓Xa, Xb, Xc, ↓reduceIte, Nat.reduceLT, Nat.reduceEqDiff, Nat.reduceBEq, Nat.reduceLeDiff, Nat.reduceAdd, Nat.reduceMul]
    refine trim_call (upd_same _ _ _) hol ?_
    simp (disch := first | assumption | (apply Ap.symm; assumption) | omega | decide | (simp only [Xd] <;> omega)) only [rs171, ↓Xa, Xb, Xc, ↓reduceIte, Nat.reduceLT, Nat.reduceEqDiff, Nat.reduceBEq, Nat.reduceLeDiff, Nat.reduceAdd, Nat.reduceMul]
    exact fin_tr ho hol (by rw [h2.end]; exact hq)

theorem divsmall_fn {a : List Nat} {d : Nat} (ta : Bool) (ha : Lim 4294967296 a) (hd : 0 < d) (hd' : d < 4294967296) (hla : a.length ≤ 1099511627776) :
    PFn Tryd.prog 212 [LS a ta, .int .u32 (d : Nat)] (.tup [LS (digs 4294967296 (val 4294967296 a / d)) true, .int .u32 ((val 4294967296 a % d : Nat) : Int), .int .i64 ((0 : Nat) : Int)]) := by
  intro H Q hq
  refine enter212 (by simp) ?_
  have hne : (d = 0) = False := by simp; omega
  simp (disch := first | assumption | (apply Ap.symm; assumption) | omega | decide | (simp only [Xd] <;> omega)) only [ac212, hne, ↓Xa, Xb, Xc, ↓reduceIte, Nat.reduceLT, Nat.reduceEqDiff, Nat.reduceBEq, Nat.reduceLeDiff, Nat.reduceAdd, Nat.reduceMul]
  refine newU_i fun o ho => ?_
  simp (disch := first | assumption | (apply Ap.symm; assumption) | omega | decide | (simp only [Xd] <;> omega)) only [↓Xa, Xb, Xc, ↓reduceIte, Nat.reduceLT, Nat.reduceEqDiff, Nat.reduceBEq, Nat.reduceLeDiff, Nat.reduceAdd, Nat.reduceMul]
  refine W_loop (fun p : Nat × Nat × List Nat => ⟨[], [(0, LS a ta), (1, .int .u32 (d : Nat)), (7, .own o a.length 0 a.length true), (8, .int .u64 p.2.1), (9, .int .i64 (dn p.1))],
      H.upd o (some (.row 172 1 (U p.2.2)))⟩)
    (fun p => p.1 ≤ a.length ∧ DivI a d p.1 p.2.1 p.2.2) (fun p => p.1) (a.length, 0, List.replicate a.length 0) (Settle.now rfl) ⟨by simp, DivI.zero a hd⟩ ?_
  rintro ⟨k, r, out⟩ ⟨h1, h2⟩
  dsimp only at h1 h2 ⊢
  have hol := h2.1
  have hr := h2.2.2.1
  cases k with
  | zero =>
    simp (disch := first | assumption | (apply Ap.symm; assumption) | omega | decide | (simp only [Xd] <;> omega)) only [↓Xa, Xb, Xc, ↓reduceIte, Nat.reduceLT, Nat.reduceEqDiff, Nat.reduceBEq, Nat.reduceLeDiff, Nat.reduceAdd, Nat.reduceMul]
    refine Settle.now ?_
    simp (disch := first | assumption | (apply Ap.symm; assumption) | omega | decide | (simp only [Xd] <;> omega)) only [↓Xa, Xb, Xc, ↓reduceIte, Nat.reduceLT, Nat.reduceEqDiff, Nat.reduceBEq, Nat.reduceLeDiff, Nat.reduceAdd, Nat.reduceMul]
    refine trim_call (upd_same _ _ _) hol ?_
    simp (disch := first | assumption | (apply Ap.symm; assumption) | omega | decide | (simp only [Xd] <;> omega)) only [rs212, ↓Xa, Xb, Xc, ↓reduceIte, Nat.reduceLT, Nat.reduceEqDiff, Nat.reduceBEq, Nat.reduceLeDiff, Nat.reduceAdd, Nat.reduceMul]
    rw [h2.end.2]
    exact fin_tr3 ho hol (by rw [h2.end.1]; exact hq)
  | succ k =>
    have hx := ha.getD (by omega) k
    have hs : r * 2 ^ 32 + a.getD k 0 < 18446744073709551616 := by omega
    have hq : (r * 2 ^ 32 + a.getD k 0) / d < 18446744073709551616 := Nat.lt_of_le_of_lt (Nat.div_le_self _ _) hs
    simp (disch := first | assumption | (apply Ap.symm; assumption) | omega | decide | (simp only [Xd] <;> omega)) only [hne, ne_eq, ↓Xa, Xb, Xc, ↓reduceIte, Nat.reduceLT, Nat.reduceEqDiff, Nat.reduceBEq, Nat.reduceLeDiff, Nat.reduceAdd, Nat.reduceMul]
    refine Settle.now ⟨(k, _, _), by dsimp only; omega, ⟨by dsimp only; omega, h2.step (by omega) ha hd' rfl⟩, rfl⟩
end Go.Proofs.YtanchgkiomfhhaaDoor.Fw

/- A number's decimal text, as package limb writes it. -/
namespace Go.Proofs.YtanchgkiomfhhaaDoor.Fw
set_option linter.unusedSimpArgs false
set_option linter.unusedVariables false
open Go Go.Proofs.YtanchgkiomfhhaaDoor.Ma
set_option maxRecDepth 20000

theorem bld_drop {p q : Nat} {l : List UInt8} {H0 H : AHeap} {x : ABlk} (h : bld p l (H0.upd q (some x)) H) (hqp : Ap q p) (hq : H0 q = none) : ∃ H', bld p l H0 H' ∧ Le H' H := by
  have up : ∀ {M : AHeap} {r : Option ABlk}, M = (H0.upd q (some x)).upd p r → Le (H0.upd p r) M := fun {M r} e => by
    rw [e, upd_comm _ _ _ hqp]
    exact (Le.refl _).updB (by rw [upd_otherA hqp]; exact hq)
  rcases h with ⟨rfl, rfl | rfl⟩ | ⟨h0, bb, hbb, hap, rfl⟩
  · exact ⟨_, .inl ⟨rfl, .inl rfl⟩, up rfl⟩
  · exact ⟨_, .inl ⟨rfl, .inr rfl⟩, up rfl⟩
  · obtain ⟨a1, a2⟩ := upd_none.1 hbb
    refine ⟨_, .inr ⟨h0, bb, a2, hap, rfl⟩, ?_⟩
    rw [upd_comm _ _ _ hqp, upd_comm (b := q) (b' := bb) _ _ _ (Ap.symm a1)]
    exact (Le.refl _).updB (by rw [upd_otherA (Ap.symm a1), upd_otherA hqp]; exact hq)
theorem stP_Bt {H : AHeap} {K2 : AV → AHeap → Prop} {b L off ty es c : Nat} {l : List UInt8} (hL : l.length = L) (h : off < L) (hc : c < 256) : stP H 1 b L off K2 (some [.int .u8 (c : Int)]) (some (.row ty es (Bt l))) = K2 .bot (H.upd b (some (.row ty es (Bt (l.set off (UInt8.ofNat c)))))) := by
  subst hL
  have h1 : off + 1 ≤ l.length := h
  have e : splice (Bt l) off [.int .u8 (c : Int)] = Bt (l.set off (UInt8.ofNat c)) := by
    have e2 : (AV.int .u8 (c : Int)) = .int .u8 (((UInt8.ofNat c).toNat : Nat) : Int) := by
      rw [UInt8.toNat_ofNat', Nat.mod_eq_of_lt hc]
    rw [e2]
    unfold splice Bt
    rw [List.map_set, List.set_eq_take_append_cons_drop]
    simp [h]
  simp [stP, Bt_len, h1, e]
def TxI (p j : Nat) (cells : List UInt8) (x : Nat) : Prop := j ≤ 9 ∧ cells = List.replicate j 0 ++ wide (9 - j) (p % 10 ^ (9 - j)) ∧ x = p / 10 ^ (9 - j)
theorem TxI.len {p j x : Nat} {cells : List UInt8} (h : TxI p j cells x) : cells.length = 9 := by
  obtain ⟨h1, rfl, _⟩ := h
  rw [List.length_append, List.length_replicate, wide_len (Nat.mod_lt _ (Nat.pow_pos (by omega)))]; omega
theorem TxI.step {p j x : Nat} {cells : List UInt8} (h : TxI p (j + 1) cells x) : TxI p j (cells.set j (UInt8.ofNat (48 + x % 10))) (x / 10) := by
  obtain ⟨h1, rfl, rfl⟩ := h
  have e9 : 9 - j = (9 - (j + 1)) + 1 := by omega
  refine ⟨by omega, ?_, ?_⟩
  · rw [e9, wide_step]
    rw [List.replicate_succ', List.append_assoc, List.set_append_right _ _ (by simp)]
    simp [chr]
  · rw [e9, Nat.pow_succ, Nat.div_div_eq_div_mul]

theorem text_fn {l : List Nat} (t : Bool) (hl : Lim 4294967296 l) (hn : l.length ≤ 1099511627776) : PFn Tryd.prog 190 [LS l t] (Sx (decT (val 4294967296 l))) := by
  intro H Q hq
  have hP : (2 : Nat) ≤ 1000000000 := by omega
  refine enter190 (by simp) ?_
  simp (disch := first | assumption | (apply Ap.symm; assumption) | omega | decide | (simp only [Xd] <;> omega)) only [ac190, str_Sx, ↓Xa, Xb, Xc, ↓reduceIte, Nat.reduceLT, Nat.reduceEqDiff, Nat.reduceBEq, Nat.reduceLeDiff, Nat.reduceAdd, Nat.reduceMul]
  refine (norm_fn t (by omega)).call ?_
  rw [tr_digs (by omega) hl]
  have hN : val 4294967296 l < 4294967296 ^ l.length := val_lt hl
  have hp2 : (digs 1000000000 (val 4294967296 l)).length ≤ 2 * l.length := digs_len hP _ _ (Nat.lt_of_lt_of_le hN (by rw [Nat.pow_mul]; exact Nat.pow_le_pow_left (by omega) _))
  have hdl : (dec (val 4294967296 l)).length ≤ 10 * l.length := dec_len (Nat.lt_of_lt_of_le hN (by rw [Nat.pow_mul]; exact Nat.pow_le_pow_left (by omega) _))
  generalize hNe : val 4294967296 l = N at *
  simp (disch := first | assumption | (apply Ap.symm; assumption) | omega | decide | (simp only [Xd] <;> omega)) only [↓Xa, Xb, Xc, ↓reduceIte, Nat.reduceLT, Nat.reduceEqDiff, Nat.reduceBEq, Nat.reduceLeDiff, Nat.reduceAdd, Nat.reduceMul]
  refine W_loop (fun s : List Nat × AV × AHeap × Nat => ⟨[], [(3, s.2.1), (4, LS (digs 4294967296 s.2.2.2) true)], s.2.2.1⟩) (fun s => grow H 172 s.1 s.2.1 s.2.2.1 ∧ digs 1000000000 N = s.1 ++ digs 1000000000 s.2.2.2 ∧ s.2.2.2 ≤ N) (fun s => s.2.2.2)
    ([], .seq 0 [] true, H, N) (Settle.now rfl) ⟨grow_nil, rfl, Nat.le_refl _⟩ ?_
  rintro ⟨done, x, G, n⟩ ⟨hg, he, hle⟩
  dsimp only at hg he hle ⊢
  have hdn : (digs 4294967296 n).length ≤ l.length := digs_len (by omega) _ _ (Nat.lt_of_le_of_lt hle (hNe ▸ hN))
  have hz := digs_len0 (B := 4294967296) (n := n) (by omega)
  by_cases hn0 : n = 0
  · have h1 : (digs 4294967296 n).length = 0 := by rw [hz]; exact hn0
    simp (disch := first | assumption | (apply Ap.symm; assumption) | omega | decide | (simp only [Xd] <;> omega)) only [h1, ↓Xa, Xb, Xc, ↓reduceIte, Nat.reduceLT, Nat.reduceEqDiff, Nat.reduceBEq, Nat.reduceLeDiff, Nat.reduceAdd, Nat.reduceMul]
    refine Settle.grown 3 rfl hg (Settle.now ?_)
    rw [hn0, digs_zero, List.append_nil] at he
    subst he
    have hlim := lim_digs hP N
    have hdig := fun k p => piece_step (n := N) (k := k) (p := p)
    have hv : val 1000000000 (digs 1000000000 N) = N := val_digs hP N
    have hlast := digs_last (B := 1000000000) (n := N) hP
    have hnil := digs_len0 (B := 1000000000) (n := N) hP
    generalize digs 1000000000 N = ps at *
    by_cases hp0 : ps.length = 0
    · rw [hnil] at hp0
      have hL : ps.length = 0 := by rw [hnil]; exact hp0
      simp (disch := first | assumption | (apply Ap.symm; assumption) | omega | decide | (simp only [Xd] <;> omega)) only [hL, str_Sx, rs190, ↓Xa, Xb, Xc, ↓reduceIte, Nat.reduceLT, Nat.reduceEqDiff, Nat.reduceBEq, Nat.reduceLeDiff, Nat.reduceAdd, Nat.reduceMul]
      have e : decT N = [48] := by rw [hp0]; rfl
      rw [e] at hq
      exact SetR.now hq
    · have hN0 : 0 < N := by rcases Nat.eq_zero_or_pos N with h | h
                             · exact absurd (hnil ▸ h) hp0
                             · exact h
      have eT : decT N = dec N := by unfold decT; rw [if_neg (by omega)]
      rw [eT] at hq
      obtain ⟨L, hL⟩ : ∃ L, ps.length = L + 1 := ⟨ps.length - 1, by omega⟩
      have hLp : (0 < L + 1) = True := by simp
      have hL0 : (L + 1 = 0) = False := by simp
      simp (disch := first | assumption | (apply Ap.symm; assumption) | omega | decide | (simp only [Xd] <;> omega)) only [hL, hL0, ↓Xa, Xb, Xc, ↓reduceIte, Nat.reduceLT, Nat.reduceEqDiff, Nat.reduceBEq, Nat.reduceLeDiff, Nat.reduceAdd, Nat.reduceMul]
      refine alloc_i fun p hp => ?_
      simp (disch := first | assumption | (apply Ap.symm; assumption) | omega | decide | (simp only [Xd] <;> omega)) only [hL, dn_succ, ↓Xa, Xb, Xc, ↓reduceIte, Nat.reduceLT, Nat.reduceEqDiff, Nat.reduceBEq, Nat.reduceLeDiff, Nat.reduceAdd, Nat.reduceMul]
      refine W_atH fun M0 hM0 => ?_
      refine W_loop (fun s : Nat × AHeap => ⟨[], [(3, LS ps false), (8, .ptr p 2 0), (9, .int .i64 (dn s.1))], s.2⟩) (fun s => s.1 ≤ ps.length ∧ bld p (dec (val 1000000000 (ps.drop s.1))) H s.2) (fun s => s.1) (L + 1, M0) (Settle.now rfl) ⟨by dsimp only; omega, ?_⟩ ?_
      · dsimp only
        rw [List.drop_of_length_le (by omega), show val 1000000000 [] = 0 from rfl, dec_zero, hM0]
        exact bld_new
      rintro ⟨k, M⟩ ⟨hk, hb⟩
      dsimp only at hk hb ⊢
      cases k with
      | zero =>
        simp (disch := first | assumption | (apply Ap.symm; assumption) | omega | decide | (simp only [Xd] <;> omega)) only [dn_zero, ↓Xa, Xb, Xc, ↓reduceIte, Nat.reduceLT, Nat.reduceEqDiff, Nat.reduceBEq, Nat.reduceLeDiff, Nat.reduceAdd, Nat.reduceMul]
        refine Settle.now ?_
        rw [List.drop_zero, hv] at hb
        simp (disch := first | assumption | (apply Ap.symm; assumption) | omega | decide | (simp only [Xd] <;> omega)) only [↓Xa, Xb, Xc, ↓reduceIte, Nat.reduceLT, Nat.reduceEqDiff, Nat.reduceBEq, Nat.reduceLeDiff, Nat.reduceAdd, Nat.reduceMul]
        have hd0 : 0 < (dec N).length := List.length_pos_iff.2 (dec_pos hN0)
        refine run_call (bstr_run hb hp (by omega) hd0 fun H' hH' => ?_)
        simp (disch := first | assumption | (apply Ap.symm; assumption) | omega | decide | (simp only [Xd] <;> omega)) only [rs190, ↓Xa, Xb, Xc, ↓reduceIte, Nat.reduceLT, Nat.reduceEqDiff, Nat.reduceBEq, Nat.reduceLeDiff, Nat.reduceAdd, Nat.reduceMul]
        exact SetR.dropTo hH' (SetR.now hq)
      | succ k =>
        obtain ⟨hlt, hstep⟩ := hdig k _ (by omega) rfl
        have hlt2 : ps.getD k 0 < 1000000000 := hlt
        simp (disch := first | assumption | (apply Ap.symm; assumption) | omega | decide | (simp only [Xd] <;> omega)) only [dn_succ, hL, ↓Xa, Xb, Xc, ↓reduceIte, Nat.reduceLT, Nat.reduceEqDiff, Nat.reduceBEq, Nat.reduceLeDiff, Nat.reduceAdd, Nat.reduceMul]
        refine alloc_i fun q hq' => ?_
        generalize hpk : ps.getD k 0 = pk at *
        simp (disch := first | assumption | (apply Ap.symm; assumption) | omega | decide | (simp only [Xd] <;> omega)) only [hpk, dn_succ, hL, ↓Xa, Xb, Xc, ↓reduceIte, Nat.reduceLT, Nat.reduceEqDiff, Nat.reduceBEq, Nat.reduceLeDiff, Nat.reduceAdd, Nat.reduceMul]
        refine W_loop (fun s : Nat × List UInt8 × Nat => ⟨[], [(3, LS ps false), (8, .ptr p 2 0), (9, .int .i64 (k : Nat)), (10, .ptr q 9 0), (11, .int .u32 (s.2.2 : Nat)), (12, .int .i64 (dn s.1))], M.upd q (some (.row 248 1 (Bt s.2.1)))⟩)
          (fun s => TxI pk s.1 s.2.1 s.2.2) (fun s => s.1) (9, List.replicate 9 0, pk) (Settle.now rfl) ⟨Nat.le_refl _, by simp [wide, pad, digs_zero, Nat.mod_one], by simp⟩ ?_
        rintro ⟨j, cells, x⟩ hx
        dsimp only at hx ⊢
        have hcl := hx.len
        have hx32 : x < 4294967296 := by
          have := hx.2.2
          have := Nat.div_le_self pk (10 ^ (9 - j))
          omega
        cases j with
        | zero =>
          have ecells : cells = wide 9 pk := by
            rw [hx.2.1]; simp [Nat.mod_eq_of_lt hlt2]
          have htk : (Bt cells).take 9 = Bt cells := List.take_of_length_le (by rw [Bt_len]; omega)
          have hbl : (Bt cells).length = 9 := by rw [Bt_len]; exact hcl
          simp (disch := first | assumption | (apply Ap.symm; assumption) | omega | decide | (simp only [Xd] <;> omega)) only [dn_zero, ↓Xa, Xb, Xc, ↓reduceIte, Nat.reduceLT, Nat.reduceEqDiff, Nat.reduceBEq, Nat.reduceLeDiff, Nat.reduceAdd, Nat.reduceMul]
          refine Settle.now ?_
          simp (disch := first | assumption | (apply Ap.symm; assumption) | omega | decide | (simp only [Xd] <;> omega)) only [htk, str_Sx, hL, dn_succ, ↓Xa, Xb, Xc, ↓reduceIte, Nat.reduceLT, Nat.reduceEqDiff, Nat.reduceBEq, Nat.reduceLeDiff, Nat.reduceAdd, Nat.reduceMul]
          refine ⟨by decide, ?_⟩
          obtain ⟨a1, a2, w0⟩ := bld_upd (x := .row 248 1 (Bt cells)) hb hq'
          have fin : ∀ (m : List UInt8) (M' : AHeap), bld p (dec (val 1000000000 (ps.drop (k + 1))) ++ m) (H.upd q (some (.row 248 1 (Bt cells)))) M' → dec (val 1000000000 (ps.drop k)) = dec (val 1000000000 (ps.drop (k + 1))) ++ m →
              Settle (fun s' => ∃ x' : Nat × AHeap, x'.1 < k + 1 ∧ (x'.1 ≤ L + 1 ∧ bld p (dec (val 1000000000 (ps.drop x'.1))) H x'.2) ∧ s' = ⟨[], [(3, LS ps false), (8, .ptr p 2 0), (9, .int .i64 (dn x'.1))], x'.2⟩) ⟨[], [(3, LS ps false), (8, .ptr p 2 0), (9, .int .i64 (dn k))], M'⟩ := fun m M' hb' e => by
            obtain ⟨M'', h1, h2⟩ := bld_drop hb' a1 a2
            exact Settle.dropTo h2 (Settle.now ⟨(k, M''), Nat.lt_succ_self k, ⟨by dsimp only; omega, by dsimp only; rw [e]; exact h1⟩, rfl⟩)
          have hbd : (dec (val 1000000000 (ps.drop (k + 1)))).length ≤ 9 * ps.length := by
            refine dec_len (Nat.lt_of_lt_of_le (val_lt (hlim.drop (k + 1))) ?_)
            rw [show (1000000000 : Nat) = 10 ^ 9 from rfl, ← Nat.pow_mul]
            exact Nat.pow_le_pow_right (by omega) (Nat.mul_le_mul_left _ (by simp))
          by_cases hkL : k = L
          · rw [if_pos (by omega)] at hstep
            have hpk0 : pk ≠ 0 := by
              have := hlast hN0
              rwa [hL, Nat.add_sub_cancel, ← hkL, hpk] at this
            have hm0 : 0 < (dec pk).length := List.length_pos_iff.2 (dec_pos (by omega))
            have hm9 : (dec pk).length ≤ 9 := dec_len (k := 9) hlt2
            have hd1 : decide (k = L + 1 - 1) = true := by simp [hkL]
            simp (disch := first | assumption | (apply Ap.symm; assumption) | omega | decide | (simp only [Xd] <;> omega)) only [hd1, ↓Xa, Xb, Xc, ↓reduceIte, Nat.reduceLT, Nat.reduceEqDiff, Nat.reduceBEq, Nat.reduceLeDiff, Nat.reduceAdd, Nat.reduceMul]
            refine (trimL_fn (c := 48) (l := cells) (by omega) (by decide)).call ?_
            rw [ecells, wide_trim, ← ecells]
            simp (disch := first | assumption | (apply Ap.symm; assumption) | omega | decide | (simp only [Xd] <;> omega)) only [↓Xa, Xb, Xc, ↓reduceIte, Nat.reduceLT, Nat.reduceEqDiff, Nat.reduceBEq, Nat.reduceLeDiff, Nat.reduceAdd, Nat.reduceMul]
            refine run_call (wstr_run w0 (by omega) hm0 fun M' hM' => ?_)
            simp (disch := first | assumption | (apply Ap.symm; assumption) | omega | decide | (simp only [Xd] <;> omega)) only [↓Xa, Xb, Xc, ↓reduceIte, Nat.reduceLT, Nat.reduceEqDiff, Nat.reduceBEq, Nat.reduceLeDiff, Nat.reduceAdd, Nat.reduceMul]
            exact fin _ _ hM' hstep
          · rw [if_neg (by omega)] at hstep
            rw [← ecells] at hstep
            have hd1 : decide (k = L + 1 - 1) = false := by simp [hkL]
            simp (disch := first | assumption | (apply Ap.symm; assumption) | omega | decide | (simp only [Xd] <;> omega)) only [hd1, ↓Xa, Xb, Xc, ↓reduceIte, Nat.reduceLT, Nat.reduceEqDiff, Nat.reduceBEq, Nat.reduceLeDiff, Nat.reduceAdd, Nat.reduceMul]
            refine run_call (wstr_run w0 (by omega) (by omega) fun M' hM' => ?_)
            simp (disch := first | assumption | (apply Ap.symm; assumption) | omega | decide | (simp only [Xd] <;> omega)) only [↓Xa, Xb, Xc, ↓reduceIte, Nat.reduceLT, Nat.reduceEqDiff, Nat.reduceBEq, Nat.reduceLeDiff, Nat.reduceAdd, Nat.reduceMul]
            exact fin _ _ hM' hstep
        | succ j =>
          have hj : j < 9 := by have := hx.1; omega
          have hbl : (Bt cells).length = 9 := by rw [Bt_len]; exact hcl
          have hd : x % 10 < 10 := Nat.mod_lt _ (by omega)
          simp (disch := first | assumption | (apply Ap.symm; assumption) | omega | decide | (simp only [Xd] <;> omega)) only [dn_succ, stP_Bt, ↓Xa, Xb, Xc, ↓reduceIte, Nat.reduceLT, Nat.reduceEqDiff, Nat.reduceBEq, Nat.reduceLeDiff, Nat.reduceAdd, Nat.reduceMul]
          exact ⟨by omega, by omega, Settle.now ⟨(j, _, x / 10), Nat.lt_succ_self j, hx.step, rfl⟩⟩
  · have h1 : 0 < (digs 4294967296 n).length := by
      have : ¬ (digs 4294967296 n).length = 0 := by rw [hz]; exact hn0
      omega
    simp (disch := first | assumption | (apply Ap.symm; assumption) | omega | decide | (simp only [Xd] <;> omega)) only [h1, ↓Xa, Xb, Xc, ↓reduceIte, Nat.reduceLT, Nat.reduceEqDiff, Nat.reduceBEq, Nat.reduceLeDiff, Nat.reduceAdd, Nat.reduceMul]
    refine (divsmall_fn (d := 1000000000) true (lim_digs (by omega) n) (by omega) (by omega) (by omega)).call ?_
    rw [val_digs (by omega)]
    simp (disch := first | assumption | (apply Ap.symm; assumption) | omega | decide | (simp only [Xd] <;> omega)) only [↓Xa, Xb, Xc, ↓reduceIte, Nat.reduceLT, Nat.reduceEqDiff, Nat.reduceBEq, Nat.reduceLeDiff, Nat.reduceAdd, Nat.reduceMul]
    have hlen := congrArg List.length he
    rw [List.length_append] at hlen
    refine app_grow (m := [n % 1000000000]) hg rfl (by simp) (by simp; omega) fun x' H2 hg2 => ?_
    simp (disch := first | assumption | (apply Ap.symm; assumption) | omega | decide | (simp only [Xd] <;> omega)) only [↓Xa, Xb, Xc, ↓reduceIte, Nat.reduceLT, Nat.reduceEqDiff, Nat.reduceBEq, Nat.reduceLeDiff, Nat.reduceAdd, Nat.reduceMul]
    refine Settle.now ⟨(done ++ [n % 1000000000], x', H2, n / 1000000000), Nat.div_lt_self (by omega) (by omega), ⟨hg2, ?_, Nat.le_trans (Nat.div_le_self _ _) hle⟩, rfl⟩
    dsimp only
    rw [he, digs_pos hP (show 0 < n by omega), List.append_assoc]; rfl
end Go.Proofs.YtanchgkiomfhhaaDoor.Fw

/- Binary digits of limbs. -/
namespace Go.Proofs.YtanchgkiomfhhaaDoor.Fw
set_option linter.unusedSimpArgs false
set_option linter.unusedVariables false
open Go Go.Proofs.YtanchgkiomfhhaaDoor.Ma
set_option maxRecDepth 20000

end Go.Proofs.YtanchgkiomfhhaaDoor.Fw

/- What package limb computes: shifts. -/
namespace Go.Proofs.YtanchgkiomfhhaaDoor.Fw
set_option linter.unusedSimpArgs false
set_option linter.unusedVariables false
open Go Go.Proofs.YtanchgkiomfhhaaDoor.Ma
set_option maxRecDepth 20000

end Go.Proofs.YtanchgkiomfhhaaDoor.Fw

/- What package limb computes: a quotient's digit. -/
namespace Go.Proofs.YtanchgkiomfhhaaDoor.Fw
set_option linter.unusedSimpArgs false
set_option linter.unusedVariables false
open Go Go.Proofs.YtanchgkiomfhhaaDoor.Ma
set_option maxRecDepth 20000

section
variable {H : AHeap} {b ty off L n : Nat} {ti : Bool} {pre u post : List Nat}
def scC : ACode → ACode
  | .scope0 c => c
  | x => x
end
end Go.Proofs.YtanchgkiomfhhaaDoor.Fw

/- What package limb computes: quotients and remainders. -/
namespace Go.Proofs.YtanchgkiomfhhaaDoor.Fw
set_option linter.unusedSimpArgs false
set_option linter.unusedVariables false
open Go Go.Proofs.YtanchgkiomfhhaaDoor.Ma
set_option maxRecDepth 20000

theorem LS_0 (B : Nat) : AV.seq 0 [] true = LS (digs B 0) true := by rw [digs_zero]; rfl
end Go.Proofs.YtanchgkiomfhhaaDoor.Fw

/- The laws' first question: are numbers added, multiplied, divided, told? -/
namespace Go.Proofs.YtanchgkiomfhhaaDoor.Fw
set_option linter.unusedSimpArgs false
set_option linter.unusedVariables false
open Go Go.Proofs.YtanchgkiomfhhaaDoor.Ma
set_option maxRecDepth 20000

end Go.Proofs.YtanchgkiomfhhaaDoor.Fw

/- What package limb computes, in terms of numbers. -/
namespace Go.Proofs.YtanchgkiomfhhaaDoor.Fw
set_option linter.unusedSimpArgs false
set_option linter.unusedVariables false
open Go Go.Proofs.YtanchgkiomfhhaaDoor.Ma
set_option maxRecDepth 20000

structure Nm (l : List Nat) (n k : Nat) : Prop where
  lim : Lim 4294967296 l
  val : val 4294967296 l = n
  len : l.length ≤ k
theorem Nm.lt {l : List Nat} {n k : Nat} (h : Nm l n k) : n < 4294967296 ^ k := by
  rw [← h.val]; exact Nat.lt_of_lt_of_le (val_lt h.lim) (Nat.pow_le_pow_right (by omega) h.len)
theorem Nm.digs {n k : Nat} (h : n < 4294967296 ^ k) : Nm (digs 4294967296 n) n k := ⟨lim_digs (by omega) n, val_digs (by omega) n, digs_len (by omega) k n h⟩
theorem Nm.raw {l : List Nat} {k : Nat} (h : Lim 4294967296 l) (hk : l.length ≤ k) : Nm l (Ma.val 4294967296 l) k := ⟨h, rfl, hk⟩
theorem Nm.mono {l : List Nat} {n k k' : Nat} (h : Nm l n k) (hk : k ≤ k') : Nm l n k' := ⟨h.lim, h.val, Nat.le_trans h.len hk⟩
theorem lt_mul {m n k k' : Nat} (h : m < 4294967296 ^ k) (h' : n < 4294967296 ^ k') : m * n < 4294967296 ^ (k + k') := by
  rw [Nat.pow_add]; exact Nat.mul_lt_mul_of_lt_of_lt h h'
theorem add_n {a b : List Nat} {m n k k' : Nat} (ta tb : Bool) (ha : Nm a m k) (hb : Nm b n k') (hk : k ≤ 1000000) (hk' : k' ≤ 1000000) : PFn Tryd.prog 186 [LS a ta, LS b tb] (LS (Ma.digs 4294967296 (m + n)) true) := by
  have := add_fn ta tb ha.lim hb.lim (Nat.le_trans ha.len (by omega)) (Nat.le_trans hb.len (by omega))
  rwa [ha.val, hb.val] at this
theorem mul_n {a b : List Nat} {m n k k' : Nat} (ta tb : Bool) (ha : Nm a m k) (hb : Nm b n k') (hk : k ≤ 1000000) (hk' : k' ≤ 1000000) : PFn Tryd.prog 171 [LS a ta, LS b tb] (LS (Ma.digs 4294967296 (m * n)) true) := by
  have := mul_fn ta tb ha.lim hb.lim (Nat.le_trans ha.len (by omega)) (Nat.le_trans hb.len (by omega))
  rwa [ha.val, hb.val] at this
end Go.Proofs.YtanchgkiomfhhaaDoor.Fw

/- The law of quotients and remainders of limbs, without the reference, as what its code computes: true. -/
namespace Go.Proofs.YtanchgkiomfhhaaDoor.Fw
set_option linter.unusedSimpArgs false
set_option linter.unusedVariables false
open Go Go.Proofs.YtanchgkiomfhhaaDoor.Ma
set_option maxRecDepth 20000

theorem Nm.one {c : Nat} (h : c < 4294967296) : Nm [c] c 1 := ⟨Lim.one h, val_one _ _, Nat.le_refl _⟩
theorem muls_n {a : List Nat} {m k c : Nat} (ta : Bool) (ha : Nm a m k) (hk : k ≤ 1000000) (hc : c < 4294967296) : PFn Tryd.prog 214 [LS a ta, .int .u32 (c : Nat)] (LS (Ma.digs 4294967296 (m * c)) true) := by
  intro H Q hq
  refine enter214 (by simp) ?_
  simp (disch := first | assumption | (apply Ap.symm; assumption) | omega | decide | (simp only [Xd] <;> omega)) only [ac214, ↓Xa, Xb, Xc, ↓reduceIte, Nat.reduceLT, Nat.reduceEqDiff, Nat.reduceBEq, Nat.reduceLeDiff, Nat.reduceAdd, Nat.reduceMul]
  refine (mul_n (b := [c]) ta true ha (Nm.one hc) hk (by omega)).call ?_
  simp (disch := first | assumption | (apply Ap.symm; assumption) | omega | decide | (simp only [Xd] <;> omega)) only [rs214, ↓Xa, Xb, Xc, ↓reduceIte, Nat.reduceLT, Nat.reduceEqDiff, Nat.reduceBEq, Nat.reduceLeDiff, Nat.reduceAdd, Nat.reduceMul]
  exact SetR.now hq
end Go.Proofs.YtanchgkiomfhhaaDoor.Fw

/- The number of a decimal text, and back. -/
namespace Go.Proofs.YtanchgkiomfhhaaDoor.Ma
set_option linter.unusedSimpArgs false
set_option linter.unusedVariables false

def decF (v : Nat) (l : List UInt8) : Nat := l.foldl (fun v b => 10 * v + (b.toNat - 48)) v
def decV (l : List UInt8) : Nat := decF 0 l
theorem decF_eq : ∀ (l : List UInt8) (v : Nat), decF v l = 10 ^ l.length * v + decV l
  | [], v => by simp [decF, decV]
  | b :: l, v => by
    have h1 := decF_eq l (10 * v + (b.toNat - 48))
    have h2 := decF_eq l (10 * 0 + (b.toNat - 48))
    have e1 : decF v (b :: l) = decF (10 * v + (b.toNat - 48)) l := rfl
    have e2 : decV (b :: l) = decF (10 * 0 + (b.toNat - 48)) l := rfl
    rw [e1, e2, h1, h2, List.length_cons, Nat.pow_succ]
    grind
theorem decV_app (l m : List UInt8) : decV (l ++ m) = 10 ^ m.length * decV l + decV m := by
  have : decV (l ++ m) = decF (decV l) m := by simp only [decV, decF, List.foldl_append]
  rw [this, decF_eq]
theorem decV_one (b : UInt8) : decV [b] = b.toNat - 48 := by simp [decV, decF]
theorem decV_chr : ∀ {l : List Nat}, Lim 10 l → decV (l.reverse.map chr) = val 10 l
  | [], _ => rfl
  | x :: l, h => by
    rw [List.reverse_cons, List.map_append, decV_app, decV_chr h.tail, List.map_singleton, decV_one, chr_nat h.head]
    simp [val]; omega
theorem decV_dec (n : Nat) : decV (dec n) = n := by
  unfold dec; rw [decV_chr (lim_digs (by omega) n), val_digs (by omega)]
theorem decV_decT (n : Nat) : decV (decT n) = n := by
  unfold decT
  split
  · subst_vars; rfl
  · exact decV_dec n
theorem decF_lt : ∀ {l : List UInt8} {v : Nat}, (∀ b, b ∈ l → b.toNat ≤ 57) → decF v l < 10 ^ l.length * (v + 1)
  | [], v, _ => by simp [decF]
  | b :: l, v, h => by
    have h1 := decF_lt (l := l) (v := 10 * v + (b.toNat - 48)) fun x hx => h x (List.mem_cons_of_mem _ hx)
    have h2 := h b List.mem_cons_self
    have e1 : decF v (b :: l) = decF (10 * v + (b.toNat - 48)) l := rfl
    rw [e1]
    refine Nat.lt_of_lt_of_le h1 ?_
    rw [List.length_cons, Nat.pow_succ, Nat.mul_assoc]
    exact Nat.mul_le_mul_left _ (by omega)
theorem decV_lt {l : List UInt8} (h : ∀ b, b ∈ l → b.toNat ≤ 57) : decV l < 10 ^ l.length := by
  have := decF_lt (v := 0) h
  simpa [decV] using this
def isDig (b : UInt8) : Prop := 48 ≤ b.toNat ∧ b.toNat ≤ 57
def Good (l : List UInt8) : Prop := l ≠ [] ∧ (∀ b, b ∈ l → isDig b) ∧ (l.length = 1 ∨ (l.getD 0 0).toNat ≠ 48)
theorem good_decT (n : Nat) : Good (decT n) := by
  unfold decT
  split
  · exact ⟨by simp, by simp [isDig], .inl rfl⟩
  · rename_i h
    have hn : 0 < n := by omega
    refine ⟨dec_pos hn, fun b hb => ?_, .inr ?_⟩
    · unfold dec at hb
      obtain ⟨x, hx, rfl⟩ := List.mem_map.1 hb
      have := lim_digs (B := 10) (by omega) n x (List.mem_reverse.1 hx)
      unfold isDig; rw [chr_nat this]; omega
    · have hl := digs_last (B := 10) (by omega) hn
      have hne : digs 10 n ≠ [] := fun e => by have := (digs_nil (B := 10) (by omega)).1 e; omega
      obtain ⟨l, x, hx⟩ : ∃ l x, digs 10 n = l ++ [x] := ⟨_, _, (List.dropLast_concat_getLast hne).symm⟩
      have hx0 : x ≠ 0 := by
        rw [hx, last_append (by simp)] at hl
        simpa using hl
      have hx10 : x < 10 := lim_digs (B := 10) (by omega) n x (by rw [hx]; simp)
      have : dec n = chr x :: l.reverse.map chr := by simp [dec, hx]
      rw [this]
      show (chr x).toNat ≠ 48
      rw [chr_nat hx10]; omega
def badAt (l : List UInt8) (i : Nat) : Prop := (l.getD i 0).toNat < 48 ∨ 57 < (l.getD i 0).toNat ∨ (0 < i ∧ (l.getD 0 0).toNat = 48)
theorem good_of {l : List UInt8} (h0 : l ≠ []) (h : ∀ i, i < l.length → ¬ badAt l i) : Good l := by
  refine ⟨h0, fun b hb => ?_, ?_⟩
  · obtain ⟨i, hi, rfl⟩ := List.getElem_of_mem hb
    have := h i hi
    unfold badAt at this
    rw [List.getD_eq_getElem?_getD, List.getElem?_eq_getElem hi, Option.getD_some] at this
    unfold isDig; omega
  · by_cases hl : l.length = 1
    · exact .inl hl
    · right
      have hp : 0 < l.length := List.length_pos_iff.2 h0
      have := h 1 (by omega)
      unfold badAt at this; omega
theorem bad_of_good {l : List UInt8} (h : Good l) {i : Nat} (hi : i < l.length) : ¬ badAt l i := by
  obtain ⟨h0, h1, h2⟩ := h
  have := h1 _ (List.getElem_mem hi)
  unfold badAt isDig at *
  rw [List.getD_eq_getElem?_getD, List.getElem?_eq_getElem hi, Option.getD_some]
  omega
end Go.Proofs.YtanchgkiomfhhaaDoor.Ma

/- A text read, as package limb reads it. -/
namespace Go.Proofs.YtanchgkiomfhhaaDoor.Fw
set_option linter.unusedSimpArgs false
set_option linter.unusedVariables false
open Go Go.Proofs.YtanchgkiomfhhaaDoor.Ma
set_option maxRecDepth 20000

def spot (e a : Nat) : AV := .agg [.int .i64 (e : Int), .int .i64 (a : Int)]
theorem cells_spot {e a : Nat} : (spot e a).cells = some [.int .i64 (e : Int), .int .i64 (a : Int)] := id rfl
theorem cells_i2 {k k' : IntKind} {a b : Int} : (AV.agg [.int k a, .int k' b]).cells = some [.int k a, .int k' b] := id rfl
theorem min_k {a b : Nat} {K : AV → Prop} : maxW false (.int .i64 (a : Int)) (.int .i64 (b : Int)) K ↔ K (.int .i64 ((min a b : Nat) : Int)) := by
  have : (if (b : Int) < (a : Int) then (b : Int) else (a : Int)) = ((min a b : Nat) : Int) := by split <;> omega
  simp only [maxW, true_and, Bool.false_eq_true, if_false, this]
theorem rng_Sx {H : AHeap} {l : List UInt8} {K : AV → AHeap → Prop} : rngW H (Sx l) K = rngS H ⟨l.toArray⟩ K := id rfl
theorem byte_Sx {l : List UInt8} {i : Nat} : byteAt ⟨l.toArray⟩ i = (l.getD i 0).toNat := by simp [byteAt]
theorem nxt_Sl {H : AHeap} {b pos : Nat} {l : List UInt8} {K : AV → AHeap → Prop} (h : pos < l.length) (hb : (l.getD pos 0).toNat < 128) : nxtP H b K (some (.raw (.stringIter ⟨l.toArray⟩ pos))) = K (.tup [.bool true, .int .i64 (pos : Int), .int .i32 (((l.getD pos 0).toNat : Nat) : Int)]) (H.upd b (some (.raw (.stringIter ⟨l.toArray⟩ (pos + 1))))) := by
  rw [nxt_lt (by rw [size_Sx]; exact h) (by rw [byte_Sx]; exact hb), byte_Sx]
theorem nxt_Sg {H : AHeap} {b pos : Nat} {l : List UInt8} {K : AV → AHeap → Prop} (h : l.length ≤ pos) : nxtP H b K (some (.raw (.stringIter ⟨l.toArray⟩ pos))) = K (.tup [.bool false]) H := nxt_ge (by rw [size_Sx]; exact h)
theorem wn_i32 {n : Nat} (h : n < 2147483648) : IntKind.i32.wrap (n : Int) = (n : Int) := by
  unfold IntKind.wrap; simp only [IntKind.bits, IntKind.signed, Bool.true_and, decide_eq_true_eq, ge_iff_le]; split <;> omega
theorem ten_b {n m : Nat} (h : 4 * n ≤ 32 * m) : 10 ^ n ≤ 4294967296 ^ m := by
  have h1 : 10 ^ n ≤ 16 ^ n := Nat.pow_le_pow_left (by omega) n
  have h2 : (16 : Nat) ^ n = 2 ^ (4 * n) := by rw [Nat.pow_mul]
  have h3 : (4294967296 : Nat) ^ m = 2 ^ (32 * m) := by rw [Nat.pow_mul]
  rw [h3]
  exact Nat.le_trans h1 (by rw [h2]; exact Nat.pow_le_pow_right (by omega) h)
theorem ten_bound {n : Nat} (h : n ≤ 65536) : 10 ^ n ≤ 4294967296 ^ 8192 := ten_b (m := 8192) (by omega)
def ReadR (l : List UInt8) (r : AV) : Prop :=
  (65536 < l.length ∧ r = .tup [LS [] true, spot 3 65536]) ∨ (l = [] ∧ r = .tup [LS [] true, spot 6 0]) ∨
  (l.length ≤ 65536 ∧ ∃ i, i < l.length ∧ badAt l i ∧ (∀ j, j < i → ¬ badAt l j) ∧ r = .tup [LS [] true, spot 6 i]) ∨
  (l.length ≤ 65536 ∧ Good l ∧ r = .tup [LS (Ma.digs 4294967296 (decV l)) true, spot 0 0])
theorem readR_fn {l : List UInt8} {r r' : AV} (h : ReadR l r) (h' : ReadR l r') : r = r' := by
  have nb : ∀ {i}, Good l → i < l.length → badAt l i → False := fun g hi hb => bad_of_good g hi hb
  have ne : Good l → l = [] → False := fun g e => g.1 e
  rcases h with ⟨a, rfl⟩ | ⟨a, rfl⟩ | ⟨a, i, b, c, d, rfl⟩ | ⟨a, b, rfl⟩ <;> rcases h' with ⟨a', rfl⟩ | ⟨a', rfl⟩ | ⟨a', i', b', c', d', rfl⟩ | ⟨a', b', rfl⟩ <;>
    first
    | rfl
    | (exfalso; omega)
    | (subst a; simp at a'; done)
    | (subst a'; simp at a; done)
    | (subst a; simp at b'; done)
    | (subst a'; simp at b; done)
    | exact (ne ‹_› ‹_›).elim
    | exact (nb ‹_› ‹_› ‹_›).elim
    | (have : i = i' := by
        rcases Nat.lt_trichotomy i i' with h | h | h
        · exact absurd c (d' i h)
        · exact h
        · exact absurd c' (d i' h)
       rw [this])
theorem read_fn {l : List UInt8} {r : AV} (hr : ReadR l r) (hsz : l.length < 9223372036854775808) : PFn Tryd.prog 202 [Sx l] r := by
  intro H Q hq
  have out : ∀ {r'}, ReadR l r' → Q r' H := fun h => by rw [readR_fn h hr]; exact hq
  refine enter202 (by simp) ?_
  simp (disch := first | assumption | (apply Ap.symm; assumption) | omega | decide | (simp only [Xd] <;> omega)) only [ac202, ↓Xa, Xb, Xc, ↓reduceIte, Nat.reduceLT, Nat.reduceEqDiff, Nat.reduceBEq, Nat.reduceLeDiff, Nat.reduceAdd, Nat.reduceMul]
  refine alloc_i fun p1 hp1 => ?_
  have n1 := hp1
  have fin : ∀ {r' : AV} {x : Option ABlk}, ReadR l r' → SetR Q r' (H.upd p1 x) := fun h => SetR.dropTo ((Le.refl H).updB n1) (SetR.now (out h))
  by_cases h1 : 65536 < l.length
  · simp (disch := first | assumption | (apply Ap.symm; assumption) | omega | decide | (simp only [Xd] <;> omega)) only [len_Sx, h1, cells_i2, rs202, ↓Xa, Xb, Xc, ↓reduceIte, Nat.reduceLT, Nat.reduceEqDiff, Nat.reduceBEq, Nat.reduceLeDiff, Nat.reduceAdd, Nat.reduceMul]
    exact fin (.inl ⟨h1, rfl⟩)
  by_cases h2 : l = []
  · simp (disch := first | assumption | (apply Ap.symm; assumption) | omega | decide | (simp only [Xd] <;> omega)) only [len_Sx, str_Sx, eql_Sx, h2, rs202, List.length_nil, ↓Xa, Xb, Xc, ↓reduceIte, Nat.reduceLT, Nat.reduceEqDiff, Nat.reduceBEq, Nat.reduceLeDiff, Nat.reduceAdd, Nat.reduceMul]
    exact fin (.inr (.inl ⟨h2, rfl⟩))
  have hpos : 0 < l.length := List.length_pos_iff.2 h2
  simp (disch := first | assumption | (apply Ap.symm; assumption) | omega | decide | (simp only [Xd] <;> omega)) only [len_Sx, str_Sx, eql_Sx, h1, h2, ↓Xa, Xb, Xc, ↓reduceIte, Nat.reduceLT, Nat.reduceEqDiff, Nat.reduceBEq, Nat.reduceLeDiff, Nat.reduceAdd, Nat.reduceMul]
  refine W_loop (fun i : Nat => ⟨[], [(0, Sx l), (3, .ptr p1 2 0), (19, .int .i64 (l.length : Nat)), (20, .int .i64 (i : Nat))], H.upd p1 (some (.row 105 0 [.int .i64 ((0 : Nat) : Int), .int .i64 ((0 : Nat) : Int)]))⟩) (fun i => i ≤ l.length ∧ ∀ j, j < i → ¬ badAt l j) (fun i => l.length - i) 0 (Settle.now rfl) ⟨by simp, fun j h => by omega⟩ ?_
  rintro i ⟨hi1, hi2⟩
  by_cases hi : i < l.length
  · have bad : badAt l i → SetR Q (.tup [LS [] true, spot 6 i]) (H.upd p1 (some (.row 105 0 [.int .i64 ((6 : Nat) : Int), .int .i64 (i : Int)]))) := fun hb => fin (.inr (.inr (.inl ⟨by omega, i, hi, hb, hi2, rfl⟩)))
    have step : ¬ badAt l i → ∀ j, j < i + 1 → ¬ badAt l j := fun hb j hj => by
      by_cases e : j = i
      · rw [e]; exact hb
      · exact hi2 j (by omega)
    by_cases c1 : (l.getD i 0).toNat < 48
    · simp (disch := first | assumption | (apply Ap.symm; assumption) | omega | decide | (simp only [Xd] <;> omega)) only [hi, idx_Sx, c1, cells_i2, rs202, ↓Xa, Xb, Xc, ↓reduceIte, Nat.reduceLT, Nat.reduceEqDiff, Nat.reduceBEq, Nat.reduceLeDiff, Nat.reduceAdd, Nat.reduceMul]
      exact bad (.inl c1)
    by_cases c2 : 57 < (l.getD i 0).toNat
    · simp (disch := first | assumption | (apply Ap.symm; assumption) | omega | decide | (simp only [Xd] <;> omega)) only [hi, idx_Sx, c1, c2, cells_i2, rs202, ↓Xa, Xb, Xc, ↓reduceIte, Nat.reduceLT, Nat.reduceEqDiff, Nat.reduceBEq, Nat.reduceLeDiff, Nat.reduceAdd, Nat.reduceMul]
      exact bad (.inr (.inl c2))
    by_cases c3 : 0 < i
    · by_cases c4 : (l.getD 0 0).toNat = 48
      · simp (disch := first | assumption | (apply Ap.symm; assumption) | omega | decide | (simp only [Xd] <;> omega)) only [hi, idx_Sx, c1, c2, c3, c4, cells_i2, rs202, ↓Xa, Xb, Xc, ↓reduceIte, Nat.reduceLT, Nat.reduceEqDiff, Nat.reduceBEq, Nat.reduceLeDiff, Nat.reduceAdd, Nat.reduceMul]
        exact bad (.inr (.inr ⟨c3, c4⟩))
      · simp (disch := first | assumption | (apply Ap.symm; assumption) | omega | decide | (simp only [Xd] <;> omega)) only [hi, idx_Sx, c1, c2, c3, c4, ↓Xa, Xb, Xc, ↓reduceIte, Nat.reduceLT, Nat.reduceEqDiff, Nat.reduceBEq, Nat.reduceLeDiff, Nat.reduceAdd, Nat.reduceMul]
        exact Settle.now ⟨i + 1, by omega, ⟨by omega, step (by unfold badAt; omega)⟩, rfl⟩
    · simp (disch := first | assumption | (apply Ap.symm; assumption) | omega | decide | (simp only [Xd] <;> omega)) only [hi, idx_Sx, c1, c2, c3, ↓Xa, Xb, Xc, ↓reduceIte, Nat.reduceLT, Nat.reduceEqDiff, Nat.reduceBEq, Nat.reduceLeDiff, Nat.reduceAdd, Nat.reduceMul]
      exact Settle.now ⟨i + 1, by omega, ⟨by omega, step (by unfold badAt; omega)⟩, rfl⟩
  · have hg : Good l := good_of h2 fun j hj => hi2 j (by omega)
    simp (disch := first | assumption | (apply Ap.symm; assumption) | omega | decide | (simp only [Xd] <;> omega)) only [hi, ↓Xa, Xb, Xc, ↓reduceIte, Nat.reduceLT, Nat.reduceEqDiff, Nat.reduceBEq, Nat.reduceLeDiff, Nat.reduceAdd, Nat.reduceMul]
    refine Settle.now ?_
    simp (disch := first | assumption | (apply Ap.symm; assumption) | omega | decide | (simp only [Xd] <;> omega)) only [↓Xa, Xb, Xc, ↓reduceIte, Nat.reduceLT, Nat.reduceEqDiff, Nat.reduceBEq, Nat.reduceLeDiff, Nat.reduceAdd, Nat.reduceMul]
    have hdig : ∀ b, b ∈ l → b.toNat ≤ 57 := fun b hb => (hg.2.1 b hb).2
    refine W_loop (fun s : List UInt8 × Nat => ⟨[], [(0, Sx s.1), (3, .ptr p1 2 0), (5, LS (Ma.digs 4294967296 s.2) true)], H.upd p1 (some (.row 105 0 [.int .i64 ((0 : Nat) : Int), .int .i64 ((0 : Nat) : Int)]))⟩) (fun s => ∃ d, l = d ++ s.1 ∧ s.2 = decV d) (fun s => s.1.length) (l, 0) (Settle.now (by rw [digs_zero]; rfl)) ⟨[], by simp, rfl⟩ ?_
    rintro ⟨m, v⟩ ⟨d, hd1, hd2⟩
    dsimp only at hd1 hd2 ⊢
    have hlen : l.length = d.length + m.length := by rw [hd1, List.length_append]
    cases m with
    | nil =>
      rw [List.append_nil] at hd1
      simp (disch := first | assumption | (apply Ap.symm; assumption) | omega | decide | (simp only [Xd] <;> omega)) only [len_Sx, List.length_nil, ↓Xa, Xb, Xc, ↓reduceIte, Nat.reduceLT, Nat.reduceEqDiff, Nat.reduceBEq, Nat.reduceLeDiff, Nat.reduceAdd, Nat.reduceMul]
      refine Settle.now ?_
      simp (disch := first | assumption | (apply Ap.symm; assumption) | omega | decide | (simp only [Xd] <;> omega)) only [cells_i2, rs202, ↓Xa, Xb, Xc, ↓reduceIte, Nat.reduceLT, Nat.reduceEqDiff, Nat.reduceBEq, Nat.reduceLeDiff, Nat.reduceAdd, Nat.reduceMul]
      rw [hd2, ← hd1]
      exact fin (.inr (.inr (.inr ⟨by omega, hg, rfl⟩)))
    | cons x m =>
      generalize hm : x :: m = y at *
      have hy0 : 0 < y.length := by rw [← hm]; simp
      simp (disch := first | assumption | (apply Ap.symm; assumption) | omega | decide | (simp only [Xd] <;> omega)) only [len_Sx, hy0, min_k, slc_SxH, rng_Sx, ↓Xa, Xb, Xc, ↓reduceIte, Nat.reduceLT, Nat.reduceEqDiff, Nat.reduceBEq, Nat.reduceLeDiff, Nat.reduceAdd, Nat.reduceMul]
      refine rng_i fun q hq' => ?_
      obtain ⟨a1, a2⟩ := upd_none.1 hq'
      obtain ⟨n, hn⟩ : ∃ n, n = min y.length 9 := ⟨_, rfl⟩
      rw [← hn]
      obtain ⟨z, hz⟩ : ∃ z, z = y.take n := ⟨_, rfl⟩
      rw [← hz]
      have hzl : z.length = n := by rw [hz, List.length_take]; omega
      have hzd : ∀ b, b ∈ z → isDig b := fun b hb => hg.2.1 b (by rw [hd1]; exact List.mem_append_right _ (List.mem_of_mem_take (hz ▸ hb)))
      have p9 : ∀ k, k ≤ 9 → 10 ^ k ≤ 1000000000 := fun k hk => Nat.le_trans (Nat.pow_le_pow_right (by omega) hk) (by decide)
      simp (disch := first | assumption | (apply Ap.symm; assumption) | omega | decide | (simp only [Xd] <;> omega)) only [↓Xa, Xb, Xc, ↓reduceIte, Nat.reduceLT, Nat.reduceEqDiff, Nat.reduceBEq, Nat.reduceLeDiff, Nat.reduceAdd, Nat.reduceMul]
      refine W_loop (fun s : Nat => ⟨[], [(0, Sx y), (3, .ptr p1 2 0), (5, LS (Ma.digs 4294967296 v) true), (6, .int .i64 (n : Nat)), (7, .int .u32 ((decV (z.take s) : Nat) : Int)), (8, .int .u32 ((10 ^ s : Nat) : Int)), (54, .ptr q 0 0)],
        (H.upd p1 (some (.row 105 0 [.int .i64 ((0 : Nat) : Int), .int .i64 ((0 : Nat) : Int)]))).upd q (some (.raw (.stringIter ⟨z.toArray⟩ s)))⟩) (fun s => s ≤ n) (fun s => n - s) 0 (Settle.now rfl) (Nat.zero_le _) ?_
      intro i hin
      have hzt : ∀ k, ∀ b, b ∈ z.take k → b.toNat ≤ 57 := fun k b hb => (hzd b (List.mem_of_mem_take hb)).2
      have hvt : decV (z.take i) < 10 ^ i := by
        have := decV_lt (hzt i)
        rwa [List.length_take, Nat.min_eq_left (by omega)] at this
      by_cases hi2 : i < n
      · have hzi : i < z.length := by omega
        have hdg := hzd _ (List.getElem_mem hzi)
        have eg : z.getD i 0 = z[i] := by rw [List.getD_eq_getElem?_getD, List.getElem?_eq_getElem hzi, Option.getD_some]
        rw [← eg] at hdg
        unfold isDig at hdg
        have h128 : (z.getD i 0).toNat < 128 := by omega
        have h10 := p9 i (by omega)
        have h11 := p9 (i + 1) (by omega)
        have hsucc : decV (z.take (i + 1)) = 10 * decV (z.take i) + ((z.getD i 0).toNat - 48) := by
          have : z.take (i + 1) = z.take i ++ [z.getD i 0] := by
            rw [List.take_add_one, List.getElem?_eq_getElem hzi, eg]; rfl
          rw [this, decV_app, decV_one]; simp
        rw [Nat.pow_succ] at h11
        simp (disch := first | assumption | (apply Ap.symm; assumption) | omega | decide | (simp only [Xd] <;> omega)) only [nxt_Sl, wn_i32, ↓Xa, Xb, Xc, ↓reduceIte, Nat.reduceLT, Nat.reduceEqDiff, Nat.reduceBEq, Nat.reduceLeDiff, Nat.reduceAdd, Nat.reduceMul]
        refine Settle.now ⟨i + 1, by omega, by omega, ?_⟩
        rw [hsucc, Nat.pow_succ]
        done
      · obtain rfl : i = n := by omega
        rw [List.take_of_length_le (by omega)] at hvt ⊢
        have hge : z.length ≤ i := by omega
        simp (disch := first | assumption | (apply Ap.symm; assumption) | omega | decide | (simp only [Xd] <;> omega)) only [nxt_Sg, ↓Xa, Xb, Xc, ↓reduceIte, Nat.reduceLT, Nat.reduceEqDiff, Nat.reduceBEq, Nat.reduceLeDiff, Nat.reduceAdd, Nat.reduceMul]
        refine Settle.now ?_
        simp (disch := first | assumption | (apply Ap.symm; assumption) | omega | decide | (simp only [Xd] <;> omega)) only [↓Xa, Xb, Xc, ↓reduceIte, Nat.reduceLT, Nat.reduceEqDiff, Nat.reduceBEq, Nat.reduceLeDiff, Nat.reduceAdd, Nat.reduceMul]
        have hv : v < 4294967296 ^ 8192 := by
          rw [hd2]
          refine Nat.lt_of_lt_of_le (decV_lt fun b hb => hdig b (by rw [hd1]; exact List.mem_append_left _ hb)) ?_
          exact ten_bound (by omega)
        have h10 := p9 i (by omega)
        refine (muls_n true (Nm.digs hv) (by omega) (by omega)).call ?_
        simp (disch := first | assumption | (apply Ap.symm; assumption) | omega | decide | (simp only [Xd] <;> omega)) only [↓Xa, Xb, Xc, ↓reduceIte, Nat.reduceLT, Nat.reduceEqDiff, Nat.reduceBEq, Nat.reduceLeDiff, Nat.reduceAdd, Nat.reduceMul]
        refine (add_n (b := [decV z]) true true (Nm.digs (lt_mul hv (show 10 ^ i < 4294967296 ^ 1 by omega))) (Nm.one (by omega)) (by omega) (by omega)).call ?_
        simp (disch := first | assumption | (apply Ap.symm; assumption) | omega | decide | (simp only [Xd] <;> omega)) only [slc_SxL, ↓Xa, Xb, Xc, ↓reduceIte, Nat.reduceLT, Nat.reduceEqDiff, Nat.reduceBEq, Nat.reduceLeDiff, Nat.reduceAdd, Nat.reduceMul]
        refine Settle.dropTo ((Le.refl _).updB hq') (Settle.now ⟨(y.drop i, v * 10 ^ i + decV z), ?_, ⟨d ++ z, ?_, ?_⟩, rfl⟩)
        · dsimp only; rw [List.length_drop]; omega
        · dsimp only; rw [hd1, hz, List.append_assoc, List.take_append_drop]
        · dsimp only; rw [hd2, decV_app, hzl]; grind
end Go.Proofs.YtanchgkiomfhhaaDoor.Fw

/- A number's digits gone over, as package limb tells them. -/
namespace Go.Proofs.YtanchgkiomfhhaaDoor.Fw
set_option linter.unusedSimpArgs false
set_option linter.unusedVariables false
open Go Go.Proofs.YtanchgkiomfhhaaDoor.Ma
set_option maxRecDepth 20000

theorem cW_y {P : Program} {b : Nat} {args : List AV} {H : AHeap} {K : AV → AHeap → Prop} : callW P (.yld b) args H K = YieldW P b args H K := id rfl
theorem load_cS {H : AHeap} {l : List UInt8} {K : AV → Prop} : loadW H none (.cptr [Sx l]) K = K (Sx l) := by simp [loadW, cellsAt, Sx]
theorem digits1_iter {l : List UInt8} (hg : ∀ b, b ∈ l → isDig b) (hl : l.length < 4611686018427387904) : IterW Tryd.prog 191 [.cptr [Sx l]] (fun d : Nat => [.int .i64 (d : Int)]) (l.map fun b => b.toNat - 48) := by
  intro b J Jx hy A B hd h0
  refine enter191 (by simp) ?_
  simp (disch := first | assumption | (apply Ap.symm; assumption) | omega | decide | (simp only [Xd] <;> omega)) only [ac191, rng_Sx, load_cS, ↓Xa, Xb, Xc, ↓reduceIte, Nat.reduceLT, Nat.reduceEqDiff, Nat.reduceBEq, Nat.reduceLeDiff, Nat.reduceAdd, Nat.reduceMul]
  refine rng_i fun q hq => ?_
  obtain ⟨qa, qb⟩ := un_none.1 hq
  simp (disch := first | assumption | (apply Ap.symm; assumption) | omega | decide | (simp only [Xd] <;> omega)) only [↓Xa, Xb, Xc, ↓reduceIte, Nat.reduceLT, Nat.reduceEqDiff, Nat.reduceBEq, Nat.reduceLeDiff, Nat.reduceAdd, Nat.reduceMul]
  refine W_loop (fun s : Nat × AHeap => ⟨[], [(0, .yld b), (6, .ptr q 0 0)], (Un s.2 B).upd q (some (.raw (.stringIter ⟨l.toArray⟩ s.1)))⟩) (fun s => s.1 ≤ l.length ∧ Dj s.2 B ∧ s.2 q = none ∧ J ((l.map fun b => b.toNat - 48).take s.1) s.2) (fun s => l.length - s.1) (0, A) (Settle.now rfl) ⟨Nat.zero_le _, hd, qa, by simpa using h0⟩ ?_
  rintro ⟨i, A1⟩ ⟨hi, hd1, hq1, hj⟩
  dsimp only at hi hd1 hq1 hj ⊢
  by_cases h : i < l.length
  · have hdg := hg _ (List.getElem_mem h)
    have eg : l.getD i 0 = l[i] := by rw [List.getD_eq_getElem?_getD, List.getElem?_eq_getElem h, Option.getD_some]
    rw [← eg] at hdg
    unfold isDig at hdg
    have h128 : (l.getD i 0).toNat < 128 := by omega
    have hx : (l.map fun b => b.toNat - 48) = (l.map fun b => b.toNat - 48).take i ++ ((l.getD i 0).toNat - 48) :: (l.map fun b => b.toNat - 48).drop (i + 1) := by
      conv => lhs; rw [← List.take_append_drop i (l.map fun b => b.toNat - 48)]
      rw [List.drop_eq_getElem_cons (by simpa using h), List.getElem_map, eg]
    have hx2 : (l.map fun b => b.toNat - 48).take (i + 1) = (l.map fun b => b.toNat - 48).take i ++ [(l.getD i 0).toNat - 48] := by
      rw [List.take_add_one, List.getElem?_map, List.getElem?_eq_getElem h, eg]; rfl
    simp (disch := first | assumption | (apply Ap.symm; assumption) | omega | decide | (simp only [Xd] <;> omega)) only [nxt_Sl, wn_i32, cW_y, ↓Xa, Xb, Xc, ↓reduceIte, Nat.reduceLT, Nat.reduceEqDiff, Nat.reduceBEq, Nat.reduceLeDiff, Nat.reduceAdd, Nat.reduceMul]
    rw [← un_updR hq1]
    refine (hy _ _ _ A1 (B.upd q (some (.raw (.stringIter ⟨l.toArray⟩ (i + 1))))) hx (dj_updR hd1 hq1) hj).mono ?_
    rintro r H' ⟨A2, hd2, rfl, (⟨rfl, hj2⟩ | ⟨rfl, hj2⟩)⟩
    · have hq2 : A2 q = none := dj_atR hd2 (upd_same _ _ _)
      rw [un_updR hq2]
      simp (disch := first | assumption | (apply Ap.symm; assumption) | omega | decide | (simp only [Xd] <;> omega)) only [↓Xa, Xb, Xc, ↓reduceIte, Nat.reduceLT, Nat.reduceEqDiff, Nat.reduceBEq, Nat.reduceLeDiff, Nat.reduceAdd, Nat.reduceMul]
      refine Settle.keep [0, 6] ⟨(i + 1, A2), by dsimp only; omega, ⟨by dsimp only; omega, ?_, hq2, by dsimp only; rw [hx2]; exact hj2⟩, rfl⟩
      intro k
      by_cases e : k = q
      · subst e; exact .inl hq2
      · have := hd2 k
        rwa [upd_other _ _ e] at this
    · have hq2 : A2 q = none := dj_atR hd2 (upd_same _ _ _)
      have hd3 : Dj A2 B := fun k => by
        by_cases e : k = q
        · subst e; exact .inl hq2
        · have := hd2 k
          rwa [upd_other _ _ e] at this
      rw [un_updR hq2]
      simp (disch := first | assumption | (apply Ap.symm; assumption) | omega | decide | (simp only [Xd] <;> omega)) only [rs191, ↓Xa, Xb, Xc, ↓reduceIte, Nat.reduceLT, Nat.reduceEqDiff, Nat.reduceBEq, Nat.reduceLeDiff, Nat.reduceAdd, Nat.reduceMul]
      refine SetR.dropTo ((Le.refl _).upd (un_none.2 ⟨hq2, qb⟩)) (SetR.now ⟨A2, hd3, rfl, .inr hj2⟩)
  · obtain rfl : i = l.length := by omega
    simp (disch := first | assumption | (apply Ap.symm; assumption) | omega | decide | (simp only [Xd] <;> omega)) only [nxt_Sg, ↓Xa, Xb, Xc, ↓reduceIte, Nat.reduceLT, Nat.reduceEqDiff, Nat.reduceBEq, Nat.reduceLeDiff, Nat.reduceAdd, Nat.reduceMul]
    refine Settle.now ?_
    simp (disch := first | assumption | (apply Ap.symm; assumption) | omega | decide | (simp only [Xd] <;> omega)) only [rs191, ↓Xa, Xb, Xc, ↓reduceIte, Nat.reduceLT, Nat.reduceEqDiff, Nat.reduceBEq, Nat.reduceLeDiff, Nat.reduceAdd, Nat.reduceMul]
    rw [List.take_of_length_le (by simp)] at hj
    refine SetR.dropTo ((Le.refl _).upd (un_none.2 ⟨hq1, qb⟩)) (SetR.now ⟨A1, hd1, rfl, .inl hj⟩)
theorem digits_fn {l : List Nat} (t : Bool) (hl : Lim 4294967296 l) (hn : l.length ≤ 1099511627776) : PFn Tryd.prog 132 [LS l t] (.fn (.func 191) [] [.cptr [Sx (decT (val 4294967296 l))]]) := by
  intro H Q hq
  refine enter132 (by simp) ?_
  simp (disch := first | assumption | (apply Ap.symm; assumption) | omega | decide | (simp only [Xd] <;> omega)) only [ac132, ↓Xa, Xb, Xc, ↓reduceIte, Nat.reduceLT, Nat.reduceEqDiff, Nat.reduceBEq, Nat.reduceLeDiff, Nat.reduceAdd, Nat.reduceMul]
  refine (text_fn t hl hn).call ?_
  simp (disch := first | assumption | (apply Ap.symm; assumption) | omega | decide | (simp only [Xd] <;> omega)) only [↓Xa, Xb, Xc, ↓reduceIte, Nat.reduceLT, Nat.reduceEqDiff, Nat.reduceBEq, Nat.reduceLeDiff, Nat.reduceAdd, Nat.reduceMul]
  refine alloc_i fun p1 hp1 => ?_
  have n1 := hp1
  simp (disch := first | assumption | (apply Ap.symm; assumption) | omega | decide | (simp only [Xd] <;> omega)) only [cells_Sx, rs132, ↓Xa, Xb, Xc, ↓reduceIte, Nat.reduceLT, Nat.reduceEqDiff, Nat.reduceBEq, Nat.reduceLeDiff, Nat.reduceAdd, Nat.reduceMul]
  refine SetR.frzP p1 (upd_same _ _ _) ?_
  rw [upd_upd, upd_back _ n1]
  simp [frzP, frzP1]
  exact SetR.now hq
end Go.Proofs.YtanchgkiomfhhaaDoor.Fw

/- What package integer computes: making, signs, comparing, sums, products. -/
namespace Go.Proofs.YtanchgkiomfhhaaDoor.Fw
set_option linter.unusedSimpArgs false
set_option linter.unusedVariables false
open Go Go.Proofs.YtanchgkiomfhhaaDoor.Ma
set_option maxRecDepth 20000

def IntA (z : Int) : AV := .agg [.bool (decide (z < 0)), LS (digs 4294967296 z.natAbs) true]
def sg (neg : Bool) (n : Nat) : Int := if neg then -(n : Int) else n
theorem sg_abs (neg : Bool) (n : Nat) : (sg neg n).natAbs = n := by cases neg <;> simp [sg]
theorem sg_neg (neg : Bool) (n : Nat) : decide (sg neg n < 0) = (neg && decide (0 < n)) := by cases neg <;> simp [sg] <;> omega
theorem sg_self (z : Int) : sg (decide (z < 0)) z.natAbs = z := by unfold sg; by_cases h : z < 0 <;> simp [h]; omega; omega
theorem IntA_sg (neg : Bool) (n : Nat) : IntA (sg neg n) = .agg [.bool (neg && decide (0 < (digs 4294967296 n).length)), LS (digs 4294967296 n) true] := by
  simp only [IntA, sg_abs, sg_neg, digs_pos_len (B := 4294967296) (n := n) (by omega)]

def IntB (z : Int) : AV := .bool (decide (z < 0))
def IntD (z : Int) : AV := LS (digs 4294967296 z.natAbs) true
theorem IntA_eq {z : Int} : IntA z = .agg [IntB z, IntD z] := id rfl
theorem cells_IntA {z : Int} : (IntA z).cells = some [IntB z, IntD z] := id rfl
theorem fold_IntA {z : Int} : AV.agg [IntB z, IntD z] = IntA z := id rfl
theorem IntA_0 : AV.agg [.bool false, .seq 0 [] true] = IntA 0 := by simp [IntA, digs_zero, LS, U]
theorem made_fn (neg : Bool) (n : Nat) (hl : (digs 4294967296 n).length ≤ 1099511627776) : PFn Tryd.prog 137 [.bool neg, LS (digs 4294967296 n) true] (IntA (sg neg n)) := by
  intro H Q hq
  refine enter137 (by simp) ?_
  rw [IntA_sg] at hq
  simp (disch := first | assumption | (apply Ap.symm; assumption) | omega | decide | (simp only [Xd] <;> omega)) only [ac137, ↓Xa, Xb, Xc, ↓reduceIte, Nat.reduceLT, Nat.reduceEqDiff, Nat.reduceBEq, Nat.reduceLeDiff, Nat.reduceAdd, Nat.reduceMul]
  refine alloc_i fun p hp => ?_
  cases neg
  · simp (disch := first | assumption | (apply Ap.symm; assumption) | omega | decide | (simp only [Xd] <;> omega)) only [rs137, ↓Xa, Xb, Xc, ↓reduceIte, Nat.reduceLT, Nat.reduceEqDiff, Nat.reduceBEq, Nat.reduceLeDiff, Nat.reduceAdd, Nat.reduceMul]
    exact SetR.dropTo ((Le.refl H).upd hp) (SetR.now hq)
  · simp (disch := first | assumption | (apply Ap.symm; assumption) | omega | decide | (simp only [Xd] <;> omega)) only [rs137, ↓Xa, Xb, Xc, ↓reduceIte, Nat.reduceLT, Nat.reduceEqDiff, Nat.reduceBEq, Nat.reduceLeDiff, Nat.reduceAdd, Nat.reduceMul]
    exact SetR.dropTo ((Le.refl H).upd hp) (SetR.now hq)

def Bd (k : Nat) (z : Int) : Prop := z.natAbs < 4294967296 ^ k
theorem Bd.len {k : Nat} {z : Int} (h : Bd k z) : (digs 4294967296 z.natAbs).length ≤ k := digs_len (by omega) k _ h
theorem Bd.mono {k k' : Nat} {z : Int} (h : Bd k z) (hk : k ≤ k') : Bd k' z := Nat.lt_of_lt_of_le h (Nat.pow_le_pow_right (by omega) hk)
theorem Bd.neg {k : Nat} {z : Int} (h : Bd k z) : Bd k (-z) := by unfold Bd at *; omega
theorem Bd.sgn {k n : Nat} {b : Bool} (h : n < 4294967296 ^ k) : Bd k (sg b n) := by unfold Bd; rw [sg_abs]; exact h
theorem Bd.abs {k : Nat} {z : Int} (h : Bd k z) : Bd k (z.natAbs : Int) := by unfold Bd at *; omega
theorem Bd.add {k : Nat} {x y : Int} (h : Bd k x) (h' : Bd k y) : Bd (k + 1) (x + y) := by
  unfold Bd at *; rw [Nat.pow_succ]; omega
theorem Bd.sub {k : Nat} {x y : Int} (h : Bd k x) (h' : Bd k y) : Bd (k + 1) (x - y) := by
  unfold Bd at *; rw [Nat.pow_succ]; omega
theorem Bd.mul {k k' : Nat} {x y : Int} (h : Bd k x) (h' : Bd k' y) : Bd (k + k') (x * y) := by
  unfold Bd at *; rw [Int.natAbs_mul, Nat.pow_add]
  exact Nat.mul_lt_mul_of_lt_of_lt h h'
theorem Bd.of_val {l : List Nat} {b : Bool} (h : Lim 4294967296 l) : Bd l.length (sg b (val 4294967296 l)) := Bd.sgn (val_lt h)
theorem Bd.zero (k : Nat) : Bd k 0 := by unfold Bd; exact Nat.pow_pos (by omega)
theorem Bd.i64 {n : Int} (h : -9223372036854775808 ≤ n ∧ n < 9223372036854775808) : Bd 2 n := by unfold Bd; omega

theorem make_fn {l : List Nat} (neg t : Bool) (hl : Lim 4294967296 l) (hn : l.length ≤ 1099511627776) : PFn Tryd.prog 35 [.bool neg, LS l t] (IntA (sg neg (val 4294967296 l))) := by
  intro H Q hq
  refine enter35 (by simp) ?_
  simp (disch := first | assumption | (apply Ap.symm; assumption) | omega | decide | (simp only [Xd] <;> omega)) only [ac35, ↓Xa, Xb, Xc, ↓reduceIte, Nat.reduceLT, Nat.reduceEqDiff, Nat.reduceBEq, Nat.reduceLeDiff, Nat.reduceAdd, Nat.reduceMul]
  refine alloc_i fun p hp => ?_
  simp (disch := first | assumption | (apply Ap.symm; assumption) | omega | decide | (simp only [Xd] <;> omega)) only [↓Xa, Xb, Xc, ↓reduceIte, Nat.reduceLT, Nat.reduceEqDiff, Nat.reduceBEq, Nat.reduceLeDiff, Nat.reduceAdd, Nat.reduceMul]
  refine (norm_fn t (by omega)).call ?_
  rw [tr_digs (by omega) hl]
  simp (disch := first | assumption | (apply Ap.symm; assumption) | omega | decide | (simp only [Xd] <;> omega)) only [↓Xa, Xb, Xc, ↓reduceIte, Nat.reduceLT, Nat.reduceEqDiff, Nat.reduceBEq, Nat.reduceLeDiff, Nat.reduceAdd, Nat.reduceMul]
  refine (made_fn neg _ (by have := tr_len l; rw [tr_digs (by omega) hl] at this; omega)).call ?_
  simp (disch := first | assumption | (apply Ap.symm; assumption) | omega | decide | (simp only [Xd] <;> omega)) only [rs35, IntA, ↓Xa, Xb, Xc, ↓reduceIte, Nat.reduceLT, Nat.reduceEqDiff, Nat.reduceBEq, Nat.reduceLeDiff, Nat.reduceAdd, Nat.reduceMul]
  exact SetR.dropTo ((Le.refl H).upd hp) (SetR.now hq)

theorem of_fn {n : Int} (hn : -9223372036854775808 ≤ n ∧ n < 9223372036854775808) : PFn Tryd.prog 58 [.int .i64 n] (IntA n) := by
  intro H Q hq
  refine enter58 (by simp) ?_
  have v2 : ∀ u : Nat, u < 18446744073709551616 → val 4294967296 [u % 4294967296, u / 2 ^ 32] = u := by
    intro u hu; simp only [val]; omega
  have l2 : ∀ u : Nat, u < 18446744073709551616 → Lim 4294967296 [u % 4294967296, u / 2 ^ 32] := fun u hu => Lim.cons (Nat.mod_lt _ (by omega)) (Lim.one (by omega))
  simp (disch := first | assumption | (apply Ap.symm; assumption) | omega | decide | (simp only [Xd] <;> omega)) only [ac58, ↓Xa, Xb, Xc, ↓reduceIte, Nat.reduceLT, Nat.reduceEqDiff, Nat.reduceBEq, Nat.reduceLeDiff, Nat.reduceAdd, Nat.reduceMul]
  refine alloc_i fun p hp => ?_
  have key' : ∀ (u : Nat) (neg : Bool), u < 18446744073709551616 → sg neg u = n → ∀ {H K}, K (IntA n) H → callW Tryd.prog (.fn (.func 35) [] []) [.bool neg, .seq 2 [.int .u32 ((u % 4294967296 : Nat) : Int), .int .u32 ((u / 2 ^ 32 : Nat) : Int)] true] H K := by
    intro u neg hu hs H K hk
    have := make_fn neg true (l2 u hu) (by simp)
    rw [v2 u hu, hs] at this
    exact this.call hk
  by_cases h0 : n < 0
  · obtain ⟨m, rfl⟩ : ∃ m : Nat, n = -(m : Int) := ⟨n.natAbs, by omega⟩
    have c1 : ∀ K, convW .u64 (.int .i64 (-(m : Int))) K ↔ K (.int .u64 ((18446744073709551616 - m : Nat) : Int)) := fun K => by
      simp only [convW, wmod_u64]; rw [show (-(m : Int)) % 18446744073709551616 = ((18446744073709551616 - m : Nat) : Int) by omega]
    have c2 : ∀ K, unW .neg (.int .u64 ((18446744073709551616 - m : Nat) : Int)) K ↔ K (.int .u64 (m : Int)) := fun K => by
      simp only [unW, wmod_u64]; rw [show (0 - ((18446744073709551616 - m : Nat) : Int)) % 18446744073709551616 = (m : Int) by omega]
    have c3 : ∀ K, binW .lss (.int .i64 (-(m : Int))) (.int .i64 ((0 : Nat) : Int)) K ↔ K (.bool true) := fun K => by
      simp only [binW, binInt, true_and]; rw [decide_eq_true (by omega)]
    simp (disch := first | assumption | (apply Ap.symm; assumption) | omega | decide | (simp only [Xd] <;> omega)) only [c1, c2, c3, ↓Xa, Xb, Xc, ↓reduceIte, Nat.reduceLT, Nat.reduceEqDiff, Nat.reduceBEq, Nat.reduceLeDiff, Nat.reduceAdd, Nat.reduceMul]
    refine key' m true (by omega) (by simp [sg]) ?_
    simp (disch := first | assumption | (apply Ap.symm; assumption) | omega | decide | (simp only [Xd] <;> omega)) only [rs58, IntA, ↓Xa, Xb, Xc, ↓reduceIte, Nat.reduceLT, Nat.reduceEqDiff, Nat.reduceBEq, Nat.reduceLeDiff, Nat.reduceAdd, Nat.reduceMul]
    exact SetR.dropTo ((Le.refl H).upd hp) (SetR.now hq)
  · obtain ⟨m, rfl⟩ : ∃ m : Nat, n = (m : Int) := ⟨n.natAbs, by omega⟩
    simp (disch := first | assumption | (apply Ap.symm; assumption) | omega | decide | (simp only [Xd] <;> omega)) only [↓Xa, Xb, Xc, ↓reduceIte, Nat.reduceLT, Nat.reduceEqDiff, Nat.reduceBEq, Nat.reduceLeDiff, Nat.reduceAdd, Nat.reduceMul]
    refine key' m false (by omega) (by simp [sg]) ?_
    simp (disch := first | assumption | (apply Ap.symm; assumption) | omega | decide | (simp only [Xd] <;> omega)) only [rs58, IntA, ↓Xa, Xb, Xc, ↓reduceIte, Nat.reduceLT, Nat.reduceEqDiff, Nat.reduceBEq, Nat.reduceLeDiff, Nat.reduceAdd, Nat.reduceMul]
    exact SetR.dropTo ((Le.refl H).upd hp) (SetR.now hq)

theorem nilW_nil {g t : Bool} {K : AV → Prop} : nilW g (LS [] t) K ↔ (K (.bool true) ∧ K (.bool false)) := by simp [nilW, LS]
theorem nilW_cons {g t : Bool} {x : Nat} {l : List Nat} {K : AV → Prop} : nilW g (LS (x :: l) t) K ↔ K (.bool g) := by simp [nilW, LS]
theorem clone_fn {l : List Nat} (t : Bool) (hl : l.length ≤ 1099511627776) : PFn Tryd.prog 199 [LS l t] (LS l false) := by
  intro H Q hq
  refine enter199 (by simp) ?_
  cases l with
  | nil =>
    simp (disch := first | assumption | (apply Ap.symm; assumption) | omega | decide | (simp only [Xd] <;> omega)) only [ac199, nilW_nil, ↓Xa, Xb, Xc, ↓reduceIte, Nat.reduceLT, Nat.reduceEqDiff, Nat.reduceBEq, Nat.reduceLeDiff, Nat.reduceAdd, Nat.reduceMul]
    refine ⟨?_, ?_⟩
    · simp (disch := first | assumption | (apply Ap.symm; assumption) | omega | decide | (simp only [Xd] <;> omega)) only [rs199, ↓Xa, Xb, Xc, ↓reduceIte, Nat.reduceLT, Nat.reduceEqDiff, Nat.reduceBEq, Nat.reduceLeDiff, Nat.reduceAdd, Nat.reduceMul]
      exact SetR.loose (SetR.now hq)
    · refine .inl ⟨rfl, rfl, ?_⟩
      refine ⟨rfl, rfl, by simp, by simp, fun _ => ?_, fun e => absurd e (by simp)⟩
      simp (disch := first | assumption | (apply Ap.symm; assumption) | omega | decide | (simp only [Xd] <;> omega)) only [rs199, ↓Xa, Xb, Xc, ↓reduceIte, Nat.reduceLT, Nat.reduceEqDiff, Nat.reduceBEq, Nat.reduceLeDiff, Nat.reduceAdd, Nat.reduceMul]
      exact SetR.loose (SetR.now hq)
  | cons x l =>
    simp (disch := first | assumption | (apply Ap.symm; assumption) | omega | decide | (simp only [Xd] <;> omega)) only [ac199, nilW_cons, ↓Xa, Xb, Xc, ↓reduceIte, Nat.reduceLT, Nat.reduceEqDiff, Nat.reduceBEq, Nat.reduceLeDiff, Nat.reduceAdd, Nat.reduceMul]
    refine app_grow (m := x :: l) (t := t) grow_nil rfl (by simp) (by simp at hl ⊢; omega) fun y H' hg => ?_
    simp (disch := first | assumption | (apply Ap.symm; assumption) | omega | decide | (simp only [Xd] <;> omega)) only [rs199, ↓Xa, Xb, Xc, ↓reduceIte, Nat.reduceLT, Nat.reduceEqDiff, Nat.reduceBEq, Nat.reduceLeDiff, Nat.reduceAdd, Nat.reduceMul]
    exact grow_fin hg hq

theorem limbs_fn {x : Int} {k : Nat} (hx : Bd k x) (hk : k ≤ 549755813888) : PFn Tryd.prog 146 [IntA x] (.tup [.bool (decide (x < 0)), LS (digs 4294967296 x.natAbs) false]) := by
  intro H Q hq
  have hl := hx.len
  refine enter146 (by simp) ?_
  simp (disch := first | assumption | (apply Ap.symm; assumption) | omega | decide | (simp only [Xd] <;> omega)) only [ac146, IntA, ↓Xa, Xb, Xc, ↓reduceIte, Nat.reduceLT, Nat.reduceEqDiff, Nat.reduceBEq, Nat.reduceLeDiff, Nat.reduceAdd, Nat.reduceMul]
  refine alloc_i fun p hp => ?_
  simp (disch := first | assumption | (apply Ap.symm; assumption) | omega | decide | (simp only [Xd] <;> omega)) only [↓Xa, Xb, Xc, ↓reduceIte, Nat.reduceLT, Nat.reduceEqDiff, Nat.reduceBEq, Nat.reduceLeDiff, Nat.reduceAdd, Nat.reduceMul]
  refine PFn.dcall (clone_fn true (by omega)) ?_
  simp (disch := first | assumption | (apply Ap.symm; assumption) | omega | decide | (simp only [Xd] <;> omega)) only [rs146, ↓Xa, Xb, Xc, ↓reduceIte, Nat.reduceLT, Nat.reduceEqDiff, Nat.reduceBEq, Nat.reduceLeDiff, Nat.reduceAdd, Nat.reduceMul]
  exact SetR.dropTo ((Le.refl H).upd hp) (SetR.now hq)

def sgnI (x : Int) : Int := if x = 0 then ((0 : Nat) : Int) else if x < 0 then -1 else ((1 : Nat) : Int)
theorem sign_fn {x : Int} {k : Nat} (hx : Bd k x) (hk : k ≤ 549755813888) : PFn Tryd.prog 27 [IntA x] (.int .i64 (sgnI x)) := by
  intro H Q hq
  have hl := hx.len
  have h0 := digs_len0 (B := 4294967296) (n := x.natAbs) (by omega)
  refine enter27 (by simp) ?_
  simp (disch := first | assumption | (apply Ap.symm; assumption) | omega | decide | (simp only [Xd] <;> omega)) only [ac27, IntA, ↓Xa, Xb, Xc, ↓reduceIte, Nat.reduceLT, Nat.reduceEqDiff, Nat.reduceBEq, Nat.reduceLeDiff, Nat.reduceAdd, Nat.reduceMul]
  refine alloc_i fun p hp => ?_
  by_cases hz : x = 0
  · have h1 : (digs 4294967296 x.natAbs).length = 0 := by rw [h0]; omega
    simp (disch := first | assumption | (apply Ap.symm; assumption) | omega | decide | (simp only [Xd] <;> omega)) only [rs27, h1, ↓Xa, Xb, Xc, ↓reduceIte, Nat.reduceLT, Nat.reduceEqDiff, Nat.reduceBEq, Nat.reduceLeDiff, Nat.reduceAdd, Nat.reduceMul]
    refine SetR.dropTo ((Le.refl H).upd hp) (SetR.now ?_)
    simpa [sgnI, hz] using hq
  · have h1 : ((digs 4294967296 x.natAbs).length = 0) = False := by rw [h0]; simp; omega
    by_cases hn : x < 0
    · simp (disch := first | assumption | (apply Ap.symm; assumption) | omega | decide | (simp only [Xd] <;> omega)) only [rs27, h1, hn, ↓Xa, Xb, Xc, ↓reduceIte, Nat.reduceLT, Nat.reduceEqDiff, Nat.reduceBEq, Nat.reduceLeDiff, Nat.reduceAdd, Nat.reduceMul]
      refine SetR.dropTo ((Le.refl H).upd hp) (SetR.now ?_)
      simpa [sgnI, hz, hn] using hq
    · simp (disch := first | assumption | (apply Ap.symm; assumption) | omega | decide | (simp only [Xd] <;> omega)) only [rs27, h1, hn, ↓Xa, Xb, Xc, ↓reduceIte, Nat.reduceLT, Nat.reduceEqDiff, Nat.reduceBEq, Nat.reduceLeDiff, Nat.reduceAdd, Nat.reduceMul]
      refine SetR.dropTo ((Le.refl H).upd hp) (SetR.now ?_)
      simpa [sgnI, hz, hn] using hq

def cmpI (x y : Int) : Int := if x < y then -1 else if y < x then ((1 : Nat) : Int) else ((0 : Nat) : Int)
theorem addi_fn {x y : Int} {k k' : Nat} (hx : Bd k x) (hk : k ≤ 549755813888) (hy : Bd k' y) (hk' : k' ≤ 549755813888) : PFn Tryd.prog 121 [IntA x, IntA y] (IntA (x + y)) := by
  intro H Q hq
  have hl := hx.len
  have hl' := hy.len
  have vx := val_digs (B := 4294967296) (by omega) x.natAbs
  have vy := val_digs (B := 4294967296) (by omega) y.natAbs
  have lx := lim_digs (B := 4294967296) (by omega) x.natAbs
  have ly := lim_digs (B := 4294967296) (by omega) y.natAbs
  have hxm := hx.mono (Nat.le_max_left k k')
  have hym := hy.mono (Nat.le_max_right k k')
  refine enter121 (by simp) ?_
  simp (disch := first | assumption | (apply Ap.symm; assumption) | omega | decide | (simp only [Xd] <;> omega)) only [ac121, IntA, ↓Xa, Xb, Xc, ↓reduceIte, Nat.reduceLT, Nat.reduceEqDiff, Nat.reduceBEq, Nat.reduceLeDiff, Nat.reduceAdd, Nat.reduceMul]
  refine alloc_i fun p hp => ?_
  simp (disch := first | assumption | (apply Ap.symm; assumption) | omega | decide | (simp only [Xd] <;> omega)) only [↓Xa, Xb, Xc, ↓reduceIte, Nat.reduceLT, Nat.reduceEqDiff, Nat.reduceBEq, Nat.reduceLeDiff, Nat.reduceAdd, Nat.reduceMul]
  refine alloc_i fun p2 hp2 => ?_
  simp (disch := first | assumption | (apply Ap.symm; assumption) | omega | decide | (simp only [Xd] <;> omega)) only [↓Xa, Xb, Xc, ↓reduceIte, Nat.reduceLT, Nat.reduceEqDiff, Nat.reduceBEq, Nat.reduceLeDiff, Nat.reduceAdd, Nat.reduceMul]
  refine alloc_i fun p3 hp3 => ?_
  have hne := (upd_none.1 hp2).1
  have hne3 := (upd_none.1 hp3).1
  have hne4 := (upd_none.1 (upd_none.1 hp3).2).1
  by_cases hs : decide (x < 0) = decide (y < 0)
  · have hsb : (decide (x < 0) == decide (y < 0)) = true := by rw [hs]; simp
    simp (disch := first | assumption | (apply Ap.symm; assumption) | omega | decide | (simp only [Xd] <;> omega)) only [hsb, ↓Xa, Xb, Xc, ↓reduceIte, Nat.reduceLT, Nat.reduceEqDiff, Nat.reduceBEq, Nat.reduceLeDiff, Nat.reduceAdd, Nat.reduceMul]
    refine PFn.dcall (add_fn true true lx ly (by omega) (by omega)) ?_
    rw [vx, vy]
    simp (disch := first | assumption | (apply Ap.symm; assumption) | omega | decide | (simp only [Xd] <;> omega)) only [↓Xa, Xb, Xc, ↓reduceIte, Nat.reduceLT, Nat.reduceEqDiff, Nat.reduceBEq, Nat.reduceLeDiff, Nat.reduceAdd, Nat.reduceMul]
    have hb : Bd (max k k' + 1) (sg (decide (x < 0)) (x.natAbs + y.natAbs)) := Bd.sgn (by unfold Bd at hxm hym; rw [Nat.pow_succ]; omega)
    have hb' := hb.len
    rw [sg_abs] at hb'
    refine (made_fn _ _ (by omega)).call ?_
    simp (disch := first | assumption | (apply Ap.symm; assumption) | omega | decide | (simp only [Xd] <;> omega)) only [rs121, IntA, ↓Xa, Xb, Xc, ↓reduceIte, Nat.reduceLT, Nat.reduceEqDiff, Nat.reduceBEq, Nat.reduceLeDiff, Nat.reduceAdd, Nat.reduceMul]
    have e : x + y = sg (decide (x < 0)) (x.natAbs + y.natAbs) := by
      have := decide_eq_decide.1 hs
      unfold sg; by_cases h : x < 0 <;> simp [h] <;> omega
    rw [e] at hq
    exact SetR.dropTo ((((Le.refl H).upd hp).upd hp2).upd hp3) (SetR.now hq)
  · have hsb : (decide (x < 0) == decide (y < 0)) = false := by simpa using hs
    have hs' : ¬ ((x < 0) ↔ (y < 0)) := fun h => hs (decide_eq_decide.2 h)
    simp (disch := first | assumption | (apply Ap.symm; assumption) | omega | decide | (simp only [Xd] <;> omega)) only [hsb, ↓Xa, Xb, Xc, ↓reduceIte, Nat.reduceLT, Nat.reduceEqDiff, Nat.reduceBEq, Nat.reduceLeDiff, Nat.reduceAdd, Nat.reduceMul]
    refine (cmp_fn true true lx ly).call ?_
    rw [vx, vy]
    by_cases hc : x.natAbs < y.natAbs
    · have c3 : ∀ K, binW .lss (.int .i64 (cmpZ x.natAbs y.natAbs)) (.int .i64 ((0 : Nat) : Int)) K ↔ K (.bool true) := fun K => by
        simp [binW, binInt, cmpZ, hc]
      simp (disch := first | assumption | (apply Ap.symm; assumption) | omega | decide | (simp only [Xd] <;> omega)) only [c3, ↓Xa, Xb, Xc, ↓reduceIte, Nat.reduceLT, Nat.reduceEqDiff, Nat.reduceBEq, Nat.reduceLeDiff, Nat.reduceAdd, Nat.reduceMul]
      refine (sub_fn true true ly lx (by rw [vx, vy]; omega) (by omega) (by omega)).call ?_
      rw [vx, vy]
      simp (disch := first | assumption | (apply Ap.symm; assumption) | omega | decide | (simp only [Xd] <;> omega)) only [↓Xa, Xb, Xc, ↓reduceIte, Nat.reduceLT, Nat.reduceEqDiff, Nat.reduceBEq, Nat.reduceLeDiff, Nat.reduceAdd, Nat.reduceMul]
      have hb : Bd k' (sg (decide (y < 0)) (y.natAbs - x.natAbs)) := Bd.sgn (by unfold Bd at hy; omega)
      have hb' := hb.len
      rw [sg_abs] at hb'
      refine (made_fn _ _ (by omega)).call ?_
      simp (disch := first | assumption | (apply Ap.symm; assumption) | omega | decide | (simp only [Xd] <;> omega)) only [rs121, IntA, ↓Xa, Xb, Xc, ↓reduceIte, Nat.reduceLT, Nat.reduceEqDiff, Nat.reduceBEq, Nat.reduceLeDiff, Nat.reduceAdd, Nat.reduceMul]
      have e : x + y = sg (decide (y < 0)) (y.natAbs - x.natAbs) := by
        unfold sg; by_cases h : y < 0 <;> simp [h] <;> omega
      rw [e] at hq
      exact SetR.dropTo ((((Le.refl H).updB hp).updB (upd_none.1 hp2).2).updB (upd_none.1 (upd_none.1 hp3).2).2) (SetR.now hq)
    · have c3 : ∀ K, binW .lss (.int .i64 (cmpZ x.natAbs y.natAbs)) (.int .i64 ((0 : Nat) : Int)) K ↔ K (.bool false) := fun K => by
        have : ¬ (cmpZ x.natAbs y.natAbs < 0) := by unfold cmpZ; rw [if_neg hc]; split <;> omega
        simp [binW, binInt]; rw [decide_eq_false this]
      simp (disch := first | assumption | (apply Ap.symm; assumption) | omega | decide | (simp only [Xd] <;> omega)) only [c3, ↓Xa, Xb, Xc, ↓reduceIte, Nat.reduceLT, Nat.reduceEqDiff, Nat.reduceBEq, Nat.reduceLeDiff, Nat.reduceAdd, Nat.reduceMul]
      refine (sub_fn true true lx ly (by rw [vx, vy]; omega) (by omega) (by omega)).call ?_
      rw [vx, vy]
      simp (disch := first | assumption | (apply Ap.symm; assumption) | omega | decide | (simp only [Xd] <;> omega)) only [↓Xa, Xb, Xc, ↓reduceIte, Nat.reduceLT, Nat.reduceEqDiff, Nat.reduceBEq, Nat.reduceLeDiff, Nat.reduceAdd, Nat.reduceMul]
      have hb : Bd k (sg (decide (x < 0)) (x.natAbs - y.natAbs)) := Bd.sgn (by unfold Bd at hx; omega)
      have hb' := hb.len
      rw [sg_abs] at hb'
      refine (made_fn _ _ (by omega)).call ?_
      simp (disch := first | assumption | (apply Ap.symm; assumption) | omega | decide | (simp only [Xd] <;> omega)) only [rs121, IntA, ↓Xa, Xb, Xc, ↓reduceIte, Nat.reduceLT, Nat.reduceEqDiff, Nat.reduceBEq, Nat.reduceLeDiff, Nat.reduceAdd, Nat.reduceMul]
      have e : x + y = sg (decide (x < 0)) (x.natAbs - y.natAbs) := by
        unfold sg; by_cases h : x < 0 <;> simp [h] <;> omega
      rw [e] at hq
      exact SetR.dropTo ((((Le.refl H).upd hp).upd hp2).upd hp3) (SetR.now hq)

end Go.Proofs.YtanchgkiomfhhaaDoor.Fw

/- A whole number's text, as package integer tells it. -/
namespace Go.Proofs.YtanchgkiomfhhaaDoor.Fw
set_option linter.unusedSimpArgs false
set_option linter.unusedVariables false
open Go Go.Proofs.YtanchgkiomfhhaaDoor.Ma
set_option maxRecDepth 20000

def iText (z : Int) : List UInt8 := (if z < 0 then [45] else []) ++ decT z.natAbs
theorem Bt_app (l m : List UInt8) : Bt (l ++ m) = Bt l ++ Bt m := by simp [Bt]
theorem Bt_one {n : Nat} (h : n < 256) : [AV.int .u8 (n : Int)] = Bt [UInt8.ofNat n] := by
  simp only [Bt, List.map_cons, List.map_nil]
  rw [UInt8.toNat_ofNat', Nat.mod_eq_of_lt (by omega)]
theorem decT_len {n k : Nat} (h : n < 10 ^ k) (hk : 0 < k) : (decT n).length ≤ k := by
  unfold decT; split
  · simp; omega
  · exact dec_len h
theorem decT_bd {x : Int} {k : Nat} (hx : Bd k x) : (decT x.natAbs).length ≤ 10 * k + 1 := by
  refine decT_len (Nat.lt_of_lt_of_le hx ?_) (by omega)
  calc 4294967296 ^ k ≤ (10 ^ 10) ^ k := Nat.pow_le_pow_left (by omega) k
    _ = 10 ^ (10 * k) := by rw [Nat.pow_mul]
    _ ≤ 10 ^ (10 * k + 1) := Nat.pow_le_pow_right (by omega) (by omega)
theorem wn_u8' {n : Nat} (h : n < 256) : IntKind.u8.wrap (n : Int) = (n : Int) := by
  unfold IntKind.wrap; simp only [IntKind.bits, IntKind.signed, Bool.false_and, Bool.false_eq_true, if_false]; omega
theorem isDig_chr {b : UInt8} (h : isDig b) : UInt8.ofNat (48 + (b.toNat - 48)) = b := by
  unfold isDig at h
  rw [show 48 + (b.toNat - 48) = b.toNat by omega]; exact UInt8.ofNat_toNat
theorem b2s_B {H0 H : AHeap} {p tb ty : Nat} {l : List UInt8} (h : growB H0 p tb ty 1 l.length (Bt l) H) : ∃ x, H p = some (.row tb 0 [x]) ∧ AV.cells x = some [x] ∧ ∀ H' K, Le H H' → K (Sx l) → b2sW H' x K := by
  obtain ⟨x, hx, hc, _⟩ := growB_get h
  refine ⟨x, hx, ?_, ?_⟩
  · rcases hc with ⟨rfl, _, _⟩ | ⟨_, _, b, rfl, _⟩ <;> rfl
  · intro H' K hle k
    rcases hc with ⟨rfl, h0, hc⟩ | ⟨hn, hl, b, rfl, hb⟩
    · have : l = [] := List.eq_nil_of_length_eq_zero h0
      subst this
      exact ⟨rfl, k⟩
    · rw [Nat.mul_one, b2s_own, hle _ _ hb]
      refine ⟨by simp [Bt_len], rfl, by omega, ?_⟩
      rw [List.drop_zero, List.take_of_length_le (by simp [Bt_len]), bytesOf_Bt]
      exact k
def chD (d : Nat) : UInt8 := UInt8.ofNat (48 + d)
theorem chD_back : ∀ {l : List UInt8}, (∀ b, b ∈ l → isDig b) → (l.map fun b => b.toNat - 48).map chD = l := by
  intro l h
  rw [List.map_map]
  conv => rhs; rw [← List.map_id l]
  exact List.map_congr_left fun b hb => isDig_chr (h b hb)
theorem itext_fn {x : Int} {k : Nat} (hx : Bd k x) (hk : k ≤ 1000000) : PFn Tryd.prog 28 [IntA x] (Sx (iText x)) := by
  intro H Q hq
  have hdl := hx.len
  have hdt := decT_bd hx
  have hgd := good_decT x.natAbs
  refine enter28 (by simp) ?_
  simp (disch := first | assumption | (apply Ap.symm; assumption) | omega | decide | (simp only [Xd] <;> omega)) only [ac28, IntA, ↓Xa, Xb, Xc, ↓reduceIte, Nat.reduceLT, Nat.reduceEqDiff, Nat.reduceBEq, Nat.reduceLeDiff, Nat.reduceAdd, Nat.reduceMul]
  refine alloc_i fun p1 hp1 => ?_
  have n1 := hp1
  simp (disch := first | assumption | (apply Ap.symm; assumption) | omega | decide | (simp only [Xd] <;> omega)) only [↓Xa, Xb, Xc, ↓reduceIte, Nat.reduceLT, Nat.reduceEqDiff, Nat.reduceBEq, Nat.reduceLeDiff, Nat.reduceAdd, Nat.reduceMul]
  refine alloc_i fun p2 hp2 => ?_
  have n2 := hp2
  simp only [upd_none] at n2
  obtain ⟨_, n2⟩ := n2
  obtain ⟨neg, hneg⟩ : ∃ b, b = decide (x < 0) := ⟨_, rfl⟩
  rw [← hneg] at hp2 ⊢
  have tail : ∀ (pre : List UInt8) (H2 : AHeap) (v : Env), (v = [] ∨ v = [(6, .bool false)]) → pre.length ≤ 1 → pre ++ decT x.natAbs = iText x → growB (H.upd p1 (some (.row 28 0 [.bool neg, LS (digs 4294967296 x.natAbs) true]))) p2 103 5 1 pre.length (Bt pre) H2 →
      W Tryd.prog (sndC (sndC (sndC ac28))) (retN rs28 Q) ⟨[], [(1, .ptr p1 2 0), (2, Sx []), (3, .ptr p2 1 0)] ++ v, H2⟩ := by
    intro pre H2 v hv hp1 hpre hg
    have h1 : H2 p1 = some (.row 28 0 [.bool neg, LS (digs 4294967296 x.natAbs) true]) := by
      obtain ⟨_, _, _, hle⟩ := growB_get hg
      exact hle _ _ (upd_same _ _ _)
    rcases hv with rfl | rfl
    all_goals
     simp (disch := first | assumption | (apply Ap.symm; assumption) | omega | decide | (simp only [Xd] <;> omega)) only [sndC, ac28, h1, ↓Xa, Xb, Xc, ↓reduceIte, Nat.reduceLT, Nat.reduceEqDiff, Nat.reduceBEq, Nat.reduceLeDiff, Nat.reduceAdd, Nat.reduceMul]
     refine (digits_fn true (lim_digs (by omega) _) (by omega)).call ?_
     rw [val_digs (by omega)]
     simp (disch := first | assumption | (apply Ap.symm; assumption) | omega | decide | (simp only [Xd] <;> omega)) only [↓Xa, Xb, Xc, ↓reduceIte, Nat.reduceLT, Nat.reduceEqDiff, Nat.reduceBEq, Nat.reduceLeDiff, Nat.reduceAdd, Nat.reduceMul]
     obtain ⟨A, hd, rfl, hgA⟩ := growB_nu hg
     have hle : Le H (H.upd p1 (some (.row 28 0 [.bool neg, LS (digs 4294967296 x.natAbs) true]))) := (Le.refl H).upd n1
     refine rfn_iter (digits1_iter (fun b hb => hgd.2.1 b hb) (by omega)) (fun _ => rfl) (fun ds A => growB nilH p2 103 5 1 (pre ++ ds.map chD).length (Bt (pre ++ ds.map chD)) A) (fun _ _ => False) A _ hd rfl (by simpa using hgA) ?_ ?_ (fun _ _ _ _ _ _ h => h.elim)
     · intro ds d rest A B hds hdj hj R1 k1
       have hlen := congrArg List.length hds
       have hd10 : d < 10 := by
         have : d ∈ ((decT x.natAbs).map fun b => b.toNat - 48) := by rw [hds]; simp
         obtain ⟨b, hb, rfl⟩ := List.mem_map.1 this
         have := hgd.2.1 b hb
         unfold isDig at this; omega
       simp (disch := first | assumption | (apply Ap.symm; assumption) | omega | decide | (simp only [Xd] <;> omega)) only [setps, ↓Xa, Xb, Xc, ↓reduceIte, Nat.reduceLT, Nat.reduceEqDiff, Nat.reduceBEq, Nat.reduceLeDiff, Nat.reduceAdd, Nat.reduceMul]
       refine k1 _ A hdj fun R2 B1 k2 hd1 => ?_
       obtain ⟨y, hy, happ⟩ := growB_app (m := 1) (bytes := 1) (growB_un hj hd1)
       have e1 : IntKind.i64.wrap ((48 : Nat) + (d : Int)) = ((48 + d : Nat) : Int) := by rw [← Int.natCast_add]; exact wn_i64 (by omega)
       simp (disch := first | assumption | (apply Ap.symm; assumption) | omega | decide | (simp only [Xd] <;> omega)) only [hy, wn_u8', ↓Xa, Xb, Xc, ↓reduceIte, Nat.reduceLT, Nat.reduceEqDiff, Nat.reduceBEq, Nat.reduceLeDiff, Nat.reduceAdd, Nat.reduceMul]
       refine happ rfl rfl (by omega) ?_ ?_ fun x' H' hp hc hg2 => ?_
       · simp at hlen ⊢; omega
       · simp at hlen ⊢; omega
       simp (disch := first | assumption | (apply Ap.symm; assumption) | omega | decide | (simp only [Xd] <;> omega)) only [hp, hc, ↓Xa, Xb, Xc, ↓reduceIte, Nat.reduceLT, Nat.reduceEqDiff, Nat.reduceBEq, Nat.reduceLeDiff, Nat.reduceAdd, Nat.reduceMul]
       refine k2 .normal _ (Settle.now (growB_nu ?_))
       have e : pre ++ (ds ++ [d]).map chD = (pre ++ ds.map chD) ++ [chD d] := by simp
       dsimp only
       rw [e, List.length_append, Bt_app, show Bt [chD d] = [AV.int .u8 ((48 + d : Nat) : Int)] from (Bt_one (by omega)).symm]
       exact hg2
     · intro d A' hdj hA hB hj
       rw [chD_back hgd.2.1, hpre] at hj
       have hj2 := growB_un hj hdj
       obtain ⟨y, hy, hyc, hb2⟩ := b2s_B hj2
       obtain ⟨_, _, _, hle2⟩ := growB_get hj2
       have hdn := un_none.2 ⟨hA, hB⟩
       have hy2 : ((Un A' (H.upd p1 (some (.row 28 0 [.bool neg, LS (digs 4294967296 x.natAbs) true])))).upd d (some (.raw (.deferred (some []))))) p2 = some (.row 103 0 [y]) := by
         rw [upd_other _ _ (by rintro rfl; rw [hdn] at hy; cases hy)]; exact hy
       simp (disch := first | assumption | (apply Ap.symm; assumption) | omega | decide | (simp only [Xd] <;> omega)) only [hy2, ↓Xa, Xb, Xc, ↓reduceIte, Nat.reduceLT, Nat.reduceEqDiff, Nat.reduceBEq, Nat.reduceLeDiff, Nat.reduceAdd, Nat.reduceMul]
       refine hb2 _ _ ((Le.refl _).upd hdn) ?_
       simp (disch := first | assumption | (apply Ap.symm; assumption) | omega | decide | (simp only [Xd] <;> omega)) only [rs28, ↓Xa, Xb, Xc, ↓reduceIte, Nat.reduceLT, Nat.reduceEqDiff, Nat.reduceBEq, Nat.reduceLeDiff, Nat.reduceAdd, Nat.reduceMul]
       rw [upd_back _ hdn]
       exact SetR.dropTo (fun b x hb => hle2 _ _ (hle _ _ hb)) (SetR.now hq)
  have g0 := growB_nil (H0 := H.upd p1 (some (.row 28 0 [.bool neg, LS (digs 4294967296 x.natAbs) true]))) (tb := 103) (ty := 5) (es := 1) hp2
  cases neg with
  | true =>
    simp (disch := first | assumption | (apply Ap.symm; assumption) | omega | decide | (simp only [Xd] <;> omega)) only [↓Xa, Xb, Xc, ↓reduceIte, Nat.reduceLT, Nat.reduceEqDiff, Nat.reduceBEq, Nat.reduceLeDiff, Nat.reduceAdd, Nat.reduceMul]
    obtain ⟨y, hy, happ⟩ := growB_app (m := 1) (bytes := 1) g0
    obtain rfl : y = .seq 0 [] true := by rw [upd_same] at hy; injection hy with hy; injection hy with _ _ hy; injection hy with hy; exact hy.symm
    refine happ (by rfl) (by rfl) (by omega) (by omega) (by omega) fun x' H' hp hc hg2 => ?_
    simp (disch := first | assumption | (apply Ap.symm; assumption) | omega | decide | (simp only [Xd] <;> omega)) only [hp, hc, ↓Xa, Xb, Xc, ↓reduceIte, Nat.reduceLT, Nat.reduceEqDiff, Nat.reduceBEq, Nat.reduceLeDiff, Nat.reduceAdd, Nat.reduceMul]
    have tl := tail [45] _ [] (.inl rfl) (by simp) (by simp [iText, of_decide_eq_true hneg.symm]) hg2
    simp (disch := first | assumption | (apply Ap.symm; assumption) | omega | decide | (simp only [Xd] <;> omega)) only [sndC, ac28, ↓Xa, Xb, Xc, ↓reduceIte, Nat.reduceLT, Nat.reduceEqDiff, Nat.reduceBEq, Nat.reduceLeDiff, Nat.reduceAdd, Nat.reduceMul] at tl
    exact tl
  | false =>
    have tl := tail [] _ _ (.inr rfl) (by simp) (by simp [iText, of_decide_eq_false hneg.symm]) g0
    simp (disch := first | assumption | (apply Ap.symm; assumption) | omega | decide | (simp only [Xd] <;> omega)) only [sndC, ac28, ↓Xa, Xb, Xc, ↓reduceIte, Nat.reduceLT, Nat.reduceEqDiff, Nat.reduceBEq, Nat.reduceLeDiff, Nat.reduceAdd, Nat.reduceMul] at tl
    simp (disch := first | assumption | (apply Ap.symm; assumption) | omega | decide | (simp only [Xd] <;> omega)) only [↓Xa, Xb, Xc, ↓reduceIte, Nat.reduceLT, Nat.reduceEqDiff, Nat.reduceBEq, Nat.reduceLeDiff, Nat.reduceAdd, Nat.reduceMul]
    exact tl
end Go.Proofs.YtanchgkiomfhhaaDoor.Fw

/- What the reference computes of whole numbers: digits to the base 65536. -/
namespace Go.Proofs.YtanchgkiomfhhaaDoor.Fw
set_option linter.unusedSimpArgs false
set_option linter.unusedVariables false
open Go Go.Proofs.YtanchgkiomfhhaaDoor.Ma
set_option maxRecDepth 20000

def RefA (z : Int) (t : Bool) : AV := .agg [.bool (decide (z < 0)), LS (digs 65536 z.natAbs) t]
theorem RefA_sg (neg : Bool) (n : Nat) (t : Bool) : RefA (sg neg n) t = .agg [.bool (neg && decide (0 < (digs 65536 n).length)), LS (digs 65536 n) t] := by
  simp only [RefA, sg_abs, sg_neg, digs_pos_len (B := 65536) (n := n) (by omega)]

theorem rnorm_fn {l : List Nat} (neg t : Bool) (hl : Lim 65536 l) (hn : l.length ≤ 8796093022208) : PFn Tryd.prog 139 [.bool neg, LS l t] (RefA (sg neg (val 65536 l)) false) := by
  intro H Q hq
  rw [RefA_sg] at hq
  refine enter139 (by simp) ?_
  simp (disch := first | assumption | (apply Ap.symm; assumption) | omega | decide | (simp only [Xd] <;> omega)) only [ac139, ↓Xa, Xb, Xc, ↓reduceIte, Nat.reduceLT, Nat.reduceEqDiff, Nat.reduceBEq, Nat.reduceLeDiff, Nat.reduceAdd, Nat.reduceMul]
  refine alloc_i fun p hp => ?_
  simp (disch := first | assumption | (apply Ap.symm; assumption) | omega | decide | (simp only [Xd] <;> omega)) only [↓Xa, Xb, Xc, ↓reduceIte, Nat.reduceLT, Nat.reduceEqDiff, Nat.reduceBEq, Nat.reduceLeDiff, Nat.reduceAdd, Nat.reduceMul]
  refine W_loop (fun n : Nat => ⟨[], [(0, .bool neg), (1, LS l t), (4, .ptr p 2 0), (5, .int .i64 n)], H.upd p (some (.row 39 0 [.bool false, .seq 0 [] true]))⟩) (fun n => n ≤ l.length ∧ ∀ i, n ≤ i → i < l.length → l.getD i 0 = 0) id l.length (Settle.now rfl) ⟨Nat.le_refl _, fun i h1 h2 => absurd h1 (by omega)⟩ ?_
  rintro n ⟨h1, hz⟩
  have fin : ∀ ti, (n = 0 ∨ l.getD (n - 1) 0 ≠ 0) → SetR Q (.agg [.bool (neg && decide (0 < n)), LS (l.take n) ti]) (H.upd p (some (.row 39 0 [.bool (neg && decide (0 < n)), LS (l.take n) ti]))) := fun ti h => by
    have e := tr_take h1 hz h
    have e2 : n = (digs 65536 (val 65536 l)).length := by
      have := congrArg List.length e
      rw [List.length_take, Nat.min_eq_left h1, tr_digs (by omega) hl] at this; exact this
    rw [e, tr_digs (by omega) hl, e2]
    exact SetR.dropTo ((Le.refl H).upd hp) (SetR.loose (SetR.now hq))
  have last : (n = 0 ∨ l.getD (n - 1) 0 ≠ 0) → W Tryd.prog (sndC (sndC (sndC ac139))) (retN rs139 Q) ⟨[], [(0, .bool neg), (1, LS l t), (4, .ptr p 2 0), (5, .int .i64 n), (17, .bool false)], H.upd p (some (.row 39 0 [.bool false, .seq 0 [] true]))⟩ := fun h => by
    have f := fun ti => fin ti h
    cases neg
    · simp (disch := first | assumption | (apply Ap.symm; assumption) | omega | decide | (simp only [Xd] <;> omega)) only [ac139, rs139, sndC, ↓Xa, Xb, Xc, ↓reduceIte, Nat.reduceLT, Nat.reduceEqDiff, Nat.reduceBEq, Nat.reduceLeDiff, Nat.reduceAdd, Nat.reduceMul]
      exact f _
    · simp (disch := first | assumption | (apply Ap.symm; assumption) | omega | decide | (simp only [Xd] <;> omega)) only [ac139, rs139, sndC, ↓Xa, Xb, Xc, ↓reduceIte, Nat.reduceLT, Nat.reduceEqDiff, Nat.reduceBEq, Nat.reduceLeDiff, Nat.reduceAdd, Nat.reduceMul]
      exact f _
  by_cases h0 : 0 < n
  · by_cases h2 : l.getD (n - 1) 0 = 0
    · simp (disch := first | assumption | (apply Ap.symm; assumption) | omega | decide | (simp only [Xd] <;> omega)) only [h0, h2, ↓Xa, Xb, Xc, ↓reduceIte, Nat.reduceLT, Nat.reduceEqDiff, Nat.reduceBEq, Nat.reduceLeDiff, Nat.reduceAdd, Nat.reduceMul]
      refine Settle.now ⟨n - 1, ?_, ⟨by omega, fun i hi hl' => ?_⟩, rfl⟩
      · show n - 1 < n; omega
      · rcases Nat.lt_or_ge i n with h | h
        · rw [show i = n - 1 by omega]; exact h2
        · exact hz i h hl'
    · simp (disch := first | assumption | (apply Ap.symm; assumption) | omega | decide | (simp only [Xd] <;> omega)) only [h0, h2, ↓Xa, Xb, Xc, ↓reduceIte, Nat.reduceLT, Nat.reduceEqDiff, Nat.reduceBEq, Nat.reduceLeDiff, Nat.reduceAdd, Nat.reduceMul]
      exact Settle.now (last (.inr h2))
  · simp (disch := first | assumption | (apply Ap.symm; assumption) | omega | decide | (simp only [Xd] <;> omega)) only [h0, ↓Xa, Xb, Xc, ↓reduceIte, Nat.reduceLT, Nat.reduceEqDiff, Nat.reduceBEq, Nat.reduceLeDiff, Nat.reduceAdd, Nat.reduceMul]
    exact Settle.now (last (.inl (by omega)))

theorem rmake_fn {l : List Nat} (neg t : Bool) (hl : Lim 4294967296 l) (hn : l.length ≤ 1099511627776) : PFn Tryd.prog 36 [.bool neg, LS l t] (RefA (sg neg (val 4294967296 l)) false) := by
  intro H Q hq
  refine enter36 (by simp) ?_
  simp (disch := first | assumption | (apply Ap.symm; assumption) | omega | decide | (simp only [Xd] <;> omega)) only [ac36, ↓Xa, Xb, Xc, ↓reduceIte, Nat.reduceLT, Nat.reduceEqDiff, Nat.reduceBEq, Nat.reduceLeDiff, Nat.reduceAdd, Nat.reduceMul]
  refine alloc_i fun p hp => ?_
  simp (disch := first | assumption | (apply Ap.symm; assumption) | omega | decide | (simp only [Xd] <;> omega)) only [↓Xa, Xb, Xc, ↓reduceIte, Nat.reduceLT, Nat.reduceEqDiff, Nat.reduceBEq, Nat.reduceLeDiff, Nat.reduceAdd, Nat.reduceMul]
  refine W_loop (fun s : Nat × List Nat × AV × AHeap => ⟨[], [(0, .bool neg), (1, LS l t), (4, .ptr p 2 0), (5, s.2.2.1), (6, .int .i64 s.1)], s.2.2.2⟩)
    (fun s => s.1 ≤ l.length ∧ grow (H.upd p (some (.row 39 0 [.bool false, .seq 0 [] true]))) 172 s.2.1 s.2.2.1 s.2.2.2 ∧ MakeI l s.1 s.2.1) (fun s => l.length - s.1)
    (0, [], _, _) (Settle.now rfl) ⟨by simp, grow_nil, MakeI.zero l⟩ ?_
  rintro ⟨i, done, x, H'⟩ ⟨h0, hg, h1⟩
  dsimp only at h0 hg h1 ⊢
  have hd := h1.1
  by_cases hi : i < l.length
  · have hx := hl.getD (by omega) i
    simp (disch := first | assumption | (apply Ap.symm; assumption) | omega | decide | (simp only [Xd] <;> omega)) only [hi, ne_eq, Nat.reduceEqDiff, ↓Xa, Xb, Xc, ↓reduceIte, Nat.reduceLT, Nat.reduceEqDiff, Nat.reduceBEq, Nat.reduceLeDiff, Nat.reduceAdd, Nat.reduceMul]
    refine app_grow (m := [l.getD i 0 % 65536, l.getD i 0 / 65536]) hg rfl (by simp) (by simp; omega) fun x' H2 hg2 => ?_
    simp (disch := first | assumption | (apply Ap.symm; assumption) | omega | decide | (simp only [Xd] <;> omega)) only [↓Xa, Xb, Xc, ↓reduceIte, Nat.reduceLT, Nat.reduceEqDiff, Nat.reduceBEq, Nat.reduceLeDiff, Nat.reduceAdd, Nat.reduceMul]
    refine Settle.now ⟨(i + 1, _, _, _), by dsimp only; omega, ⟨by dsimp only; omega, hg2, h1.step hl⟩, rfl⟩
  · obtain rfl : i = l.length := by omega
    simp (disch := first | assumption | (apply Ap.symm; assumption) | omega | decide | (simp only [Xd] <;> omega)) only [hi, ↓Xa, Xb, Xc, ↓reduceIte, Nat.reduceLT, Nat.reduceEqDiff, Nat.reduceBEq, Nat.reduceLeDiff, Nat.reduceAdd, Nat.reduceMul]
    refine Settle.grown 5 rfl hg (Settle.now ?_)
    simp (disch := first | assumption | (apply Ap.symm; assumption) | omega | decide | (simp only [Xd] <;> omega)) only [↓Xa, Xb, Xc, ↓reduceIte, Nat.reduceLT, Nat.reduceEqDiff, Nat.reduceBEq, Nat.reduceLeDiff, Nat.reduceAdd, Nat.reduceMul]
    refine (rnorm_fn neg false h1.2.1 (by omega)).call ?_
    rw [h1.2.2, val_take_all _ _ _ (Nat.le_refl _)]
    simp (disch := first | assumption | (apply Ap.symm; assumption) | omega | decide | (simp only [Xd] <;> omega)) only [rs36, RefA, ↓Xa, Xb, Xc, ↓reduceIte, Nat.reduceLT, Nat.reduceEqDiff, Nat.reduceBEq, Nat.reduceLeDiff, Nat.reduceAdd, Nat.reduceMul]
    exact SetR.dropTo ((Le.refl H).upd hp) (SetR.now hq)

theorem Bd.rlen {k : Nat} {z : Int} (h : Bd k z) : (digs 65536 z.natAbs).length ≤ 2 * k := digs_len (by omega) _ _ (by
  unfold Bd at h; rw [Nat.pow_mul]; exact h)

end Go.Proofs.YtanchgkiomfhhaaDoor.Fw

/- What the reference computes of whole numbers: signs, comparing, sums, products. -/
namespace Go.Proofs.YtanchgkiomfhhaaDoor.Fw
set_option linter.unusedSimpArgs false
set_option linter.unusedVariables false
open Go Go.Proofs.YtanchgkiomfhhaaDoor.Ma
set_option maxRecDepth 20000

theorem rsign_fn {x : Int} {k : Nat} (t : Bool) (hx : Bd k x) (hk : k ≤ 549755813888) : PFn Tryd.prog 119 [RefA x t] (.int .i64 (sgnI x)) := by
  intro H Q hq
  have hl := hx.rlen
  have h0 := digs_len0 (B := 65536) (n := x.natAbs) (by omega)
  refine enter119 (by simp) ?_
  simp (disch := first | assumption | (apply Ap.symm; assumption) | omega | decide | (simp only [Xd] <;> omega)) only [ac119, RefA, ↓Xa, Xb, Xc, ↓reduceIte, Nat.reduceLT, Nat.reduceEqDiff, Nat.reduceBEq, Nat.reduceLeDiff, Nat.reduceAdd, Nat.reduceMul]
  refine alloc_i fun p hp => ?_
  by_cases hz : x = 0
  · have h1 : (digs 65536 x.natAbs).length = 0 := by rw [h0]; omega
    simp (disch := first | assumption | (apply Ap.symm; assumption) | omega | decide | (simp only [Xd] <;> omega)) only [rs119, h1, ↓Xa, Xb, Xc, ↓reduceIte, Nat.reduceLT, Nat.reduceEqDiff, Nat.reduceBEq, Nat.reduceLeDiff, Nat.reduceAdd, Nat.reduceMul]
    refine SetR.dropTo ((Le.refl H).upd hp) (SetR.now ?_)
    simpa [sgnI, hz] using hq
  · have h1 : ((digs 65536 x.natAbs).length = 0) = False := by rw [h0]; simp; omega
    by_cases hn : x < 0
    · simp (disch := first | assumption | (apply Ap.symm; assumption) | omega | decide | (simp only [Xd] <;> omega)) only [rs119, h1, hn, ↓Xa, Xb, Xc, ↓reduceIte, Nat.reduceLT, Nat.reduceEqDiff, Nat.reduceBEq, Nat.reduceLeDiff, Nat.reduceAdd, Nat.reduceMul]
      refine SetR.dropTo ((Le.refl H).upd hp) (SetR.now ?_)
      simpa [sgnI, hz, hn] using hq
    · simp (disch := first | assumption | (apply Ap.symm; assumption) | omega | decide | (simp only [Xd] <;> omega)) only [rs119, h1, hn, ↓Xa, Xb, Xc, ↓reduceIte, Nat.reduceLT, Nat.reduceEqDiff, Nat.reduceBEq, Nat.reduceLeDiff, Nat.reduceAdd, Nat.reduceMul]
      refine SetR.dropTo ((Le.refl H).upd hp) (SetR.now ?_)
      simpa [sgnI, hz, hn] using hq

theorem size_fn (m n : Nat) (ta tb : Bool) (hm : (digs 65536 m).length ≤ 1099511627776) (hn : (digs 65536 n).length ≤ 1099511627776) : PFn Tryd.prog 194 [LS (digs 65536 m) ta, LS (digs 65536 n) tb] (.int .i64 (cmpZ m n)) := by
  intro H Q hq
  have hx := lim_digs (B := 65536) (by omega) m
  have hy := lim_digs (B := 65536) (by omega) n
  have vx := val_digs (B := 65536) (by omega) m
  have vy := val_digs (B := 65536) (by omega) n
  have lt1 := digs_lt_len (B := 65536) (a := m) (b := n) (by omega)
  have lt2 := digs_lt_len (B := 65536) (a := n) (b := m) (by omega)
  generalize digs 65536 m = x at *
  generalize digs 65536 n = y at *
  have less : m < n → SetR Q (.int .i64 (-1)) H := fun h => by
    have : cmpZ m n = -1 := by simp [cmpZ, h]
    rw [← this]; exact SetR.now hq
  have more : n < m → SetR Q (.int .i64 ((1 : Nat) : Int)) H := fun h => by
    have : cmpZ m n = ((1 : Nat) : Int) := by simp [cmpZ, h, Nat.not_lt_of_lt h]
    rw [← this]; exact SetR.now hq
  refine enter194 (by simp) ?_
  by_cases c0 : x.length = y.length
  · simp (disch := first | assumption | (apply Ap.symm; assumption) | omega | decide | (simp only [Xd] <;> omega)) only [ac194, c0, ↓Xa, Xb, Xc, ↓reduceIte, Nat.reduceLT, Nat.reduceEqDiff, Nat.reduceBEq, Nat.reduceLeDiff, Nat.reduceAdd, Nat.reduceMul]
    refine W_loop (fun k : Nat => ⟨[], [(0, LS x ta), (1, LS y tb), (5, .int .i64 (dn k))], H⟩) (fun k => k ≤ x.length ∧ x.drop k = y.drop k) id y.length (Settle.now rfl) ⟨by omega, by rw [List.drop_of_length_le (by omega), List.drop_of_length_le (by omega)]⟩ ?_
    rintro k ⟨hk, hd⟩
    cases k with
    | zero =>
      simp (disch := first | assumption | (apply Ap.symm; assumption) | omega | decide | (simp only [Xd] <;> omega)) only [↓Xa, Xb, Xc, ↓reduceIte, Nat.reduceLT, Nat.reduceEqDiff, Nat.reduceBEq, Nat.reduceLeDiff, Nat.reduceAdd, Nat.reduceMul]
      refine Settle.now ?_
      simp (disch := first | assumption | (apply Ap.symm; assumption) | omega | decide | (simp only [Xd] <;> omega)) only [rs194, ↓Xa, Xb, Xc, ↓reduceIte, Nat.reduceLT, Nat.reduceEqDiff, Nat.reduceBEq, Nat.reduceLeDiff, Nat.reduceAdd, Nat.reduceMul]
      have e : m = n := by rw [← vx, ← vy]; rw [List.drop_zero, List.drop_zero] at hd; rw [hd]
      have : cmpZ m n = ((0 : Nat) : Int) := by simp [cmpZ, e]
      rw [← this]; exact SetR.now hq
    | succ k =>
      by_cases d1 : x.getD k 0 < y.getD k 0
      · simp (disch := first | assumption | (apply Ap.symm; assumption) | omega | decide | (simp only [Xd] <;> omega)) only [d1, rs194, ↓Xa, Xb, Xc, ↓reduceIte, Nat.reduceLT, Nat.reduceEqDiff, Nat.reduceBEq, Nat.reduceLeDiff, Nat.reduceAdd, Nat.reduceMul]
        exact less (by rw [← vx, ← vy]; exact val_lt_high hx (by omega) k (by omega) c0 hd d1)
      by_cases d2 : y.getD k 0 < x.getD k 0
      · simp (disch := first | assumption | (apply Ap.symm; assumption) | omega | decide | (simp only [Xd] <;> omega)) only [d1, d2, rs194, ↓Xa, Xb, Xc, ↓reduceIte, Nat.reduceLT, Nat.reduceEqDiff, Nat.reduceBEq, Nat.reduceLeDiff, Nat.reduceAdd, Nat.reduceMul]
        exact more (by rw [← vx, ← vy]; exact val_lt_high hy (by omega) k (by omega) c0.symm hd.symm d2)
      simp (disch := first | assumption | (apply Ap.symm; assumption) | omega | decide | (simp only [Xd] <;> omega)) only [d1, d2, ↓Xa, Xb, Xc, ↓reduceIte, Nat.reduceLT, Nat.reduceEqDiff, Nat.reduceBEq, Nat.reduceLeDiff, Nat.reduceAdd, Nat.reduceMul]
      refine Settle.now ⟨k, Nat.lt_succ_self k, ⟨by omega, ?_⟩, rfl⟩
      rw [List.drop_eq_getElem_cons (by omega), List.drop_eq_getElem_cons (i := k) (l := y) (by omega), hd]
      congr 1
      have e1 : x.getD k 0 = x[k] := by simp [List.getD_eq_getElem?_getD, List.getElem?_eq_getElem (show k < x.length by omega)]
      have e2 : y.getD k 0 = y[k] := by simp [List.getD_eq_getElem?_getD, List.getElem?_eq_getElem (show k < y.length by omega)]
      omega
  · by_cases c1 : x.length < y.length
    · simp (disch := first | assumption | (apply Ap.symm; assumption) | omega | decide | (simp only [Xd] <;> omega)) only [ac194, c0, c1, rs194, ↓Xa, Xb, Xc, ↓reduceIte, Nat.reduceLT, Nat.reduceEqDiff, Nat.reduceBEq, Nat.reduceLeDiff, Nat.reduceAdd, Nat.reduceMul]
      exact less (lt1 c1)
    · simp (disch := first | assumption | (apply Ap.symm; assumption) | omega | decide | (simp only [Xd] <;> omega)) only [ac194, c0, c1, rs194, ↓Xa, Xb, Xc, ↓reduceIte, Nat.reduceLT, Nat.reduceEqDiff, Nat.reduceBEq, Nat.reduceLeDiff, Nat.reduceAdd, Nat.reduceMul]
      exact more (lt2 (by omega))

theorem rcmp_fn {x y : Int} {k k' : Nat} (tx ty : Bool) (hx : Bd k x) (hk : k ≤ 549755813888) (hy : Bd k' y) (hk' : k' ≤ 549755813888) : PFn Tryd.prog 149 [RefA x tx, RefA y ty] (.int .i64 (cmpI x y)) := by
  intro H Q hq
  have hl := hx.rlen
  have hl' := hy.rlen
  refine enter149 (by simp) ?_
  simp (disch := first | assumption | (apply Ap.symm; assumption) | omega | decide | (simp only [Xd] <;> omega)) only [ac149, RefA, ↓Xa, Xb, Xc, ↓reduceIte, Nat.reduceLT, Nat.reduceEqDiff, Nat.reduceBEq, Nat.reduceLeDiff, Nat.reduceAdd, Nat.reduceMul]
  refine alloc_i fun p hp => ?_
  simp (disch := first | assumption | (apply Ap.symm; assumption) | omega | decide | (simp only [Xd] <;> omega)) only [↓Xa, Xb, Xc, ↓reduceIte, Nat.reduceLT, Nat.reduceEqDiff, Nat.reduceBEq, Nat.reduceLeDiff, Nat.reduceAdd, Nat.reduceMul]
  refine alloc_i fun p2 hp2 => ?_
  have hne := (upd_none.1 hp2).1
  have le := (((Le.refl H).upd hp).upd hp2 (x := some (.row 39 0 [.bool (decide (y < 0)), LS (digs 65536 y.natAbs) ty])))
  simp (disch := first | assumption | (apply Ap.symm; assumption) | omega | decide | (simp only [Xd] <;> omega)) only [↓Xa, Xb, Xc, ↓reduceIte, Nat.reduceLT, Nat.reduceEqDiff, Nat.reduceBEq, Nat.reduceLeDiff, Nat.reduceAdd, Nat.reduceMul]
  refine PFn.dcall (rsign_fn tx hx hk) ?_
  simp (disch := first | assumption | (apply Ap.symm; assumption) | omega | decide | (simp only [Xd] <;> omega)) only [↓Xa, Xb, Xc, ↓reduceIte, Nat.reduceLT, Nat.reduceEqDiff, Nat.reduceBEq, Nat.reduceLeDiff, Nat.reduceAdd, Nat.reduceMul]
  refine (rsign_fn ty hy hk').call ?_
  have cneq : ∀ (a b : Int) (K : AV → Prop), binW .neq (.int .i64 a) (.int .i64 b) K ↔ K (.bool (!decide (a = b))) := fun a b K => by simp [binW, binInt]
  have clss : ∀ (a b : Int) (K : AV → Prop), binW .lss (.int .i64 a) (.int .i64 b) K ↔ K (.bool (decide (a < b))) := fun a b K => by simp [binW, binInt]
  by_cases c0 : sgnI x = sgnI y
  · by_cases c1 : sgnI y < ((0 : Nat) : Int)
    · have c1' := decide_eq_true c1
      simp (disch := first | assumption | (apply Ap.symm; assumption) | omega | decide | (simp only [Xd] <;> omega)) only [c0, c1', clss, cneq, ↓Xa, Xb, Xc, ↓reduceIte, Nat.reduceLT, Nat.reduceEqDiff, Nat.reduceBEq, Nat.reduceLeDiff, Nat.reduceAdd, Nat.reduceMul]
      refine (size_fn y.natAbs x.natAbs ty tx (by omega) (by omega)).call ?_
      have e : cmpI x y = cmpZ y.natAbs x.natAbs := by
        have a1 : x < 0 := by unfold sgnI at c0 c1; split at c1 <;> split at c0 <;> omega
        have a2 : y < 0 := by unfold sgnI at c1; split at c1 <;> omega
        unfold cmpI cmpZ; split <;> split <;> first | rfl | omega | (split <;> first | rfl | omega | (split <;> first | rfl | omega))
      simp (disch := first | assumption | (apply Ap.symm; assumption) | omega | decide | (simp only [Xd] <;> omega)) only [rs149, ↓Xa, Xb, Xc, ↓reduceIte, Nat.reduceLT, Nat.reduceEqDiff, Nat.reduceBEq, Nat.reduceLeDiff, Nat.reduceAdd, Nat.reduceMul]
      exact SetR.dropTo le (SetR.now (e ▸ hq))
    · have c1' := decide_eq_false c1
      simp (disch := first | assumption | (apply Ap.symm; assumption) | omega | decide | (simp only [Xd] <;> omega)) only [c0, c1', clss, cneq, ↓Xa, Xb, Xc, ↓reduceIte, Nat.reduceLT, Nat.reduceEqDiff, Nat.reduceBEq, Nat.reduceLeDiff, Nat.reduceAdd, Nat.reduceMul]
      refine (size_fn x.natAbs y.natAbs tx ty (by omega) (by omega)).call ?_
      have e : cmpI x y = cmpZ x.natAbs y.natAbs := by
        have a2 : 0 ≤ y := by unfold sgnI at c1; split at c1 <;> (try omega)
        have a1 : 0 ≤ x := by unfold sgnI at c0 c1; split at c0 <;> split at c0 <;> (try omega) <;> (split at c0 <;> omega)
        unfold cmpI cmpZ; split <;> split <;> first | rfl | omega | (split <;> first | rfl | omega | (split <;> first | rfl | omega))
      simp (disch := first | assumption | (apply Ap.symm; assumption) | omega | decide | (simp only [Xd] <;> omega)) only [rs149, ↓Xa, Xb, Xc, ↓reduceIte, Nat.reduceLT, Nat.reduceEqDiff, Nat.reduceBEq, Nat.reduceLeDiff, Nat.reduceAdd, Nat.reduceMul]
      exact SetR.dropTo le (SetR.now (e ▸ hq))
  · by_cases c1 : sgnI x < sgnI y
    · have e : cmpI x y = -1 := by
        unfold cmpI; rw [if_pos]; unfold sgnI at c1; split at c1 <;> split at c1 <;> (try omega) <;> (split at c1 <;> omega)
      simp (disch := first | assumption | (apply Ap.symm; assumption) | omega | decide | (simp only [Xd] <;> omega)) only [c0, c1, clss, cneq, rs149, ↓Xa, Xb, Xc, ↓reduceIte, Nat.reduceLT, Nat.reduceEqDiff, Nat.reduceBEq, Nat.reduceLeDiff, Nat.reduceAdd, Nat.reduceMul]
      exact SetR.dropTo le (SetR.now (e ▸ hq))
    · have e : cmpI x y = ((1 : Nat) : Int) := by
        have : y < x := by unfold sgnI at c0 c1; split at c0 <;> split at c0 <;> simp_all <;> (try omega) <;> (split at c0 <;> simp_all <;> omega)
        unfold cmpI; rw [if_neg (by omega), if_pos this]
      simp (disch := first | assumption | (apply Ap.symm; assumption) | omega | decide | (simp only [Xd] <;> omega)) only [c0, c1, clss, cneq, rs149, ↓Xa, Xb, Xc, ↓reduceIte, Nat.reduceLT, Nat.reduceEqDiff, Nat.reduceBEq, Nat.reduceLeDiff, Nat.reduceAdd, Nat.reduceMul]
      exact SetR.dropTo le (SetR.now (e ▸ hq))

end Go.Proofs.YtanchgkiomfhhaaDoor.Fw

/- What the reference computes of whole numbers: sums, differences, products. -/
namespace Go.Proofs.YtanchgkiomfhhaaDoor.Fw
set_option linter.unusedSimpArgs false
set_option linter.unusedVariables false
open Go Go.Proofs.YtanchgkiomfhhaaDoor.Ma
set_option maxRecDepth 20000

end Go.Proofs.YtanchgkiomfhhaaDoor.Fw

/- The laws' own helpers: one number in both, numbers that are too long, one answer that is fixed. -/
namespace Go.Proofs.YtanchgkiomfhhaaDoor.Fw
set_option linter.unusedSimpArgs false
set_option linter.unusedVariables false
open Go Go.Proofs.YtanchgkiomfhhaaDoor.Ma
set_option maxRecDepth 20000

def NumA (q : Bool × List Nat × Bool) : AV := .agg [.bool q.1, LS q.2.1 q.2.2]
def NumC : List (Bool × List Nat × Bool) → List AV
  | [] => []
  | q :: r => .bool q.1 :: LS q.2.1 q.2.2 :: NumC r
def fits (x : Int) : Bool := decide (-9223372036854775808 ≤ x ∧ x < 9223372036854775808)
def smallV (x : Int) : Int := if fits x then x else ((0 : Nat) : Int)
end Go.Proofs.YtanchgkiomfhhaaDoor.Fw

/- The law of sums, as what its code computes: true. -/
namespace Go.Proofs.YtanchgkiomfhhaaDoor.Fw
set_option linter.unusedSimpArgs false
set_option linter.unusedVariables false
open Go Go.Proofs.YtanchgkiomfhhaaDoor.Ma
set_option maxRecDepth 20000

theorem eql_self {k : IntKind} {n : Int} {K : AV → Prop} : binW .eql (.int k n) (.int k n) K ↔ K (.bool true) := by simp [binW, binInt]

end Go.Proofs.YtanchgkiomfhhaaDoor.Fw

/- Sums and products of rows of whole numbers. -/
namespace Go.Proofs.YtanchgkiomfhhaaDoor.Fw
set_option linter.unusedSimpArgs false
set_option linter.unusedVariables false
open Go Go.Proofs.YtanchgkiomfhhaaDoor.Ma
set_option maxRecDepth 20000

def IntC : List Int → List AV
  | [] => []
  | z :: r => .bool (decide (z < 0)) :: LS (digs 4294967296 z.natAbs) true :: IntC r
section
variable {l : List Int} {t : Bool} {H : AHeap} {K : AV → Prop}
end
end Go.Proofs.YtanchgkiomfhhaaDoor.Fw

/- The ring's law, as what its code computes: true. -/
namespace Go.Proofs.YtanchgkiomfhhaaDoor.Fw
set_option linter.unusedSimpArgs false
set_option linter.unusedVariables false
open Go Go.Proofs.YtanchgkiomfhhaaDoor.Ma
set_option maxRecDepth 20000

end Go.Proofs.YtanchgkiomfhhaaDoor.Fw

/- Binary digits; powers. -/
namespace Go.Proofs.YtanchgkiomfhhaaDoor.Fw
set_option linter.unusedSimpArgs false
set_option linter.unusedVariables false
open Go Go.Proofs.YtanchgkiomfhhaaDoor.Ma
set_option maxRecDepth 20000

theorem rbits0_fn (n : Nat) (t : Bool) (hn : (digs 65536 n).length ≤ 1099511627776) : PFn Tryd.prog 192 [LS (digs 65536 n) t] (.int .i64 ((blen n : Nat) : Int)) := by
  intro H Q hq
  refine enter192 (by simp) ?_
  rcases Nat.eq_zero_or_pos n with e | e
  · subst e
    rw [digs_zero] at *
    simp (disch := first | assumption | (apply Ap.symm; assumption) | omega | decide | (simp only [Xd] <;> omega)) only [ac192, rs192, ↓Xa, Xb, Xc, ↓reduceIte, Nat.reduceLT, Nat.reduceEqDiff, Nat.reduceBEq, Nat.reduceLeDiff, Nat.reduceAdd, Nat.reduceMul]
    exact SetR.now hq
  · have hp : 0 < (digs 65536 n).length := by rw [digs_pos (by omega) e]; simp
    have hne : ((digs 65536 n).length = 0) = False := eq_false (by omega)
    have hb := blen_digs (w := 16) (by omega) e
    have hlim := (lim_digs (B := 65536) (by omega) n).getD (by omega) ((digs 65536 n).length - 1)
    have hb16 : blen ((digs 65536 n).getD ((digs 65536 n).length - 1) 0) ≤ 16 := blen_le.2 (by omega)
    change blen n = 16 * ((digs 65536 n).length - 1) + blen ((digs 65536 n).getD ((digs 65536 n).length - 1) 0) at hb
    simp (disch := first | assumption | (apply Ap.symm; assumption) | omega | decide | (simp only [Xd] <;> omega)) only [ac192, hne, ↓Xa, Xb, Xc, ↓reduceIte, Nat.reduceLT, Nat.reduceEqDiff, Nat.reduceBEq, Nat.reduceLeDiff, Nat.reduceAdd, Nat.reduceMul]
    refine W_loop (fun s : Nat × Nat => ⟨[], [(3, .int .i64 s.1), (4, .int .u32 s.2)], H⟩) (fun s => s.1 + blen s.2 = blen n ∧ s.2 < 65536) (fun s => s.2)
      (16 * ((digs 65536 n).length - 1), (digs 65536 n).getD ((digs 65536 n).length - 1) 0) (Settle.now rfl) ⟨hb.symm, hlim⟩ ?_
    rintro ⟨m, u⟩ ⟨h1, h2⟩
    dsimp only at h1 h2 ⊢
    have hbn : blen n ≤ 16 * 1099511627776 + 16 := by omega
    by_cases h0 : 0 < u
    · have hh := blen_half h0
      simp (disch := first | assumption | (apply Ap.symm; assumption) | omega | decide | (simp only [Xd] <;> omega)) only [h0, ne_eq, Nat.reduceEqDiff, ↓Xa, Xb, Xc, ↓reduceIte, Nat.reduceLT, Nat.reduceEqDiff, Nat.reduceBEq, Nat.reduceLeDiff, Nat.reduceAdd, Nat.reduceMul]
      refine Settle.now ⟨(m + 1, u / 2), by dsimp only; omega, ⟨by dsimp only; omega, by dsimp only; omega⟩, rfl⟩
    · obtain rfl : u = 0 := by omega
      rw [blen_zero, Nat.add_zero] at h1
      simp (disch := first | assumption | (apply Ap.symm; assumption) | omega | decide | (simp only [Xd] <;> omega)) only [h0, ↓Xa, Xb, Xc, ↓reduceIte, Nat.reduceLT, Nat.reduceEqDiff, Nat.reduceBEq, Nat.reduceLeDiff, Nat.reduceAdd, Nat.reduceMul]
      refine Settle.now ?_
      simp (disch := first | assumption | (apply Ap.symm; assumption) | omega | decide | (simp only [Xd] <;> omega)) only [rs192, ↓Xa, Xb, Xc, ↓reduceIte, Nat.reduceLT, Nat.reduceEqDiff, Nat.reduceBEq, Nat.reduceLeDiff, Nat.reduceAdd, Nat.reduceMul]
      rw [h1]
      exact SetR.now hq

end Go.Proofs.YtanchgkiomfhhaaDoor.Fw

/- Powers, as the program and the reference have them. -/
namespace Go.Proofs.YtanchgkiomfhhaaDoor.Fw
set_option linter.unusedSimpArgs false
set_option linter.unusedVariables false
open Go Go.Proofs.YtanchgkiomfhhaaDoor.Ma
set_option maxRecDepth 20000

end Go.Proofs.YtanchgkiomfhhaaDoor.Fw

/- The law of powers, as what its code computes: true. -/
namespace Go.Proofs.YtanchgkiomfhhaaDoor.Fw
set_option linter.unusedSimpArgs false
set_option linter.unusedVariables false
open Go Go.Proofs.YtanchgkiomfhhaaDoor.Ma
set_option maxRecDepth 20000

def RefB (z : Int) : AV := .bool (decide (z < 0))
def RefD (z : Int) : AV := LS (digs 65536 z.natAbs) false
theorem cells_RefA {z : Int} : (RefA z false).cells = some [RefB z, RefD z] := id rfl
theorem fold_RefA {z : Int} : AV.agg [RefB z, RefD z] = RefA z false := id rfl

theorem Bd.blen {z : Int} {k : Nat} (h : Bd k z) : Ma.blen z.natAbs ≤ 32 * k := by rw [blen_le, Nat.pow_mul]; exact h
end Go.Proofs.YtanchgkiomfhhaaDoor.Fw

/- Quotients and remainders of whole numbers, as the program has them. -/
namespace Go.Proofs.YtanchgkiomfhhaaDoor.Fw
set_option linter.unusedSimpArgs false
set_option linter.unusedVariables false
open Go Go.Proofs.YtanchgkiomfhhaaDoor.Ma
set_option maxRecDepth 20000

end Go.Proofs.YtanchgkiomfhhaaDoor.Fw

/- What the reference computes on rows of one's own: comparing, taking away, striking high noughts. -/
namespace Go.Proofs.YtanchgkiomfhhaaDoor.Fw
set_option linter.unusedSimpArgs false
set_option linter.unusedVariables false
open Go Go.Proofs.YtanchgkiomfhhaaDoor.Ma
set_option maxRecDepth 20000

theorem cells_o2 {b : Bool} {bb L off n : Nat} {t : Bool} : (AV.agg [.bool b, .own bb L off n t]).cells = some [.bool b, .own bb L off n t] := id rfl
theorem size_own {H : AHeap} {Q : AV → AHeap → Prop} {bb ty L : Nat} (m n : Nat) (ta tb : Bool) (hH : H bb = some (.row ty 1 (U (digs 65536 m)))) (hL : (digs 65536 m).length = L) (hq : Q (.int .i64 (cmpZ m n)) H) (hm : (digs 65536 m).length ≤ 1099511627776) (hn : (digs 65536 n).length ≤ 1099511627776) : Run Tryd.prog 194 [.own bb L 0 L ta, LS (digs 65536 n) tb] H Q := by
  subst hL
  have hx := lim_digs (B := 65536) (by omega) m
  have hy := lim_digs (B := 65536) (by omega) n
  have vx := val_digs (B := 65536) (by omega) m
  have vy := val_digs (B := 65536) (by omega) n
  have lt1 := digs_lt_len (B := 65536) (a := m) (b := n) (by omega)
  have lt2 := digs_lt_len (B := 65536) (a := n) (b := m) (by omega)
  generalize digs 65536 m = x at *
  generalize digs 65536 n = y at *
  have less : m < n → SetR Q (.int .i64 (-1)) H := fun h => by
    have : cmpZ m n = -1 := by simp [cmpZ, h]
    rw [← this]; exact SetR.now hq
  have more : n < m → SetR Q (.int .i64 ((1 : Nat) : Int)) H := fun h => by
    have : cmpZ m n = ((1 : Nat) : Int) := by simp [cmpZ, h, Nat.not_lt_of_lt h]
    rw [← this]; exact SetR.now hq
  refine enter194 (by simp) ?_
  by_cases c0 : x.length = y.length
  · have c0' := c0
    simp (disch := first | assumption | (apply Ap.symm; assumption) | omega | decide | (simp only [Xd] <;> omega)) only [ac194, c0, ↓Xa, Xb, Xc, ↓reduceIte, Nat.reduceLT, Nat.reduceEqDiff, Nat.reduceBEq, Nat.reduceLeDiff, Nat.reduceAdd, Nat.reduceMul]
    refine W_loop (fun k : Nat => ⟨[], [(0, .own bb y.length 0 y.length ta), (1, LS y tb), (5, .int .i64 (dn k))], H⟩) (fun k => k ≤ x.length ∧ x.drop k = y.drop k) id y.length (Settle.now rfl) ⟨by omega, by rw [List.drop_of_length_le (by omega), List.drop_of_length_le (by omega)]⟩ ?_
    rintro k ⟨hk, hd⟩
    cases k with
    | zero =>
      simp (disch := first | assumption | (apply Ap.symm; assumption) | omega | decide | (simp only [Xd] <;> omega)) only [hH, ↓Xa, Xb, Xc, ↓reduceIte, Nat.reduceLT, Nat.reduceEqDiff, Nat.reduceBEq, Nat.reduceLeDiff, Nat.reduceAdd, Nat.reduceMul]
      refine Settle.now ?_
      simp (disch := first | assumption | (apply Ap.symm; assumption) | omega | decide | (simp only [Xd] <;> omega)) only [hH, rs194, ↓Xa, Xb, Xc, ↓reduceIte, Nat.reduceLT, Nat.reduceEqDiff, Nat.reduceBEq, Nat.reduceLeDiff, Nat.reduceAdd, Nat.reduceMul]
      have e : m = n := by rw [← vx, ← vy]; rw [List.drop_zero, List.drop_zero] at hd; rw [hd]
      have : cmpZ m n = ((0 : Nat) : Int) := by simp [cmpZ, e]
      rw [← this]; exact SetR.now hq
    | succ k =>
      by_cases d1 : x.getD k 0 < y.getD k 0
      · simp (disch := first | assumption | (apply Ap.symm; assumption) | omega | decide | (simp only [Xd] <;> omega)) only [hH, d1, rs194, ↓Xa, Xb, Xc, ↓reduceIte, Nat.reduceLT, Nat.reduceEqDiff, Nat.reduceBEq, Nat.reduceLeDiff, Nat.reduceAdd, Nat.reduceMul]
        exact less (by rw [← vx, ← vy]; exact val_lt_high hx (by omega) k (by omega) c0 hd d1)
      by_cases d2 : y.getD k 0 < x.getD k 0
      · simp (disch := first | assumption | (apply Ap.symm; assumption) | omega | decide | (simp only [Xd] <;> omega)) only [hH, d1, d2, rs194, ↓Xa, Xb, Xc, ↓reduceIte, Nat.reduceLT, Nat.reduceEqDiff, Nat.reduceBEq, Nat.reduceLeDiff, Nat.reduceAdd, Nat.reduceMul]
        exact more (by rw [← vx, ← vy]; exact val_lt_high hy (by omega) k (by omega) c0.symm hd.symm d2)
      simp (disch := first | assumption | (apply Ap.symm; assumption) | omega | decide | (simp only [Xd] <;> omega)) only [hH, d1, d2, ↓Xa, Xb, Xc, ↓reduceIte, Nat.reduceLT, Nat.reduceEqDiff, Nat.reduceBEq, Nat.reduceLeDiff, Nat.reduceAdd, Nat.reduceMul]
      refine Settle.now ⟨k, Nat.lt_succ_self k, ⟨by omega, ?_⟩, rfl⟩
      rw [List.drop_eq_getElem_cons (by omega), List.drop_eq_getElem_cons (i := k) (l := y) (by omega), hd]
      congr 1
      have e1 : x.getD k 0 = x[k] := by simp [List.getD_eq_getElem?_getD, List.getElem?_eq_getElem (show k < x.length by omega)]
      have e2 : y.getD k 0 = y[k] := by simp [List.getD_eq_getElem?_getD, List.getElem?_eq_getElem (show k < y.length by omega)]
      omega
  · by_cases c1 : x.length < y.length
    · simp (disch := first | assumption | (apply Ap.symm; assumption) | omega | decide | (simp only [Xd] <;> omega)) only [hH, ac194, c0, c1, rs194, ↓Xa, Xb, Xc, ↓reduceIte, Nat.reduceLT, Nat.reduceEqDiff, Nat.reduceBEq, Nat.reduceLeDiff, Nat.reduceAdd, Nat.reduceMul]
      exact less (lt1 c1)
    · simp (disch := first | assumption | (apply Ap.symm; assumption) | omega | decide | (simp only [Xd] <;> omega)) only [hH, ac194, c0, c1, rs194, ↓Xa, Xb, Xc, ↓reduceIte, Nat.reduceLT, Nat.reduceEqDiff, Nat.reduceBEq, Nat.reduceLeDiff, Nat.reduceAdd, Nat.reduceMul]
      exact more (lt2 (by omega))

theorem minus_own {H : AHeap} {Q : AV → AHeap → Prop} {bb ty L : Nat} (m n : Nat) (ta tb : Bool) (hH : H bb = some (.row ty 1 (U (digs 65536 m)))) (hL : (digs 65536 m).length = L) (hq : ∀ x H', grow H 172 (pad 65536 (m - n) (digs 65536 m).length) x H' → Q x H') (hmn : n ≤ m) (hm : (digs 65536 m).length ≤ 1099511627776) : Run Tryd.prog 195 [.own bb L 0 L ta, LS (digs 65536 n) tb] H Q := by
  subst hL
  have la := lim_digs (B := 65536) (by omega) m
  have lb := lim_digs (B := 65536) (by omega) n
  have va := val_digs (B := 65536) (by omega) m
  have vb := val_digs (B := 65536) (by omega) n
  have hlb : (digs 65536 n).length ≤ (digs 65536 m).length := by
    rcases Nat.lt_or_ge (digs 65536 m).length (digs 65536 n).length with h | h
    · have := digs_lt_len (by omega) h; omega
    · exact h
  refine enter195 (by simp) ?_
  simp (disch := first | assumption | (apply Ap.symm; assumption) | omega | decide | (simp only [Xd] <;> omega)) only [ac195, ↓Xa, Xb, Xc, ↓reduceIte, Nat.reduceLT, Nat.reduceEqDiff, Nat.reduceBEq, Nat.reduceLeDiff, Nat.reduceAdd, Nat.reduceMul]
  refine W_loop (fun s : Nat × Nat × List Nat × AV × AHeap => ⟨[], [(0, .own bb (digs 65536 m).length 0 (digs 65536 m).length ta), (1, LS (digs 65536 n) tb), (5, s.2.2.2.1), (6, .int .u32 s.2.1), (7, .int .i64 s.1)], s.2.2.2.2⟩)
    (fun s => s.1 ≤ (digs 65536 m).length ∧ grow H 172 s.2.2.1 s.2.2.2.1 s.2.2.2.2 ∧ MinI (digs 65536 m) (digs 65536 n) s.1 s.2.1 s.2.2.1) (fun s => (digs 65536 m).length - s.1)
    (0, 0, [], _, _) (Settle.now rfl) ⟨by simp, grow_nil, MinI.zero _ _⟩ ?_
  rintro ⟨i, c, done, x, H'⟩ ⟨g0, hg, h1⟩
  dsimp only at g0 hg h1 ⊢
  have hold := grow_old hg hH
  have hd := h1.1
  have hc := h1.2.2.1
  have hx := la.getD (by omega) i
  have hy := lb.getD (by omega) i
  by_cases hi : i < (digs 65536 m).length
  · by_cases hj : i < (digs 65536 n).length
    · by_cases hv : (digs 65536 m).getD i 0 < c + (digs 65536 n).getD i 0
      · simp (disch := first | assumption | (apply Ap.symm; assumption) | omega | decide | (simp only [Xd] <;> omega)) only [hold, hi, hj, hv, ↓Xa, Xb, Xc, ↓reduceIte, Nat.reduceLT, Nat.reduceEqDiff, Nat.reduceBEq, Nat.reduceLeDiff, Nat.reduceAdd, Nat.reduceMul]
        refine app_grow (m := [(digs 65536 m).getD i 0 + 65536 - (c + (digs 65536 n).getD i 0)]) hg rfl (by simp) (by simp; omega) fun x' H2 hg2 => ?_
        have hold2 := grow_old hg2 hH
        simp (disch := first | assumption | (apply Ap.symm; assumption) | omega | decide | (simp only [Xd] <;> omega)) only [↓Xa, Xb, Xc, ↓reduceIte, Nat.reduceLT, Nat.reduceEqDiff, Nat.reduceBEq, Nat.reduceLeDiff, Nat.reduceAdd, Nat.reduceMul]
        refine Settle.now ⟨(i + 1, 1, _, _, _), by dsimp only; omega, ⟨by dsimp only; omega, hg2, h1.step (c' := 1) (by omega) rfl (by omega) (by omega)⟩, rfl⟩
      · simp (disch := first | assumption | (apply Ap.symm; assumption) | omega | decide | (simp only [Xd] <;> omega)) only [hold, hi, hj, hv, ↓Xa, Xb, Xc, ↓reduceIte, Nat.reduceLT, Nat.reduceEqDiff, Nat.reduceBEq, Nat.reduceLeDiff, Nat.reduceAdd, Nat.reduceMul]
        refine app_grow (m := [(digs 65536 m).getD i 0 - (c + (digs 65536 n).getD i 0)]) hg rfl (by simp) (by simp; omega) fun x' H2 hg2 => ?_
        have hold2 := grow_old hg2 hH
        simp (disch := first | assumption | (apply Ap.symm; assumption) | omega | decide | (simp only [Xd] <;> omega)) only [↓Xa, Xb, Xc, ↓reduceIte, Nat.reduceLT, Nat.reduceEqDiff, Nat.reduceBEq, Nat.reduceLeDiff, Nat.reduceAdd, Nat.reduceMul]
        refine Settle.now ⟨(i + 1, 0, _, _, _), by dsimp only; omega, ⟨by dsimp only; omega, hg2, h1.step (c' := 0) (by omega) rfl (by omega) (by omega)⟩, rfl⟩
    · have b := getD_beyond (show (digs 65536 n).length ≤ i by omega)
      by_cases hv : (digs 65536 m).getD i 0 < c
      · simp (disch := first | assumption | (apply Ap.symm; assumption) | omega | decide | (simp only [Xd] <;> omega)) only [hold, hi, hj, hv, ↓Xa, Xb, Xc, ↓reduceIte, Nat.reduceLT, Nat.reduceEqDiff, Nat.reduceBEq, Nat.reduceLeDiff, Nat.reduceAdd, Nat.reduceMul]
        refine app_grow (m := [(digs 65536 m).getD i 0 + 65536 - c]) hg rfl (by simp) (by simp; omega) fun x' H2 hg2 => ?_
        have hold2 := grow_old hg2 hH
        simp (disch := first | assumption | (apply Ap.symm; assumption) | omega | decide | (simp only [Xd] <;> omega)) only [↓Xa, Xb, Xc, ↓reduceIte, Nat.reduceLT, Nat.reduceEqDiff, Nat.reduceBEq, Nat.reduceLeDiff, Nat.reduceAdd, Nat.reduceMul]
        refine Settle.now ⟨(i + 1, 1, _, _, _), by dsimp only; omega, ⟨by dsimp only; omega, hg2, h1.step (c' := 1) (by omega) rfl (by omega) (by omega)⟩, rfl⟩
      · simp (disch := first | assumption | (apply Ap.symm; assumption) | omega | decide | (simp only [Xd] <;> omega)) only [hold, hi, hj, hv, ↓Xa, Xb, Xc, ↓reduceIte, Nat.reduceLT, Nat.reduceEqDiff, Nat.reduceBEq, Nat.reduceLeDiff, Nat.reduceAdd, Nat.reduceMul]
        refine app_grow (m := [(digs 65536 m).getD i 0 - c]) hg rfl (by simp) (by simp; omega) fun x' H2 hg2 => ?_
        have hold2 := grow_old hg2 hH
        simp (disch := first | assumption | (apply Ap.symm; assumption) | omega | decide | (simp only [Xd] <;> omega)) only [↓Xa, Xb, Xc, ↓reduceIte, Nat.reduceLT, Nat.reduceEqDiff, Nat.reduceBEq, Nat.reduceLeDiff, Nat.reduceAdd, Nat.reduceMul]
        refine Settle.now ⟨(i + 1, 0, _, _, _), by dsimp only; omega, ⟨by dsimp only; omega, hg2, h1.step (c' := 0) (by omega) rfl (by omega) (by omega)⟩, rfl⟩
  · obtain rfl : i = (digs 65536 m).length := by omega
    simp (disch := first | assumption | (apply Ap.symm; assumption) | omega | decide | (simp only [Xd] <;> omega)) only [hold, hi, ↓Xa, Xb, Xc, ↓reduceIte, Nat.reduceLT, Nat.reduceEqDiff, Nat.reduceBEq, Nat.reduceLeDiff, Nat.reduceAdd, Nat.reduceMul]
    refine Settle.now ?_
    simp (disch := first | assumption | (apply Ap.symm; assumption) | omega | decide | (simp only [Xd] <;> omega)) only [rs195, ↓Xa, Xb, Xc, ↓reduceIte, Nat.reduceLT, Nat.reduceEqDiff, Nat.reduceBEq, Nat.reduceLeDiff, Nat.reduceAdd, Nat.reduceMul]
    have e := h1.end la hlb (by omega)
    rw [va, vb] at e
    rw [e] at hg
    exact SetR.now (hq _ _ hg)

theorem rnorm_own {H : AHeap} {Q : AV → AHeap → Prop} {bb ty L : Nat} {l : List Nat} (neg t : Bool) (hH : H bb = some (.row ty 1 (U l))) (hL : l.length = L) (hq : ∀ ti, Q (.agg [.bool (neg && decide (0 < (tr l).length)), .own bb L 0 (tr l).length ti]) H) (hl : Lim 65536 l) (hn : l.length ≤ 8796093022208) : Run Tryd.prog 139 [.bool neg, .own bb L 0 L t] H Q := by
  subst hL
  refine enter139 (by simp) ?_
  simp (disch := first | assumption | (apply Ap.symm; assumption) | omega | decide | (simp only [Xd] <;> omega)) only [ac139, ↓Xa, Xb, Xc, ↓reduceIte, Nat.reduceLT, Nat.reduceEqDiff, Nat.reduceBEq, Nat.reduceLeDiff, Nat.reduceAdd, Nat.reduceMul]
  refine alloc_i fun p hp => ?_
  have hAp : Ap bb p := fun e => by rw [e, hp] at hH; cases hH
  simp (disch := first | assumption | (apply Ap.symm; assumption) | omega | decide | (simp only [Xd] <;> omega)) only [↓Xa, Xb, Xc, ↓reduceIte, Nat.reduceLT, Nat.reduceEqDiff, Nat.reduceBEq, Nat.reduceLeDiff, Nat.reduceAdd, Nat.reduceMul]
  refine W_loop (fun n : Nat => ⟨[], [(0, .bool neg), (1, .own bb l.length 0 l.length t), (4, .ptr p 2 0), (5, .int .i64 n)], H.upd p (some (.row 39 0 [.bool false, .seq 0 [] true]))⟩) (fun n => n ≤ l.length ∧ ∀ i, n ≤ i → i < l.length → l.getD i 0 = 0) id l.length (Settle.now rfl) ⟨Nat.le_refl _, fun i h1 h2 => absurd h1 (by omega)⟩ ?_
  rintro n ⟨h1, hz⟩
  have fin : ∀ ti, (n = 0 ∨ l.getD (n - 1) 0 ≠ 0) → SetR Q (.agg [.bool (neg && decide (0 < n)), .own bb l.length 0 n ti]) (H.upd p (some (.row 39 0 [.bool (neg && decide (0 < n)), .own bb l.length 0 n ti]))) := fun ti h => by
    have e2 : n = (tr l).length := by
      have := congrArg List.length (tr_take h1 hz h)
      rw [List.length_take, Nat.min_eq_left h1] at this; exact this
    have := hq ti
    rw [← e2] at this
    exact SetR.dropTo ((Le.refl H).upd hp) (SetR.now this)
  have last : (n = 0 ∨ l.getD (n - 1) 0 ≠ 0) → W Tryd.prog (sndC (sndC (sndC ac139))) (retN rs139 Q) ⟨[], [(0, .bool neg), (1, .own bb l.length 0 l.length t), (4, .ptr p 2 0), (5, .int .i64 n), (17, .bool false)], H.upd p (some (.row 39 0 [.bool false, .seq 0 [] true]))⟩ := fun h => by
    have f := fun ti => fin ti h
    cases neg
    · simp (disch := first | assumption | (apply Ap.symm; assumption) | omega | decide | (simp only [Xd] <;> omega)) only [hH, cells_o2, ac139, rs139, sndC, ↓Xa, Xb, Xc, ↓reduceIte, Nat.reduceLT, Nat.reduceEqDiff, Nat.reduceBEq, Nat.reduceLeDiff, Nat.reduceAdd, Nat.reduceMul]
      exact f _
    · simp (disch := first | assumption | (apply Ap.symm; assumption) | omega | decide | (simp only [Xd] <;> omega)) only [hH, cells_o2, ac139, rs139, sndC, ↓Xa, Xb, Xc, ↓reduceIte, Nat.reduceLT, Nat.reduceEqDiff, Nat.reduceBEq, Nat.reduceLeDiff, Nat.reduceAdd, Nat.reduceMul]
      exact f _
  by_cases h0 : 0 < n
  · by_cases h2 : l.getD (n - 1) 0 = 0
    · simp (disch := first | assumption | (apply Ap.symm; assumption) | omega | decide | (simp only [Xd] <;> omega)) only [hH, h0, h2, ↓Xa, Xb, Xc, ↓reduceIte, Nat.reduceLT, Nat.reduceEqDiff, Nat.reduceBEq, Nat.reduceLeDiff, Nat.reduceAdd, Nat.reduceMul]
      refine Settle.now ⟨n - 1, ?_, ⟨by omega, fun i hi hl' => ?_⟩, rfl⟩
      · show n - 1 < n; omega
      · rcases Nat.lt_or_ge i n with h | h
        · rw [show i = n - 1 by omega]; exact h2
        · exact hz i h hl'
    · simp (disch := first | assumption | (apply Ap.symm; assumption) | omega | decide | (simp only [Xd] <;> omega)) only [hH, h0, h2, ↓Xa, Xb, Xc, ↓reduceIte, Nat.reduceLT, Nat.reduceEqDiff, Nat.reduceBEq, Nat.reduceLeDiff, Nat.reduceAdd, Nat.reduceMul]
      exact Settle.now (last (.inr h2))
  · simp (disch := first | assumption | (apply Ap.symm; assumption) | omega | decide | (simp only [Xd] <;> omega)) only [hH, h0, ↓Xa, Xb, Xc, ↓reduceIte, Nat.reduceLT, Nat.reduceEqDiff, Nat.reduceBEq, Nat.reduceLeDiff, Nat.reduceAdd, Nat.reduceMul]
    exact Settle.now (last (.inl (by omega)))

end Go.Proofs.YtanchgkiomfhhaaDoor.Fw

/- The reference's division: a bit of a number; division by one digit. -/
namespace Go.Proofs.YtanchgkiomfhhaaDoor.Fw
set_option linter.unusedSimpArgs false
set_option linter.unusedVariables false
open Go Go.Proofs.YtanchgkiomfhhaaDoor.Ma
set_option maxRecDepth 20000

theorem bit_fn (n k : Nat) (t : Bool) (hn : (digs 65536 n).length ≤ 1099511627776) (hk : k / 16 < (digs 65536 n).length) : PFn Tryd.prog 193 [LS (digs 65536 n) t, .int .i64 (k : Int)] (.int .u32 ((n / 2 ^ k % 2 : Nat) : Int)) := by
  intro H Q hq
  have hd := (lim_digs (B := 65536) (by omega) n).getD (by omega) (k / 16)
  have hb := bit_of (n := n) (k := k)
  have hk2 : k < 9223372036854775808 := by omega
  have and1 : ∀ {a : Nat} {K : AV → Prop} (_ : a < 4294967296), binW .and (.int .u32 (a : Int)) (.int .u32 ((1 : Nat) : Int)) K ↔ K (.int .u32 ((a % 2 : Nat) : Int)) := fun {a K} ha => by
    rw [bin_and .u32 (by simpa [IntKind.bits] using ha) (by simp [IntKind.bits]), Nat.and_one_is_mod, wn_u32 (by omega)]
  have hdiv : (digs 65536 n).getD (k / 16) 0 / 2 ^ (k % 16) < 4294967296 := Nat.lt_of_le_of_lt (Nat.div_le_self _ _) (by omega)
  have ht : k % 16 ≤ 32 := by omega
  have hq16 : k / 16 < 9223372036854775808 := by omega
  refine enter193 (by simp) ?_
  simp (disch := first | assumption | (apply Ap.symm; assumption) | omega | decide | (simp only [Xd] <;> omega)) only [ac193, ne_eq, Nat.reduceEqDiff, and1, hb, rs193, ↓Xa, Xb, Xc, ↓reduceIte, Nat.reduceLT, Nat.reduceEqDiff, Nat.reduceBEq, Nat.reduceLeDiff, Nat.reduceAdd, Nat.reduceMul]
  exact SetR.now hq

theorem rdiv_one {m n : Nat} (ta tb : Bool) (hn : 0 < n) (hn1 : n < 65536) (hm : (digs 65536 m).length ≤ 1099511627776) :
    PFn Tryd.prog 133 [LS (digs 65536 m) ta, LS (digs 65536 n) tb] (.tup [LS (digs 65536 (m / n)) false, LS (digs 65536 (m % n)) false]) := by
  intro H Q hq
  have vm := val_digs (B := 65536) (by omega) m
  have lm := lim_digs (B := 65536) (by omega) m
  have hne : (n = 0) = False := eq_false (by omega)
  have hY : digs 65536 n = [n] := by rw [digs_pos (by omega) hn, Nat.mod_eq_of_lt hn1, Nat.div_eq_of_lt hn1, digs_zero]
  rw [hY]
  generalize digs 65536 m = a at *
  refine enter133 (by simp) ?_
  have l1 : ([n] : List Nat).length = 1 := rfl
  have g1 : ([n] : List Nat).getD 0 0 = n := rfl
  simp (disch := first | assumption | (apply Ap.symm; assumption) | omega | decide | (simp only [Xd] <;> omega)) only [ac133, l1, g1, load_LS0, ↓Xa, Xb, Xc, ↓reduceIte, Nat.reduceLT, Nat.reduceEqDiff, Nat.reduceBEq, Nat.reduceLeDiff, Nat.reduceAdd, Nat.reduceMul]
  refine newU_i fun o ho => ?_
  simp (disch := first | assumption | (apply Ap.symm; assumption) | omega | decide | (simp only [Xd] <;> omega)) only [↓Xa, Xb, Xc, ↓reduceIte, Nat.reduceLT, Nat.reduceEqDiff, Nat.reduceBEq, Nat.reduceLeDiff, Nat.reduceAdd, Nat.reduceMul]
  refine W_loop (fun p : Nat × Nat × List Nat => ⟨[], [(0, LS a ta), (1, LS [n] tb), (6, .own o a.length 0 a.length true), (7, .int .u64 p.2.1), (8, .int .i64 (dn p.1))],
      H.upd o (some (.row 172 1 (U p.2.2)))⟩)
    (fun p => p.1 ≤ a.length ∧ DivJ a n p.1 p.2.1 p.2.2) (fun p => p.1) (a.length, 0, List.replicate a.length 0) (Settle.now rfl) ⟨by simp, DivJ.zero a hn⟩ ?_
  rintro ⟨k, r, out⟩ ⟨h1, h2⟩
  dsimp only at h1 h2 ⊢
  have hol := h2.1
  have hr := h2.2.2.1
  cases k with
  | zero =>
    simp (disch := first | assumption | (apply Ap.symm; assumption) | omega | decide | (simp only [Xd] <;> omega)) only [↓Xa, Xb, Xc, ↓reduceIte, Nat.reduceLT, Nat.reduceEqDiff, Nat.reduceBEq, Nat.reduceLeDiff, Nat.reduceAdd, Nat.reduceMul]
    refine Settle.freeze 6 rfl (upd_same _ _ _) (by simp [hol]) (.inr (by simp)) ?_
    have e1 : AV.seq a.length (((U out).drop 0).take (a.length * 1)) true = LS out true := by
      rw [List.drop_zero, Nat.mul_one, ← hol, List.take_of_length_le (by simp)]; rfl
    rw [e1, upd_upd, upd_back _ ho]
    refine Settle.now ?_
    simp (disch := first | assumption | (apply Ap.symm; assumption) | omega | decide | (simp only [Xd] <;> omega)) only [↓Xa, Xb, Xc, ↓reduceIte, Nat.reduceLT, Nat.reduceEqDiff, Nat.reduceBEq, Nat.reduceLeDiff, Nat.reduceAdd, Nat.reduceMul]
    refine (rnorm_fn false true h2.2.1 (by omega)).call ?_
    simp (disch := first | assumption | (apply Ap.symm; assumption) | omega | decide | (simp only [Xd] <;> omega)) only [RefA, ↓Xa, Xb, Xc, ↓reduceIte, Nat.reduceLT, Nat.reduceEqDiff, Nat.reduceBEq, Nat.reduceLeDiff, Nat.reduceAdd, Nat.reduceMul]
    refine (rnorm_fn (l := [r]) false true (Lim.one (by omega)) (by simp)).call ?_
    simp (disch := first | assumption | (apply Ap.symm; assumption) | omega | decide | (simp only [Xd] <;> omega)) only [RefA, rs133, ↓Xa, Xb, Xc, ↓reduceIte, Nat.reduceLT, Nat.reduceEqDiff, Nat.reduceBEq, Nat.reduceLeDiff, Nat.reduceAdd, Nat.reduceMul]
    refine SetR.now ?_
    have e2 := h2.end
    rw [tr_digs (by omega) h2.2.1, vm] at e2
    rw [sg_abs, sg_abs, val_one, e2.1, e2.2]
    exact hq
  | succ k =>
    clear l1 g1 hY vm hne ho
    have hx := lm.getD (by omega) k
    have hs : r * 65536 + a.getD k 0 < 4294967296 := by omega
    have hne : (n = 0) = False := eq_false (by omega)
    have hw : IntKind.u32.wrap (((r * 65536 + a.getD k 0) / n : Nat) : Int) = (((r * 65536 + a.getD k 0) / n : Nat) : Int) := wn_u32 (Nat.lt_of_le_of_lt (Nat.div_le_self _ _) hs)
    have hw2 : IntKind.u64.wrap (((r * 65536 + a.getD k 0) / n : Nat) : Int) = (((r * 65536 + a.getD k 0) / n : Nat) : Int) := wn_u64 (Nat.lt_trans (Nat.lt_of_le_of_lt (Nat.div_le_self _ _) hs) (by decide))
    have hwm : IntKind.u64.wrap ((r * 65536 : Nat) : Int) = ((r * 65536 : Nat) : Int) := wn_u64 (Nat.lt_trans (Nat.lt_of_le_of_lt (Nat.le_add_right _ _) hs) (by decide))
    have hwa : IntKind.u64.wrap ((r * 65536 + a.getD k 0 : Nat) : Int) = ((r * 65536 + a.getD k 0 : Nat) : Int) := wn_u64 (Nat.lt_trans hs (by decide))
    have hd66 : (r * 65536 + a.getD k 0) / n < 65536 := by
      apply Nat.div_lt_of_lt_mul
      have : (r + 1) * 65536 ≤ n * 65536 := Nat.mul_le_mul_right _ hr
      omega
    have hst := h2.step (s := r * 65536 + a.getD k 0) (by omega) lm hn1 rfl
    rw [Nat.mod_eq_of_lt hd66] at hst
    have hqm : (r * 65536 + a.getD k 0) / n % 18446744073709551616 % 4294967296 = (r * 65536 + a.getD k 0) / n := by
      rw [Nat.mod_eq_of_lt (Nat.lt_trans hd66 (by decide)), Nat.mod_eq_of_lt (Nat.lt_trans hd66 (by decide))]
    clear hd66
    generalize hqd : (r * 65536 + a.getD k 0) / n = qd at *
    generalize hrd : (r * 65536 + a.getD k 0) % n = rd at *
    generalize hsd : r * 65536 + a.getD k 0 = sd at *
    simp (disch := first | assumption | (apply Ap.symm; assumption) | omega | decide | (simp only [Xd] <;> omega)) only [hne, ne_eq, List.getD_cons_zero, load_LS0, ↓hwm, ↓hwa, hsd, hqd, hrd, ↓hw, ↓hw2, ↓Xa, Xb, Xc, ↓reduceIte, Nat.reduceLT, Nat.reduceEqDiff, Nat.reduceBEq, Nat.reduceLeDiff, Nat.reduceAdd, Nat.reduceMul]
    exact Settle.now ⟨(k, _, _), by dsimp only; omega, ⟨by dsimp only; omega, hst⟩, rfl⟩
end Go.Proofs.YtanchgkiomfhhaaDoor.Fw

/- The reference's division, bit by bit. -/
namespace Go.Proofs.YtanchgkiomfhhaaDoor.Fw
set_option linter.unusedSimpArgs false
set_option linter.unusedVariables false
open Go Go.Proofs.YtanchgkiomfhhaaDoor.Ma
set_option maxRecDepth 20000

theorem len_growO {H0 H : AHeap} {ty : Nat} {l : List Nat} {x : AV} {K : AV → Prop} (h : growO H0 ty l x H) (hl : l.length < 2 ^ 63) : lenW false x K = K (.int .i64 ((l.length : Nat) : Int)) := by
  rcases h with ⟨rfl, rfl, rfl⟩ | ⟨b, _, rfl, rfl⟩
  · simp [lenW]
  · simp [lenW, hl]

structure LongK (A V M : Nat) (ql : List Nat) : Prop where
  hM : M ≤ blen A
  qlen : ql.length = (digs 65536 A).length
  qlim : Lim 65536 ql
  qval : val 65536 ql = A / 2 ^ M / V * 2 ^ M

theorem rdiv_many {A V : Nat} (ta tb : Bool) (hV : 0 < V) (hV1 : ¬ (digs 65536 V).length = 1) (hA : (digs 65536 A).length ≤ 549755813888) (hVl : (digs 65536 V).length ≤ 549755813888) :
    PFn Tryd.prog 133 [LS (digs 65536 A) ta, LS (digs 65536 V) tb] (.tup [LS (digs 65536 (A / V)) false, LS (digs 65536 (A % V)) false]) := by
  intro H Q hq
  have hbl : blen A ≤ 16 * 549755813888 := by
    rcases Nat.eq_zero_or_pos A with e | e
    · rw [e, blen_zero]; omega
    · have hb : blen A = 16 * ((digs 65536 A).length - 1) + blen ((digs 65536 A).getD ((digs 65536 A).length - 1) 0) := blen_digs (w := 16) (by omega) e
      have hd := (lim_digs (B := 65536) (by omega) A).getD (by omega) ((digs 65536 A).length - 1)
      have hp : 0 < (digs 65536 A).length := by rw [digs_pos (by omega) e]; simp
      have : blen ((digs 65536 A).getD ((digs 65536 A).length - 1) 0) ≤ 16 := blen_le.2 (by omega)
      omega
  refine enter133 (by simp) ?_
  simp (disch := first | assumption | (apply Ap.symm; assumption) | omega | decide | (simp only [Xd] <;> omega)) only [ac133, hV1, ↓Xa, Xb, Xc, ↓reduceIte, Nat.reduceLT, Nat.reduceEqDiff, Nat.reduceBEq, Nat.reduceLeDiff, Nat.reduceAdd, Nat.reduceMul]
  refine newU_i fun bq hbq => ?_
  simp (disch := first | assumption | (apply Ap.symm; assumption) | omega | decide | (simp only [Xd] <;> omega)) only [↓Xa, Xb, Xc, ↓reduceIte, Nat.reduceLT, Nat.reduceEqDiff, Nat.reduceBEq, Nat.reduceLeDiff, Nat.reduceAdd, Nat.reduceMul]
  refine (rbits0_fn A ta (by omega)).call ?_
  simp (disch := first | assumption | (apply Ap.symm; assumption) | omega | decide | (simp only [Xd] <;> omega)) only [↓Xa, Xb, Xc, ↓reduceIte, Nat.reduceLT, Nat.reduceEqDiff, Nat.reduceBEq, Nat.reduceLeDiff, Nat.reduceAdd, Nat.reduceMul]
  refine W_loop (fun s : Nat × List Nat × AV × AHeap => ⟨[], [(0, LS (digs 65536 A) ta), (1, LS (digs 65536 V) tb), (9, .own bq (digs 65536 A).length 0 (digs 65536 A).length true), (10, s.2.2.1), (11, .int .i64 (dn s.1))], s.2.2.2⟩)
    (fun s => LongK A V s.1 s.2.1 ∧ growO (H.upd bq (some (.row 172 1 (U s.2.1)))) 172 (digs 65536 (A / 2 ^ s.1 % V)) s.2.2.1 s.2.2.2) (fun s => s.1)
    (blen A, List.replicate (digs 65536 A).length 0, .seq 0 [] true, H.upd bq (some (.row 172 1 (U (List.replicate (digs 65536 A).length 0))))) (Settle.now rfl) ?_ ?_
  · have z : A / 2 ^ blen A = 0 := Nat.div_eq_of_lt (blen_lt A)
    refine ⟨⟨Nat.le_refl _, by simp, lim_zeros (by omega) _, ?_⟩, .inl ⟨?_, rfl, rfl⟩⟩
    · dsimp only; rw [val_zeros, z, Nat.zero_div, Nat.zero_mul]
    · dsimp only; rw [z, Nat.zero_mod, digs_zero]
  rintro ⟨M, ql, x, H1⟩ ⟨hk, hg⟩
  dsimp only at hk hg ⊢
  have hM := hk.hM
  cases M with
  | zero =>
    obtain ⟨q1, q2, q3⟩ : ql.length = (digs 65536 A).length ∧ Lim 65536 ql ∧ val 65536 ql = A / V := ⟨hk.qlen, hk.qlim, by have := hk.qval; simpa using this⟩
    rw [Nat.pow_zero, Nat.div_one] at hg
    have hkeep := hg
    simp (disch := first | assumption | (apply Ap.symm; assumption) | omega | decide | (simp only [Xd] <;> omega)) only [↓Xa, Xb, Xc, ↓reduceIte, Nat.reduceLT, Nat.reduceEqDiff, Nat.reduceBEq, Nat.reduceLeDiff, Nat.reduceAdd, Nat.reduceMul]
    refine Settle.grownO 10 rfl hg ?_
    refine Settle.freeze 9 rfl (upd_same _ _ _) (by simp [q1]) (.inr (by simp)) ?_
    have e1 : AV.seq (digs 65536 A).length (((U ql).drop 0).take ((digs 65536 A).length * 1)) true = LS ql true := by
      rw [List.drop_zero, Nat.mul_one, ← q1, List.take_of_length_le (by simp)]; rfl
    rw [e1, upd_upd, upd_back _ hbq]
    refine Settle.now ?_
    simp (disch := first | assumption | (apply Ap.symm; assumption) | omega | decide | (simp only [Xd] <;> omega)) only [↓Xa, Xb, Xc, ↓reduceIte, Nat.reduceLT, Nat.reduceEqDiff, Nat.reduceBEq, Nat.reduceLeDiff, Nat.reduceAdd, Nat.reduceMul]
    refine (rnorm_fn false true q2 (by omega)).call ?_
    simp (disch := first | assumption | (apply Ap.symm; assumption) | omega | decide | (simp only [Xd] <;> omega)) only [RefA, rs133, ↓Xa, Xb, Xc, ↓reduceIte, Nat.reduceLT, Nat.reduceEqDiff, Nat.reduceBEq, Nat.reduceLeDiff, Nat.reduceAdd, Nat.reduceMul]
    refine SetR.now ?_
    rw [sg_abs, q3]
    exact hq
  | succ k =>
    have hA0 : 0 < A := blen_pos.1 (by omega)
    have h2k : 2 ^ k ≤ A := Nat.le_trans (Nat.pow_le_pow_right (by omega) (by omega)) (blen_low hA0)
    have hkl := bit_len h2k
    have hRl : (digs 65536 (A / 2 ^ (k + 1) % V)).length ≤ 549755813888 := by
      refine Nat.le_trans (digs_len (by omega) _ _ ?_) hVl
      have h1 := val_lt (lim_digs (B := 65536) (by omega) V)
      rw [val_digs (by omega)] at h1
      exact Nat.lt_trans (Nat.mod_lt _ hV) h1
    have hc1 : A / 2 ^ k % 2 ≤ 1 := by omega
    have hls := long_step (A := A) (k := k) hV
    simp (disch := first | assumption | (apply Ap.symm; assumption) | omega | decide | (simp only [Xd] <;> omega)) only [↓Xa, Xb, Xc, ↓reduceIte, Nat.reduceLT, Nat.reduceEqDiff, Nat.reduceBEq, Nat.reduceLeDiff, Nat.reduceAdd, Nat.reduceMul]
    refine (bit_fn A k ta (by omega) hkl).call ?_
    simp (disch := first | assumption | (apply Ap.symm; assumption) | omega | decide | (simp only [Xd] <;> omega)) only [↓Xa, Xb, Xc, ↓reduceIte, Nat.reduceLT, Nat.reduceEqDiff, Nat.reduceBEq, Nat.reduceLeDiff, Nat.reduceAdd, Nat.reduceMul]
    generalize hR : A / 2 ^ (k + 1) % V = R at *
    generalize A / 2 ^ k % 2 = c0 at *
    have hXl := lim_digs (B := 65536) (by omega) R
    refine W_loop (fun s : Nat × Nat × List Nat × AV × AHeap => ⟨[], [(0, LS (digs 65536 A) ta), (1, LS (digs 65536 V) tb), (9, .own bq (digs 65536 A).length 0 (digs 65536 A).length true), (10, s.2.2.2.1), (11, .int .i64 k), (12, .int .u32 s.2.1), (13, .int .i64 s.1)], s.2.2.2.2⟩)
      (fun s => s.1 ≤ (digs 65536 R).length ∧ DblI (digs 65536 R) c0 s.1 s.2.1 s.2.2.1 ∧ growO (H.upd bq (some (.row 172 1 (U ql)))) 172 (s.2.2.1 ++ (digs 65536 R).drop s.1) s.2.2.2.1 s.2.2.2.2) (fun s => (digs 65536 R).length - s.1)
      (0, c0, [], x, H1) (Settle.now rfl) ⟨Nat.zero_le _, DblI.zero _ hc1, hg⟩ ?_
    rintro ⟨i, c, done, x', H2⟩ ⟨g1, g2, g3⟩
    dsimp only at g1 g2 g3 ⊢
    have hd := g2.1
    have hc := g2.2.2.1
    have hcl : (done ++ (digs 65536 R).drop i).length = (digs 65536 R).length := by simp [hd]; omega
    have hlen : ∀ K, lenW false x' K = K (.int .i64 (((digs 65536 R).length : Nat) : Int)) := fun K => by
      rw [len_growO g3 (by omega), hcl]
    by_cases hi : i < (digs 65536 R).length
    · have hx := hXl.getD (by omega) i
      rcases g3 with ⟨e1, _, _⟩ | ⟨br, hbr, rfl, rfl⟩
      · rw [e1] at hcl; simp at hcl; omega
      · have p1 : (done ++ (digs 65536 R).drop i).getD i 0 = (digs 65536 R).getD i 0 := part_get hd hi
        have p2 : ∀ y, (done ++ (digs 65536 R).drop i).set i y = (done ++ [y]) ++ (digs 65536 R).drop (i + 1) := fun y => part_set hd hi
        rw [hcl]
        generalize hrow : done ++ (digs 65536 R).drop i = row at *
        simp (disch := first | assumption | (apply Ap.symm; assumption) | omega | decide | (simp only [Xd] <;> omega)) only [hi, p1, ne_eq, Nat.reduceEqDiff, ↓Xa, Xb, Xc, ↓reduceIte, Nat.reduceLT, Nat.reduceEqDiff, Nat.reduceBEq, Nat.reduceLeDiff, Nat.reduceAdd, Nat.reduceMul]
        rw [p2]
        have e3 : (done ++ [(c + 2 * (digs 65536 R).getD i 0) % 65536] ++ (digs 65536 R).drop (i + 1)).length = (digs 65536 R).length := by
          simp [hd]; omega
        exact Settle.now ⟨(i + 1, _, done ++ [(c + 2 * (digs 65536 R).getD i 0) % 65536], _, _), by dsimp only; omega, ⟨by dsimp only; omega, g2.step hXl rfl, .inr ⟨br, hbr, by rw [e3], rfl⟩⟩, rfl⟩
    · obtain rfl : i = (digs 65536 R).length := by omega
      have hend := g2.end hc1
      rw [List.drop_of_length_le (Nat.le_refl _), List.append_nil] at g3
      simp (disch := first | assumption | (apply Ap.symm; assumption) | omega | decide | (simp only [Xd] <;> omega)) only [hlen, hi, ↓Xa, Xb, Xc, ↓reduceIte, Nat.reduceLT, Nat.reduceEqDiff, Nat.reduceBEq, Nat.reduceLeDiff, Nat.reduceAdd, Nat.reduceMul]
      refine Settle.now ?_
      by_cases h0 : 0 < c
      · rw [if_pos h0] at hend
        simp (disch := first | assumption | (apply Ap.symm; assumption) | omega | decide | (simp only [Xd] <;> omega)) only [h0, ↓Xa, Xb, Xc, ↓reduceIte, Nat.reduceLT, Nat.reduceEqDiff, Nat.reduceBEq, Nat.reduceLeDiff, Nat.reduceAdd, Nat.reduceMul]
        refine appO (m := [c]) g3 rfl (by simp) (by simp; omega) fun x2 H3 g4 => ?_
        rw [hend] at g4
        simp (disch := first | assumption | (apply Ap.symm; assumption) | omega | decide | (simp only [Xd] <;> omega)) only [↓Xa, Xb, Xc, ↓reduceIte, Nat.reduceLT, Nat.reduceEqDiff, Nat.reduceBEq, Nat.reduceLeDiff, Nat.reduceAdd, Nat.reduceMul]
        rcases g4 with ⟨z1, rfl, rfl⟩ | ⟨b2, hb2, rfl, rfl⟩
        · have z2 : 2 * R + c0 = 0 := (digs_nil (B := 65536) (by omega)).1 z1
          obtain ⟨f1, f2⟩ := hls.2 (by omega)
          rw [LS_0 65536]
          refine (size_fn 0 V true tb (by rw [digs_zero]; simp) (by omega)).call ?_
          rw [show cmpZ 0 V = -1 by simp [cmpZ, hV]]
          simp (disch := first | assumption | (apply Ap.symm; assumption) | omega | decide | (simp only [Xd] <;> omega)) only [bin_geq_neg, ↓Xa, Xb, Xc, ↓reduceIte, Nat.reduceLT, Nat.reduceEqDiff, Nat.reduceBEq, Nat.reduceLeDiff, Nat.reduceAdd, Nat.reduceMul]
          refine Settle.keep [0, 1, 9, 10, 11] ⟨(k, ql, _, _), by dsimp only; omega, ⟨⟨by dsimp only; omega, hk.qlen, hk.qlim, ?_⟩, .inl ⟨?_, rfl, rfl⟩⟩, by rw [← LS_0 65536]; rfl⟩
          · dsimp only; rw [hk.qval, f2, Nat.pow_succ]; grind
          · dsimp only; rw [f1, z2, digs_zero]
        · have ap1 := (upd_none.1 hb2).1
          have hX2l : (digs 65536 (2 * R + c0)).length ≤ 1099511627776 := by
            refine Nat.le_trans (digs_len (by omega) ((digs 65536 V).length + 1) _ ?_) (by omega)
            have q1 := val_lt (lim_digs (B := 65536) (by omega) V)
            rw [val_digs (by omega)] at q1
            have q2 : R < V := hR ▸ Nat.mod_lt _ hV
            rw [Nat.pow_succ]; omega
          refine run_call (size_own (2 * R + c0) V false tb (upd_same _ _ _) rfl ?_ hX2l (by omega))
          by_cases hge : V ≤ 2 * R + c0
          · obtain ⟨f1, f2⟩ := hls.1 hge
            have c3 : ∀ K, binW .geq (.int .i64 (cmpZ (2 * R + c0) V)) (.int .i64 ((0 : Nat) : Int)) K ↔ K (.bool true) := fun K => by
              have : (0 : Int) ≤ cmpZ (2 * R + c0) V := by unfold cmpZ; rw [if_neg (by omega)]; split <;> omega
              simp [binW, binInt]; rw [decide_eq_true this]
            simp (disch := first | assumption | (apply Ap.symm; assumption) | omega | decide | (simp only [Xd] <;> omega)) only [c3, ↓Xa, Xb, Xc, ↓reduceIte, Nat.reduceLT, Nat.reduceEqDiff, Nat.reduceBEq, Nat.reduceLeDiff, Nat.reduceAdd, Nat.reduceMul]
            refine run_call (minus_own (2 * R + c0) V false tb (upd_same _ _ _) rfl ?_ hge hX2l)
            intro x3 H4 g5
            have hpl : (digs 65536 (2 * R + c0 - V)).length ≤ (digs 65536 (2 * R + c0)).length := digs_len (by omega) _ _ (by
              have := val_lt (lim_digs (B := 65536) (by omega) (2 * R + c0)); rw [val_digs (by omega)] at this; omega)
            have hpad := pad_len hpl
            have hp0 : 0 < (digs 65536 (2 * R + c0)).length := by rw [digs_pos (by omega) (show 0 < 2 * R + c0 by omega)]; simp
            rcases g5 with ⟨z1, _, _⟩ | ⟨_, b3, hb3, rfl, rfl⟩
            · rw [z1] at hpad; simp at hpad; omega
            · have ap2 := (upd_none.1 hb3).1
              have ap3 := (upd_none.1 (upd_none.1 hb3).2).1
              have hn3 := (upd_none.1 (upd_none.1 hb3).2).2
              simp (disch := first | assumption | (apply Ap.symm; assumption) | omega | decide | (simp only [Xd] <;> omega)) only [↓Xa, Xb, Xc, ↓reduceIte, Nat.reduceLT, Nat.reduceEqDiff, Nat.reduceBEq, Nat.reduceLeDiff, Nat.reduceAdd, Nat.reduceMul]
              refine run_call (rnorm_own false false (upd_same _ _ _) rfl (fun ti => ?_) (pad_lim (by omega)) (by omega))
              have htr : tr (pad 65536 (2 * R + c0 - V) (digs 65536 (2 * R + c0)).length) = digs 65536 (2 * R + c0 - V) := by
                rw [tr_digs (B := 65536) (by omega) (pad_lim (by omega)), pad_val (by omega)]
              have hpt : (pad 65536 (2 * R + c0 - V) (digs 65536 (2 * R + c0)).length).take (digs 65536 (2 * R + c0 - V)).length = digs 65536 (2 * R + c0 - V) := by
                unfold pad; simp
              rw [htr, hpad]
              obtain ⟨o1, o2, o3⟩ := bit_set hk.qlim (by rw [hk.qlen]; exact hkl) hk.qval
              have hql := hk.qlen
              have hqd := hk.qlim.getD (by omega) (k / 16)
              have hk16 : k / 16 < 9223372036854775808 := by omega
              have hpw : (2 : Nat) ^ (k % 16) ≤ 2 ^ 15 := Nat.pow_le_pow_right (by omega) (by omega)
              have hk32 : k % 16 ≤ 32 := by omega
              have or1 : ∀ K, binW .or (.int .u32 ((ql.getD (k / 16) 0 : Nat) : Int)) (.int .u32 ((2 ^ (k % 16) : Nat) : Int)) K ↔ K (.int .u32 ((ql.getD (k / 16) 0 + 2 ^ (k % 16) : Nat) : Int)) := fun K => by
                rw [bin_or .u32 (by simp only [IntKind.bits]; omega) (by simp only [IntKind.bits]; omega), o1, wn_u32 (by omega)]
              simp (disch := first | assumption | (apply Ap.symm; assumption) | omega | decide | (simp only [Xd] <;> omega)) only [hkl, hql, or1, Nat.one_mul, bin_shl32, ne_eq, Nat.reduceEqDiff, ↓Xa, Xb, Xc, ↓reduceIte, Nat.reduceLT, Nat.reduceEqDiff, Nat.reduceBEq, Nat.reduceLeDiff, Nat.reduceAdd, Nat.reduceMul]
              refine Settle.kill b2 ?_
              rw [upd_over ap2, upd_back _ (upd_none.2 ⟨ap1, (upd_none.1 hb2).2⟩)]
              refine Settle.renew 10 rfl (upd_same _ _ _) hpad hpl fun b' hb' => ?_
              rw [upd_upd, upd_back _ (upd_none.2 ⟨ap3, hn3⟩)] at hb' ⊢
              rw [hpt]
              refine Settle.now ⟨(k, ql.set (k / 16) (ql.getD (k / 16) 0 + 2 ^ (k % 16)), _, _), by dsimp only; omega, ⟨⟨by dsimp only; omega, by simpa using hql, lim_set hk.qlim _ _ o2, ?_⟩, .inr ⟨b', hb', ?_, ?_⟩⟩, rfl⟩
              · dsimp only; rw [f2]; exact o3
              · dsimp only; rw [f1]
              · exact congrArg (fun z => (H.upd bq (some (ABlk.row 172 1 (U (ql.set (k / 16) (ql.getD (k / 16) 0 + 2 ^ (k % 16))))))).upd b' (some (.row 172 1 (U (digs 65536 z))))) f1.symm
          · obtain ⟨f1, f2⟩ := hls.2 (by omega)
            have c3 : ∀ K, binW .geq (.int .i64 (cmpZ (2 * R + c0) V)) (.int .i64 ((0 : Nat) : Int)) K ↔ K (.bool false) := fun K => by
              simp [binW, binInt, cmpZ, show 2 * R + c0 < V by omega]
            simp (disch := first | assumption | (apply Ap.symm; assumption) | omega | decide | (simp only [Xd] <;> omega)) only [c3, ↓Xa, Xb, Xc, ↓reduceIte, Nat.reduceLT, Nat.reduceEqDiff, Nat.reduceBEq, Nat.reduceLeDiff, Nat.reduceAdd, Nat.reduceMul]
            refine Settle.keep [0, 1, 9, 10, 11] ⟨(k, ql, _, _), by dsimp only; omega, ⟨⟨by dsimp only; omega, hk.qlen, hk.qlim, ?_⟩, .inr ⟨b2, hb2, ?_, ?_⟩⟩, rfl⟩
            · dsimp only; rw [hk.qval, f2, Nat.pow_succ]; grind
            · dsimp only; rw [f1]
            · exact congrArg (fun z => (H.upd bq (some (ABlk.row 172 1 (U ql)))).upd b2 (some (.row 172 1 (U (digs 65536 z))))) f1.symm
      · rw [if_neg h0] at hend
        rw [hend] at g3
        have g4 := g3
        simp (disch := first | assumption | (apply Ap.symm; assumption) | omega | decide | (simp only [Xd] <;> omega)) only [h0, ↓Xa, Xb, Xc, ↓reduceIte, Nat.reduceLT, Nat.reduceEqDiff, Nat.reduceBEq, Nat.reduceLeDiff, Nat.reduceAdd, Nat.reduceMul]
        rcases g4 with ⟨z1, rfl, rfl⟩ | ⟨b2, hb2, rfl, rfl⟩
        · have z2 : 2 * R + c0 = 0 := (digs_nil (B := 65536) (by omega)).1 z1
          obtain ⟨f1, f2⟩ := hls.2 (by omega)
          rw [LS_0 65536]
          refine (size_fn 0 V true tb (by rw [digs_zero]; simp) (by omega)).call ?_
          rw [show cmpZ 0 V = -1 by simp [cmpZ, hV]]
          simp (disch := first | assumption | (apply Ap.symm; assumption) | omega | decide | (simp only [Xd] <;> omega)) only [bin_geq_neg, ↓Xa, Xb, Xc, ↓reduceIte, Nat.reduceLT, Nat.reduceEqDiff, Nat.reduceBEq, Nat.reduceLeDiff, Nat.reduceAdd, Nat.reduceMul]
          refine Settle.keep [0, 1, 9, 10, 11] ⟨(k, ql, _, _), by dsimp only; omega, ⟨⟨by dsimp only; omega, hk.qlen, hk.qlim, ?_⟩, .inl ⟨?_, rfl, rfl⟩⟩, by rw [← LS_0 65536]; rfl⟩
          · dsimp only; rw [hk.qval, f2, Nat.pow_succ]; grind
          · dsimp only; rw [f1, z2, digs_zero]
        · have ap1 := (upd_none.1 hb2).1
          have hX2l : (digs 65536 (2 * R + c0)).length ≤ 1099511627776 := by
            refine Nat.le_trans (digs_len (by omega) ((digs 65536 V).length + 1) _ ?_) (by omega)
            have q1 := val_lt (lim_digs (B := 65536) (by omega) V)
            rw [val_digs (by omega)] at q1
            have q2 : R < V := hR ▸ Nat.mod_lt _ hV
            rw [Nat.pow_succ]; omega
          refine run_call (size_own (2 * R + c0) V false tb (upd_same _ _ _) rfl ?_ hX2l (by omega))
          by_cases hge : V ≤ 2 * R + c0
          · obtain ⟨f1, f2⟩ := hls.1 hge
            have c3 : ∀ K, binW .geq (.int .i64 (cmpZ (2 * R + c0) V)) (.int .i64 ((0 : Nat) : Int)) K ↔ K (.bool true) := fun K => by
              have : (0 : Int) ≤ cmpZ (2 * R + c0) V := by unfold cmpZ; rw [if_neg (by omega)]; split <;> omega
              simp [binW, binInt]; rw [decide_eq_true this]
            simp (disch := first | assumption | (apply Ap.symm; assumption) | omega | decide | (simp only [Xd] <;> omega)) only [c3, ↓Xa, Xb, Xc, ↓reduceIte, Nat.reduceLT, Nat.reduceEqDiff, Nat.reduceBEq, Nat.reduceLeDiff, Nat.reduceAdd, Nat.reduceMul]
            refine run_call (minus_own (2 * R + c0) V false tb (upd_same _ _ _) rfl ?_ hge hX2l)
            intro x3 H4 g5
            have hpl : (digs 65536 (2 * R + c0 - V)).length ≤ (digs 65536 (2 * R + c0)).length := digs_len (by omega) _ _ (by
              have := val_lt (lim_digs (B := 65536) (by omega) (2 * R + c0)); rw [val_digs (by omega)] at this; omega)
            have hpad := pad_len hpl
            have hp0 : 0 < (digs 65536 (2 * R + c0)).length := by rw [digs_pos (by omega) (show 0 < 2 * R + c0 by omega)]; simp
            rcases g5 with ⟨z1, _, _⟩ | ⟨_, b3, hb3, rfl, rfl⟩
            · rw [z1] at hpad; simp at hpad; omega
            · have ap2 := (upd_none.1 hb3).1
              have ap3 := (upd_none.1 (upd_none.1 hb3).2).1
              have hn3 := (upd_none.1 (upd_none.1 hb3).2).2
              simp (disch := first | assumption | (apply Ap.symm; assumption) | omega | decide | (simp only [Xd] <;> omega)) only [↓Xa, Xb, Xc, ↓reduceIte, Nat.reduceLT, Nat.reduceEqDiff, Nat.reduceBEq, Nat.reduceLeDiff, Nat.reduceAdd, Nat.reduceMul]
              refine run_call (rnorm_own false false (upd_same _ _ _) rfl (fun ti => ?_) (pad_lim (by omega)) (by omega))
              have htr : tr (pad 65536 (2 * R + c0 - V) (digs 65536 (2 * R + c0)).length) = digs 65536 (2 * R + c0 - V) := by
                rw [tr_digs (B := 65536) (by omega) (pad_lim (by omega)), pad_val (by omega)]
              have hpt : (pad 65536 (2 * R + c0 - V) (digs 65536 (2 * R + c0)).length).take (digs 65536 (2 * R + c0 - V)).length = digs 65536 (2 * R + c0 - V) := by
                unfold pad; simp
              rw [htr, hpad]
              obtain ⟨o1, o2, o3⟩ := bit_set hk.qlim (by rw [hk.qlen]; exact hkl) hk.qval
              have hql := hk.qlen
              have hqd := hk.qlim.getD (by omega) (k / 16)
              have hk16 : k / 16 < 9223372036854775808 := by omega
              have hpw : (2 : Nat) ^ (k % 16) ≤ 2 ^ 15 := Nat.pow_le_pow_right (by omega) (by omega)
              have hk32 : k % 16 ≤ 32 := by omega
              have or1 : ∀ K, binW .or (.int .u32 ((ql.getD (k / 16) 0 : Nat) : Int)) (.int .u32 ((2 ^ (k % 16) : Nat) : Int)) K ↔ K (.int .u32 ((ql.getD (k / 16) 0 + 2 ^ (k % 16) : Nat) : Int)) := fun K => by
                rw [bin_or .u32 (by simp only [IntKind.bits]; omega) (by simp only [IntKind.bits]; omega), o1, wn_u32 (by omega)]
              simp (disch := first | assumption | (apply Ap.symm; assumption) | omega | decide | (simp only [Xd] <;> omega)) only [hkl, hql, or1, Nat.one_mul, bin_shl32, ne_eq, Nat.reduceEqDiff, ↓Xa, Xb, Xc, ↓reduceIte, Nat.reduceLT, Nat.reduceEqDiff, Nat.reduceBEq, Nat.reduceLeDiff, Nat.reduceAdd, Nat.reduceMul]
              refine Settle.kill b2 ?_
              rw [upd_over ap2, upd_back _ (upd_none.2 ⟨ap1, (upd_none.1 hb2).2⟩)]
              refine Settle.renew 10 rfl (upd_same _ _ _) hpad hpl fun b' hb' => ?_
              rw [upd_upd, upd_back _ (upd_none.2 ⟨ap3, hn3⟩)] at hb' ⊢
              rw [hpt]
              refine Settle.now ⟨(k, ql.set (k / 16) (ql.getD (k / 16) 0 + 2 ^ (k % 16)), _, _), by dsimp only; omega, ⟨⟨by dsimp only; omega, by simpa using hql, lim_set hk.qlim _ _ o2, ?_⟩, .inr ⟨b', hb', ?_, ?_⟩⟩, rfl⟩
              · dsimp only; rw [f2]; exact o3
              · dsimp only; rw [f1]
              · exact congrArg (fun z => (H.upd bq (some (ABlk.row 172 1 (U (ql.set (k / 16) (ql.getD (k / 16) 0 + 2 ^ (k % 16))))))).upd b' (some (.row 172 1 (U (digs 65536 z))))) f1.symm
          · obtain ⟨f1, f2⟩ := hls.2 (by omega)
            have c3 : ∀ K, binW .geq (.int .i64 (cmpZ (2 * R + c0) V)) (.int .i64 ((0 : Nat) : Int)) K ↔ K (.bool false) := fun K => by
              simp [binW, binInt, cmpZ, show 2 * R + c0 < V by omega]
            simp (disch := first | assumption | (apply Ap.symm; assumption) | omega | decide | (simp only [Xd] <;> omega)) only [c3, ↓Xa, Xb, Xc, ↓reduceIte, Nat.reduceLT, Nat.reduceEqDiff, Nat.reduceBEq, Nat.reduceLeDiff, Nat.reduceAdd, Nat.reduceMul]
            refine Settle.keep [0, 1, 9, 10, 11] ⟨(k, ql, _, _), by dsimp only; omega, ⟨⟨by dsimp only; omega, hk.qlen, hk.qlim, ?_⟩, .inr ⟨b2, hb2, ?_, ?_⟩⟩, rfl⟩
            · dsimp only; rw [hk.qval, f2, Nat.pow_succ]; grind
            · dsimp only; rw [f1]
            · exact congrArg (fun z => (H.upd bq (some (ABlk.row 172 1 (U ql)))).upd b2 (some (.row 172 1 (U (digs 65536 z))))) f1.symm
end Go.Proofs.YtanchgkiomfhhaaDoor.Fw

/- Quotients and remainders of whole numbers, as the reference has them. -/
namespace Go.Proofs.YtanchgkiomfhhaaDoor.Fw
set_option linter.unusedSimpArgs false
set_option linter.unusedVariables false
open Go Go.Proofs.YtanchgkiomfhhaaDoor.Ma
set_option maxRecDepth 20000

theorem rdivide_fn {A V : Nat} (ta tb : Bool) (hV : 0 < V) (hA : (digs 65536 A).length ≤ 549755813888) (hVl : (digs 65536 V).length ≤ 549755813888) :
    PFn Tryd.prog 133 [LS (digs 65536 A) ta, LS (digs 65536 V) tb] (.tup [LS (digs 65536 (A / V)) false, LS (digs 65536 (A % V)) false]) := by
  by_cases h1 : (digs 65536 V).length = 1
  · have h2 := val_lt (lim_digs (B := 65536) (by omega) V)
    rw [val_digs (by omega), h1] at h2
    exact rdiv_one ta tb hV (by simpa using h2) (by omega)
  · exact rdiv_many ta tb hV h1 hA hVl

end Go.Proofs.YtanchgkiomfhhaaDoor.Fw

/- A whole number's text read, as package integer and as its reference read it. -/
namespace Go.Proofs.YtanchgkiomfhhaaDoor.Fw
set_option linter.unusedSimpArgs false
set_option linter.unusedVariables false
open Go Go.Proofs.YtanchgkiomfhhaaDoor.Ma
set_option maxRecDepth 20000

def iFrom (l : List UInt8) : Nat := if (l.getD 0 0).toNat = 45 then 1 else 0
def iBad (l : List UInt8) (i : Nat) : Prop := (l.getD i 0).toNat < 48 ∨ 57 < (l.getD i 0).toNat ∨ (i = iFrom l + 1 ∧ (l.getD (iFrom l) 0).toNat = 48) ∨ (i = iFrom l ∧ iFrom l = 1 ∧ (l.getD i 0).toNat = 48)
def IsAt (l : List UInt8) (p : Nat) : Prop := iFrom l ≤ p ∧ p ≤ l.length ∧ iBad l p ∧ ∀ j, iFrom l ≤ j → j < p → ¬ iBad l j
theorem get_beyond {l : List UInt8} {i : Nat} (h : l.length ≤ i) : l.getD i 0 = 0 := by
  rw [List.getD_eq_getElem?_getD, List.getElem?_eq_none h]; rfl
theorem iBad_end (l : List UInt8) : iBad l l.length := .inl (by rw [get_beyond (Nat.le_refl _)]; decide)
theorem iFrom_le (l : List UInt8) : iFrom l ≤ l.length ∧ iFrom l ≤ 1 := by
  unfold iFrom; split
  · rename_i h
    cases l with
    | nil => simp at h
    | cons x l => simp
  · simp
theorem first_of {P : Nat → Prop} (lo : Nat) : ∀ n, (∃ p, lo ≤ p ∧ p < lo + n ∧ P p ∧ ∀ j, lo ≤ j → j < p → ¬ P j) ∨ ∀ j, lo ≤ j → j < lo + n → ¬ P j
  | 0 => .inr fun j h1 h2 => by omega
  | n + 1 => by
    rcases first_of (P := P) lo n with ⟨p, a, b, c, d⟩ | h
    · exact .inl ⟨p, a, by omega, c, d⟩
    · by_cases hp : P (lo + n)
      · exact .inl ⟨lo + n, by omega, by omega, hp, h⟩
      · refine .inr fun j h1 h2 => ?_
        by_cases e : j = lo + n
        · rw [e]; exact hp
        · exact h j h1 (by omega)
theorem isAt_ex (l : List UInt8) : ∃ p, IsAt l p := by
  have h0 := (iFrom_le l).1
  rcases first_of (P := iBad l) (iFrom l) (l.length - iFrom l) with ⟨p, a, b, c, d⟩ | h
  · exact ⟨p, a, by omega, c, d⟩
  · exact ⟨l.length, h0, Nat.le_refl _, iBad_end l, fun j h1 h2 => h j h1 (by omega)⟩
theorem isAt_fn {l : List UInt8} {p q : Nat} (h : IsAt l p) (h' : IsAt l q) : p = q := by
  obtain ⟨a, b, c, d⟩ := h
  obtain ⟨a', b', c', d'⟩ := h'
  rcases Nat.lt_trichotomy p q with e | e | e
  · exact absurd c (d' p a e)
  · exact e
  · exact absurd c' (d q a' e)
def iVal (l : List UInt8) : Int := sg (decide (iFrom l = 1)) (decV (l.drop (iFrom l)))
theorem isAt_good {l : List UInt8} (h : IsAt l l.length) (hn : l.length ≠ iFrom l) : Good (l.drop (iFrom l)) := by
  have hf := (iFrom_le l).1
  obtain ⟨a, b, c, d⟩ := h
  refine good_of (by intro e; have := congrArg List.length e; simp at this; omega) fun i hi hb => ?_
  have hi' : iFrom l + i < l.length := by simp at hi; omega
  have e : (l.drop (iFrom l)).getD i 0 = l.getD (iFrom l + i) 0 := by simp [List.getD_eq_getElem?_getD]
  have e0 : (l.drop (iFrom l)).getD 0 0 = l.getD (iFrom l) 0 := by simp [List.getD_eq_getElem?_getD]
  unfold badAt at hb
  rw [e, e0] at hb
  rcases hb with hb | hb | ⟨hb, hb2⟩
  · exact d (iFrom l + i) (by omega) hi' (.inl hb)
  · exact d (iFrom l + i) (by omega) hi' (.inr (.inl hb))
  · exact d (iFrom l + 1) (by omega) (by omega) (.inr (.inr (.inl ⟨rfl, hb2⟩)))
def iReadA (l : List UInt8) (p : Nat) : AV :=
  if 65536 < l.length then .tup [IntA 0, spot 3 65536] else if p = iFrom l ∨ p < l.length then .tup [IntA 0, spot 6 p] else .tup [IntA (iVal l), spot 0 0]
theorem iread_fn {l : List UInt8} {p : Nat} (hp : IsAt l p) (hsz' : l.length < 9223372036854775808) : PFn Tryd.prog 167 [Sx l] (iReadA l p) := by
  intro H Q hq
  refine enter167 (by simp) ?_
  simp (disch := first | assumption | (apply Ap.symm; assumption) | omega | decide | (simp only [Xd] <;> omega)) only [ac167, ↓Xa, Xb, Xc, ↓reduceIte, Nat.reduceLT, Nat.reduceEqDiff, Nat.reduceBEq, Nat.reduceLeDiff, Nat.reduceAdd, Nat.reduceMul]
  refine alloc_i fun p1 hp1 => ?_
  have n1 := hp1
  simp (disch := first | assumption | (apply Ap.symm; assumption) | omega | decide | (simp only [Xd] <;> omega)) only [↓Xa, Xb, Xc, ↓reduceIte, Nat.reduceLT, Nat.reduceEqDiff, Nat.reduceBEq, Nat.reduceLeDiff, Nat.reduceAdd, Nat.reduceMul]
  refine alloc_i fun p2 hp2 => ?_
  have n2 := hp2
  simp only [upd_none] at n2
  obtain ⟨_, n2⟩ := n2
  have drop : ∀ {x y : ABlk} {r}, SetR Q r H → SetR Q r ((H.upd p1 (some x)).upd p2 (some y)) := fun h => SetR.dropTo (((Le.refl H).upd n1).updB n2) h
  by_cases h1 : 65536 < l.length
  · rw [iReadA, if_pos h1, ← IntA_0] at hq
    simp (disch := first | assumption | (apply Ap.symm; assumption) | omega | decide | (simp only [Xd] <;> omega)) only [len_Sx, h1, cells_i2, rs167, ↓Xa, Xb, Xc, ↓reduceIte, Nat.reduceLT, Nat.reduceEqDiff, Nat.reduceBEq, Nat.reduceLeDiff, Nat.reduceAdd, Nat.reduceMul]
    exact drop (SetR.now hq)
  rw [iReadA, if_neg h1] at hq
  have hsz : l.length < 9223372036854775807 := by omega
  obtain ⟨hf1, hf2⟩ := iFrom_le l
  have err : (p = iFrom l ∨ p < l.length) → ∀ {x y : ABlk}, SetR Q (.tup [.agg [.bool false, .seq 0 [] true], .agg [.int .i64 ((6 : Nat) : Int), .int .i64 (p : Int)]]) ((H.upd p1 (some x)).upd p2 (some y)) := fun h => by
    rw [if_pos h, ← IntA_0] at hq
    exact drop (SetR.now hq)
  have rest : ∀ {E : Env} {x y : ABlk}, E = [(0, Sx l), (2, .ptr p1 2 0), (3, .ptr p2 2 0), (4, .int .i64 (p : Int)), (5, .int .i64 (iFrom l : Int))] → x = .row 28 0 [.bool false, .seq 0 [] true] → y = .row 105 0 [.int .i64 ((0 : Nat) : Int), .int .i64 ((0 : Nat) : Int)] →
      W Tryd.prog (sndC (sndC (sndC (sndC (sndC (sndC ac167)))))) (retN rs167 Q) ⟨[], E, (H.upd p1 (some x)).upd p2 (some y)⟩ := by
    intro E x y hE hx hy
    subst hE hx hy
    by_cases e1 : p = iFrom l
    · simp (disch := first | assumption | (apply Ap.symm; assumption) | omega | decide | (simp only [Xd] <;> omega)) only [sndC, ac167, e1, cells_i2, rs167, ↓Xa, Xb, Xc, ↓reduceIte, Nat.reduceLT, Nat.reduceEqDiff, Nat.reduceBEq, Nat.reduceLeDiff, Nat.reduceAdd, Nat.reduceMul]
      rw [← e1]; exact err (.inl e1)
    by_cases e2 : p < l.length
    · simp (disch := first | assumption | (apply Ap.symm; assumption) | omega | decide | (simp only [Xd] <;> omega)) only [sndC, ac167, e1, e2, len_Sx, cells_i2, rs167, ↓Xa, Xb, Xc, ↓reduceIte, Nat.reduceLT, Nat.reduceEqDiff, Nat.reduceBEq, Nat.reduceLeDiff, Nat.reduceAdd, Nat.reduceMul]
      exact err (.inr e2)
    have hpl : p = l.length := by have := hp.2.1; omega
    rw [if_neg (by omega)] at hq
    have hg := isAt_good (hpl ▸ hp) (by omega)
    simp (disch := first | assumption | (apply Ap.symm; assumption) | omega | decide | (simp only [Xd] <;> omega)) only [sndC, ac167, e1, e2, len_Sx, slc_SxL, ↓Xa, Xb, Xc, ↓reduceIte, Nat.reduceLT, Nat.reduceEqDiff, Nat.reduceBEq, Nat.reduceLeDiff, Nat.reduceAdd, Nat.reduceMul]
    refine (read_fn (r := .tup [LS (Ma.digs 4294967296 (decV (l.drop (iFrom l)))) true, spot 0 0]) (.inr (.inr (.inr ⟨by simp; omega, hg, rfl⟩))) (by simp; omega)).call ?_
    simp (disch := first | assumption | (apply Ap.symm; assumption) | omega | decide | (simp only [Xd] <;> omega)) only [spot, ↓Xa, Xb, Xc, ↓reduceIte, Nat.reduceLT, Nat.reduceEqDiff, Nat.reduceBEq, Nat.reduceLeDiff, Nat.reduceAdd, Nat.reduceMul]
    refine alloc_i fun p3 hp3 => ?_
    have n3 := hp3
    simp only [upd_none] at n3
    obtain ⟨_, _, n3⟩ := n3
    simp (disch := first | assumption | (apply Ap.symm; assumption) | omega | decide | (simp only [Xd] <;> omega)) only [cells_i2, ↓Xa, Xb, Xc, ↓reduceIte, Nat.reduceLT, Nat.reduceEqDiff, Nat.reduceBEq, Nat.reduceLeDiff, Nat.reduceAdd, Nat.reduceMul]
    refine (made_fn (decide (iFrom l = 1)) _ ?_).call ?_
    · have hv : decV (l.drop (iFrom l)) < 4294967296 ^ 8192 := Nat.lt_of_lt_of_le (decV_lt fun b hb => (hg.2.1 b hb).2) (ten_bound (by simp; omega))
      have := (Nm.digs hv).len
      omega
    simp (disch := first | assumption | (apply Ap.symm; assumption) | omega | decide | (simp only [Xd] <;> omega)) only [cells_i2, cells_IntA, IntB, IntD, rs167, ↓Xa, Xb, Xc, ↓reduceIte, Nat.reduceLT, Nat.reduceEqDiff, Nat.reduceBEq, Nat.reduceLeDiff, Nat.reduceAdd, Nat.reduceMul]
    exact SetR.dropTo ((((Le.refl H).updB n1).updB n2).updB n3) (SetR.now hq)
  have tail : ∀ {E : Env}, E = [(0, Sx l), (2, .ptr p1 2 0), (3, .ptr p2 2 0), (4, .int .i64 (iFrom l : Int))] →
      W Tryd.prog (sndC (sndC (sndC (sndC ac167)))) (retN rs167 Q) ⟨[], E, (H.upd p1 (some (.row 28 0 [.bool false, .seq 0 [] true]))).upd p2 (some (.row 105 0 [.int .i64 ((0 : Nat) : Int), .int .i64 ((0 : Nat) : Int)]))⟩ := by
    intro E hE
    subst hE
    simp (disch := first | assumption | (apply Ap.symm; assumption) | omega | decide | (simp only [Xd] <;> omega)) only [sndC, ac167, ↓Xa, Xb, Xc, ↓reduceIte, Nat.reduceLT, Nat.reduceEqDiff, Nat.reduceBEq, Nat.reduceLeDiff, Nat.reduceAdd, Nat.reduceMul]
    refine W_loop (fun i : Nat => ⟨[], [(0, Sx l), (2, .ptr p1 2 0), (3, .ptr p2 2 0), (4, .int .i64 (i : Int)), (5, .int .i64 (iFrom l : Int))], (H.upd p1 (some (.row 28 0 [.bool false, .seq 0 [] true]))).upd p2 (some (.row 105 0 [.int .i64 ((0 : Nat) : Int), .int .i64 ((0 : Nat) : Int)]))⟩) (fun i => iFrom l ≤ i ∧ i ≤ l.length ∧ ∀ j, iFrom l ≤ j → j < i → ¬ iBad l j) (fun i => l.length - i) (iFrom l) (Settle.now rfl) ⟨Nat.le_refl _, hf1, fun j h1 h2 => by omega⟩ ?_
    rintro i ⟨hi1, hi2, hi3⟩
    have stop : iBad l i → i = p := fun hb => isAt_fn ⟨hi1, hi2, hb, hi3⟩ hp
    have step : ¬ iBad l i → ∀ j, iFrom l ≤ j → j < i + 1 → ¬ iBad l j := fun hb j h1 hj => by
      by_cases e : j = i
      · rw [e]; exact hb
      · exact hi3 j h1 (by omega)
    by_cases hi : i < l.length
    · by_cases c1 : 48 ≤ (l.getD i 0).toNat
      rotate_left
      · obtain rfl := stop (.inl (by omega))
        simp (disch := first | assumption | (apply Ap.symm; assumption) | omega | decide | (simp only [Xd] <;> omega)) only [hi, len_Sx, idx_Sx, c1, ↓Xa, Xb, Xc, ↓reduceIte, Nat.reduceLT, Nat.reduceEqDiff, Nat.reduceBEq, Nat.reduceLeDiff, Nat.reduceAdd, Nat.reduceMul]
        refine Settle.keep [0, 2, 3, 4, 5] ?_
        exact rest (by rfl) rfl rfl
      by_cases c2 : (l.getD i 0).toNat ≤ 57
      rotate_left
      · obtain rfl := stop (.inr (.inl (by omega)))
        simp (disch := first | assumption | (apply Ap.symm; assumption) | omega | decide | (simp only [Xd] <;> omega)) only [hi, len_Sx, idx_Sx, c1, c2, ↓Xa, Xb, Xc, ↓reduceIte, Nat.reduceLT, Nat.reduceEqDiff, Nat.reduceBEq, Nat.reduceLeDiff, Nat.reduceAdd, Nat.reduceMul]
        refine Settle.keep [0, 2, 3, 4, 5] ?_
        exact rest (by rfl) rfl rfl
      by_cases c3 : i = iFrom l + 1
      · have hfl : iFrom l < l.length := by omega
        subst c3
        by_cases c4 : (l.getD (iFrom l) 0).toNat = 48
        · have hip := stop (.inr (.inr (.inl ⟨rfl, c4⟩)))
          have rr := @rest
          rw [← hip] at rr
          simp (disch := first | assumption | (apply Ap.symm; assumption) | omega | decide | (simp only [Xd] <;> omega)) only [hi, len_Sx, idx_Sx, c1, c2, c4, ↓Xa, Xb, Xc, ↓reduceIte, Nat.reduceLT, Nat.reduceEqDiff, Nat.reduceBEq, Nat.reduceLeDiff, Nat.reduceAdd, Nat.reduceMul]
          refine Settle.keep [0, 2, 3, 4, 5] ?_
          exact rr (by rfl) rfl rfl
        · have c5 : ¬ iFrom l + 1 = iFrom l := by omega
          have nb := step (show ¬ iBad l (iFrom l + 1) by unfold iBad; omega)
          simp (disch := first | assumption | (apply Ap.symm; assumption) | omega | decide | (simp only [Xd] <;> omega)) only [hi, len_Sx, idx_Sx, c1, c2, c4, c5, ↓Xa, Xb, Xc, ↓reduceIte, Nat.reduceLT, Nat.reduceEqDiff, Nat.reduceBEq, Nat.reduceLeDiff, Nat.reduceAdd, Nat.reduceMul]
          exact Settle.now ⟨iFrom l + 1 + 1, by omega, ⟨by omega, by omega, nb⟩, rfl⟩
      by_cases c5 : i = iFrom l
      · subst c5
        by_cases c6 : iFrom l = 1
        · by_cases c7 : (l.getD (iFrom l) 0).toNat = 48
          · have hip := stop (.inr (.inr (.inr ⟨rfl, c6, c7⟩)))
            have rr := @rest
            rw [← hip] at rr
            rw [c6] at rr hi c1 c2 c3 c7 ⊢
            simp (disch := first | assumption | (apply Ap.symm; assumption) | omega | decide | (simp only [Xd] <;> omega)) only [hi, len_Sx, idx_Sx, c1, c2, c3, c7, ↓Xa, Xb, Xc, ↓reduceIte, Nat.reduceLT, Nat.reduceEqDiff, Nat.reduceBEq, Nat.reduceLeDiff, Nat.reduceAdd, Nat.reduceMul]
            refine Settle.keep [0, 2, 3, 4, 5] ?_
            exact rr (by rfl) rfl rfl
          · have nb := step (show ¬ iBad l (iFrom l) by unfold iBad; omega)
            rw [c6] at hi c1 c2 c3 c7 nb ⊢
            simp (disch := first | assumption | (apply Ap.symm; assumption) | omega | decide | (simp only [Xd] <;> omega)) only [hi, len_Sx, idx_Sx, c1, c2, c3, c7, ↓Xa, Xb, Xc, ↓reduceIte, Nat.reduceLT, Nat.reduceEqDiff, Nat.reduceBEq, Nat.reduceLeDiff, Nat.reduceAdd, Nat.reduceMul]
            exact Settle.now ⟨1 + 1, by omega, ⟨by omega, by omega, nb⟩, rfl⟩
        · have nb := step (show ¬ iBad l (iFrom l) by unfold iBad; omega)
          simp (disch := first | assumption | (apply Ap.symm; assumption) | omega | decide | (simp only [Xd] <;> omega)) only [hi, len_Sx, idx_Sx, c1, c2, c3, c6, ↓Xa, Xb, Xc, ↓reduceIte, Nat.reduceLT, Nat.reduceEqDiff, Nat.reduceBEq, Nat.reduceLeDiff, Nat.reduceAdd, Nat.reduceMul]
          exact Settle.now ⟨iFrom l + 1, by omega, ⟨by omega, by omega, nb⟩, rfl⟩
      · have nb := step (show ¬ iBad l i by unfold iBad; omega)
        simp (disch := first | assumption | (apply Ap.symm; assumption) | omega | decide | (simp only [Xd] <;> omega)) only [hi, len_Sx, idx_Sx, c1, c2, c3, c5, ↓Xa, Xb, Xc, ↓reduceIte, Nat.reduceLT, Nat.reduceEqDiff, Nat.reduceBEq, Nat.reduceLeDiff, Nat.reduceAdd, Nat.reduceMul]
        exact Settle.now ⟨i + 1, by omega, ⟨by omega, by omega, nb⟩, rfl⟩
    · obtain rfl := stop (.inl (by rw [get_beyond (by omega)]; decide))
      simp (disch := first | assumption | (apply Ap.symm; assumption) | omega | decide | (simp only [Xd] <;> omega)) only [hi, len_Sx, ↓Xa, Xb, Xc, ↓reduceIte, Nat.reduceLT, Nat.reduceEqDiff, Nat.reduceBEq, Nat.reduceLeDiff, Nat.reduceAdd, Nat.reduceMul]
      refine Settle.keep [0, 2, 3, 4, 5] ?_
      exact rest (by rfl) rfl rfl
  have tl := @tail _ rfl
  by_cases h0 : l = []
  · have hf0 : iFrom l = 0 := by rw [h0]; rfl
    rw [hf0] at tl
    simp (disch := first | assumption | (apply Ap.symm; assumption) | omega | decide | (simp only [Xd] <;> omega)) only [sndC, ac167, ↓Xa, Xb, Xc, ↓reduceIte, Nat.reduceLT, Nat.reduceEqDiff, Nat.reduceBEq, Nat.reduceLeDiff, Nat.reduceAdd, Nat.reduceMul] at tl
    simp (disch := first | assumption | (apply Ap.symm; assumption) | omega | decide | (simp only [Xd] <;> omega)) only [len_Sx, h1, str_Sx, neq_Sx, h0, ↓Xa, Xb, Xc, ↓reduceIte, Nat.reduceLT, Nat.reduceEqDiff, Nat.reduceBEq, Nat.reduceLeDiff, Nat.reduceAdd, Nat.reduceMul]
    rw [h0] at tl
    exact tl
  have hpos : 0 < l.length := List.length_pos_iff.2 h0
  by_cases h2 : (l.getD 0 0).toNat = 45
  · have hf0 : iFrom l = 1 := by unfold iFrom; rw [if_pos h2]
    rw [hf0] at tl
    simp (disch := first | assumption | (apply Ap.symm; assumption) | omega | decide | (simp only [Xd] <;> omega)) only [sndC, ac167, ↓Xa, Xb, Xc, ↓reduceIte, Nat.reduceLT, Nat.reduceEqDiff, Nat.reduceBEq, Nat.reduceLeDiff, Nat.reduceAdd, Nat.reduceMul] at tl
    simp (disch := first | assumption | (apply Ap.symm; assumption) | omega | decide | (simp only [Xd] <;> omega)) only [len_Sx, h1, str_Sx, neq_Sx, h0, idx_Sx, h2, ↓Xa, Xb, Xc, ↓reduceIte, Nat.reduceLT, Nat.reduceEqDiff, Nat.reduceBEq, Nat.reduceLeDiff, Nat.reduceAdd, Nat.reduceMul]
    exact tl
  · have hf0 : iFrom l = 0 := by unfold iFrom; rw [if_neg h2]
    rw [hf0] at tl
    simp (disch := first | assumption | (apply Ap.symm; assumption) | omega | decide | (simp only [Xd] <;> omega)) only [sndC, ac167, ↓Xa, Xb, Xc, ↓reduceIte, Nat.reduceLT, Nat.reduceEqDiff, Nat.reduceBEq, Nat.reduceLeDiff, Nat.reduceAdd, Nat.reduceMul] at tl
    simp (disch := first | assumption | (apply Ap.symm; assumption) | omega | decide | (simp only [Xd] <;> omega)) only [len_Sx, h1, str_Sx, neq_Sx, h0, idx_Sx, h2, ↓Xa, Xb, Xc, ↓reduceIte, Nat.reduceLT, Nat.reduceEqDiff, Nat.reduceBEq, Nat.reduceLeDiff, Nat.reduceAdd, Nat.reduceMul]
    exact tl
end Go.Proofs.YtanchgkiomfhhaaDoor.Fw

/- A whole number's text, as the reference of layer 2 reads it. -/
namespace Go.Proofs.YtanchgkiomfhhaaDoor.Fw
set_option linter.unusedSimpArgs false
set_option linter.unusedVariables false
open Go Go.Proofs.YtanchgkiomfhhaaDoor.Ma
set_option maxRecDepth 20000

def rReadA (l : List UInt8) (p : Nat) : AV := if p = iFrom l ∨ p < l.length then .tup [RefA 0 true, .int .i64 (p : Int)] else .tup [RefA (iVal l) false, .int .i64 (-1)]
end Go.Proofs.YtanchgkiomfhhaaDoor.Fw

/- A whole number's text, as the reference of layer 2 tells it. -/
namespace Go.Proofs.YtanchgkiomfhhaaDoor.Fw
set_option linter.unusedSimpArgs false
set_option linter.unusedVariables false
open Go Go.Proofs.YtanchgkiomfhhaaDoor.Ma
set_option maxRecDepth 20000

def revI (i : Nat) (l : List UInt8) : List UInt8 := (List.range l.length).map fun j => if j < i ∨ l.length - i ≤ j then l.getD (l.length - 1 - j) 0 else l.getD j 0
theorem revI_len (i : Nat) (l : List UInt8) : (revI i l).length = l.length := by simp [revI]
theorem revI_zero (l : List UInt8) : revI 0 l = l := by
  refine List.ext_getElem (revI_len 0 l) fun j h1 h2 => ?_
  simp only [revI, List.getElem_map, List.getElem_range]
  rw [if_neg (by omega), List.getD_eq_getElem?_getD, List.getElem?_eq_getElem h2, Option.getD_some]
theorem revI_get {i j : Nat} {l : List UInt8} (h : j < l.length) : (revI i l).getD j 0 = if j < i ∨ l.length - i ≤ j then l.getD (l.length - 1 - j) 0 else l.getD j 0 := by
  rw [List.getD_eq_getElem?_getD, List.getElem?_eq_getElem (by rw [revI_len]; exact h), Option.getD_some]
  simp [revI]
theorem revI_half {i : Nat} {l : List UInt8} (h : l.length ≤ 2 * i + 1) : revI i l = l.reverse := by
  refine List.ext_getElem (by simp [revI_len]) fun j h1 h2 => ?_
  have hj : j < l.length := by simpa using h2
  have e := revI_get (i := i) hj
  rw [List.getD_eq_getElem?_getD, List.getElem?_eq_getElem h1, Option.getD_some] at e
  rw [e, List.getElem_reverse]
  have hk : l.length - 1 - j < l.length := by omega
  by_cases c : j < i ∨ l.length - i ≤ j
  · rw [if_pos c, List.getD_eq_getElem?_getD, List.getElem?_eq_getElem hk, Option.getD_some]
  · rw [if_neg c, List.getD_eq_getElem?_getD, List.getElem?_eq_getElem hj, Option.getD_some]
    congr 1
    omega
theorem revI_step {i : Nat} {l : List UInt8} (h : i < l.length / 2) : ((revI i l).set i (l.getD (l.length - 1 - i) 0)).set (l.length - 1 - i) (l.getD i 0) = revI (i + 1) l := by
  refine List.ext_getElem (by simp [revI_len]) fun j h1 h2 => ?_
  have hj : j < l.length := by simpa [revI_len] using h2
  have e2 := revI_get (i := i + 1) hj
  have e1 := revI_get (i := i) hj
  rw [List.getD_eq_getElem?_getD, List.getElem?_eq_getElem h2, Option.getD_some] at e2
  rw [e2]
  simp only [List.getElem_set]
  by_cases c1 : l.length - 1 - i = j
  · rw [if_pos c1, if_pos (by omega), ← c1]; congr 1; omega
  · rw [if_neg c1]
    by_cases c2 : i = j
    · rw [if_pos c2, if_pos (by omega), c2]
    · rw [if_neg c2]
      rw [List.getD_eq_getElem?_getD, List.getElem?_eq_getElem (by rw [revI_len]; exact hj), Option.getD_some] at e1
      rw [e1]
      by_cases c3 : j < i ∨ l.length - i ≤ j
      · rw [if_pos c3, if_pos (by omega)]
      · rw [if_neg c3, if_neg (by omega)]
theorem digs1 {n : Nat} (h : n < 65536) : digs 65536 n = if n = 0 then [] else [n] := by
  split
  · rename_i e; rw [e, digs_zero]
  · rename_i e; rw [digs_pos (by omega) (by omega), Nat.mod_eq_of_lt h, Nat.div_eq_of_lt h, digs_zero]
theorem Bt_drop_cons (l : List UInt8) (i : Nat) (h : i < l.length) : (Bt l).drop i = .int .u8 (((l.getD i 0).toNat : Nat) : Int) :: (Bt l).drop (i + 1) := by
  rw [List.drop_eq_getElem_cons (by simpa [Bt_len] using h)]
  congr 1
  simp [Bt, List.getD_eq_getElem?_getD, List.getElem?_eq_getElem h]
theorem ldP_Bt {K : AV → Prop} {L off ty es : Nat} {l : List UInt8} (hL : l.length = L) (h : off < L) : ldP none L off K (some (.row ty es (Bt l))) = K (.int .u8 (((l.getD off 0).toNat : Nat) : Int)) := by
  subst hL
  have : off + 1 ≤ l.length := h
  simp [ldP, this, Bt_drop_cons l off h, ldC, Bt_len]
theorem splice_Bt {off c : Nat} {l : List UInt8} (h : off < l.length) (hc : c < 256) : splice (Bt l) off [.int .u8 (c : Int)] = Bt (l.set off (UInt8.ofNat c)) := by
  have e2 : (AV.int .u8 (c : Int)) = .int .u8 (((UInt8.ofNat c).toNat : Nat) : Int) := by
    rw [UInt8.toNat_ofNat', Nat.mod_eq_of_lt hc]
  rw [e2]
  unfold splice Bt
  rw [List.map_set, List.set_eq_take_append_cons_drop]
  simp [h]
theorem dstP_Bt {b L off ty es c : Nat} {l : List UInt8} {K : AV → List Nat → Option (Nat × ABlk) → Prop} (hL : l.length = L) (h : off < L) (hc : c < 256) : dstP 1 b L off K (some [.int .u8 (c : Int)]) (some (.row ty es (Bt l))) = K .bot [b] (some (b, .row ty es (Bt (l.set off (UInt8.ofNat c))))) := by
  subst hL
  have h1 : off + 1 ≤ l.length := h
  simp [dstP, Bt_len, h1, splice_Bt h hc]
theorem load_U1 {H : AHeap} {x : Nat} {K : AV → Prop} : loadW H none (.cptr (U [x])) K = K (.int .u32 (x : Int)) := by simp [loadW, cellsAt, U]
theorem len_nil0 {K : AV → Prop} : lenW false (.seq 0 [] true) K = K (.int .i64 ((0 : Nat) : Int)) := by simp [lenW]
theorem rtext_fn {x : Int} {k : Nat} (t : Bool) (hx : Bd k x) (hk : k ≤ 1000000) : PFn Tryd.prog 29 [RefA x t] (Sx (iText x)) := by
  intro H Q hq
  have hdt := decT_bd hx
  have hl := hx.rlen
  obtain ⟨N, hN⟩ : ∃ N, N = x.natAbs := ⟨_, rfl⟩
  have hd10 : (digs 10 N).length ≤ 10 * k + 1 := by
    rw [hN]; unfold decT at hdt
    split at hdt
    · rename_i e; rw [e, digs_zero]; simp
    · simpa [dec] using hdt
  refine enter29 (by simp) ?_
  obtain ⟨neg, hneg⟩ : ∃ b, b = decide (x < 0) := ⟨_, rfl⟩
  simp (disch := first | assumption | (apply Ap.symm; assumption) | omega | decide | (simp only [Xd] <;> omega)) only [ac29, RefA, ← hN, ← hneg, ↓Xa, Xb, Xc, ↓reduceIte, Nat.reduceLT, Nat.reduceEqDiff, Nat.reduceBEq, Nat.reduceLeDiff, Nat.reduceAdd, Nat.reduceMul]
  refine alloc_i fun p1 hp1 => ?_
  have n1 := hp1
  simp (disch := first | assumption | (apply Ap.symm; assumption) | omega | decide | (simp only [Xd] <;> omega)) only [↓Xa, Xb, Xc, ↓reduceIte, Nat.reduceLT, Nat.reduceEqDiff, Nat.reduceBEq, Nat.reduceLeDiff, Nat.reduceAdd, Nat.reduceMul]
  refine W_loop (fun s : Nat × Bool × List Nat × AV × AHeap => ⟨[], [(1, .ptr p1 2 0), (3, s.2.2.2.1), (4, LS (digs 65536 s.1) s.2.1)], s.2.2.2.2⟩)
    (fun s => s.1 ≤ N ∧ digs 10 N = s.2.2.1 ++ digs 10 s.1 ∧ growC (H.upd p1 (some (.row 39 0 [.bool (neg), LS (digs 65536 N) t]))) 5 1 s.2.2.1.length (Bt (s.2.2.1.map chD)) s.2.2.2.1 s.2.2.2.2) (fun s => s.1) (N, t, [], .seq 0 [] true, _) (Settle.now rfl) ⟨Nat.le_refl _, rfl, growC_nil⟩ ?_
  rintro ⟨n, t', ds, y, H'⟩ ⟨hn, hds, hg⟩
  dsimp only at hn hds hg ⊢
  have hnl : (digs 65536 n).length ≤ 2 * k := digs_len (by omega) _ _ (Nat.lt_of_le_of_lt hn (by
    rw [hN]
    have h : x.natAbs < 4294967296 ^ k := hx
    rwa [show (4294967296 : Nat) = 65536 ^ 2 from rfl, ← Nat.pow_mul] at h))
  have hdsl : ds.length + (digs 10 n).length ≤ 10 * k + 1 := by rw [hds, List.length_append] at hd10; exact hd10
  rcases Nat.eq_zero_or_pos n with rfl | hpos
  · rw [digs_zero, List.append_nil] at hds
    subst hds
    simp (disch := first | assumption | (apply Ap.symm; assumption) | omega | decide | (simp only [Xd] <;> omega)) only [digs_zero, List.length_nil, ↓Xa, Xb, Xc, ↓reduceIte, Nat.reduceLT, Nat.reduceEqDiff, Nat.reduceBEq, Nat.reduceLeDiff, Nat.reduceAdd, Nat.reduceMul]
    refine Settle.now ?_
    have hmap : ((digs 10 N).map chD).reverse = dec N := by rw [← List.map_reverse]; rfl
    rcases hg with ⟨h0, hc, rfl, rfl⟩ | ⟨hn0, hcl, b, hb, rfl, rfl⟩
    · have hN0 : N = 0 := by
        rcases Nat.eq_zero_or_pos N with e | e
        · exact e
        · rw [digs_pos (by omega) e] at h0; simp at h0
      have hx0 : x = 0 := by omega
      simp (disch := first | assumption | (apply Ap.symm; assumption) | omega | decide | (simp only [Xd] <;> omega)) only [len_nil0, str_Sx, rs29, ↓Xa, Xb, Xc, ↓reduceIte, Nat.reduceLT, Nat.reduceEqDiff, Nat.reduceBEq, Nat.reduceLeDiff, Nat.reduceAdd, Nat.reduceMul]
      refine SetR.dropTo ((Le.refl H).upd n1) (SetR.now ?_)
      rw [hx0] at hq
      exact hq
    · have hn0' : ¬ (digs 10 N).length = 0 := by omega
      have hbp := (upd_none.1 hb).1
      have hN0 : N ≠ 0 := by rintro rfl; rw [digs_zero] at hn0; simp at hn0
      have tail : ∀ (m : List UInt8) (b : Nat), (H.upd p1 (some (.row 39 0 [.bool (neg), LS (digs 65536 N) t]))) b = none → m.length ≤ 10 * k + 2 → m.reverse = iText x →
          W Tryd.prog (sndC (sndC (sndC (sndC (sndC (sndC ac29)))))) (retN rs29 Q) ⟨[], [(3, .own b m.length 0 m.length false)], (H.upd p1 (some (.row 39 0 [.bool (neg), LS (digs 65536 N) t]))).upd b (some (.row 5 1 (Bt m)))⟩ := by
        intro m b hb hm hrev
        simp (disch := first | assumption | (apply Ap.symm; assumption) | omega | decide | (simp only [Xd] <;> omega)) only [sndC, ac29, ↓Xa, Xb, Xc, ↓reduceIte, Nat.reduceLT, Nat.reduceEqDiff, Nat.reduceBEq, Nat.reduceLeDiff, Nat.reduceAdd, Nat.reduceMul]
        refine W_loop (fun i : Nat => ⟨[], [(3, .own b m.length 0 m.length false), (8, .int .i64 (i : Int))], (H.upd p1 (some (.row 39 0 [.bool (neg), LS (digs 65536 N) t]))).upd b (some (.row 5 1 (Bt (revI i m))))⟩) (fun i => i ≤ m.length / 2) (fun i => m.length / 2 - i) 0 (Settle.now (by rw [revI_zero])) (Nat.zero_le _) ?_
        intro i hi
        have hlr := revI_len i m
        have hbl : (Bt (revI i m)).length = m.length := by rw [Bt_len, hlr]
        by_cases hlt : i < m.length / 2
        · have hi2 : i < m.length := by omega
          have hlr2 : ((revI i m).set i (UInt8.ofNat ((revI i m).getD (m.length - 1 - i) 0).toNat)).length = m.length := by simp [hlr]
          have u1 : ((revI i m).getD (m.length - 1 - i) 0).toNat < 256 := UInt8.toNat_lt _
          have u2 : ((revI i m).getD i 0).toNat < 256 := UInt8.toNat_lt _
          simp (disch := first | assumption | (apply Ap.symm; assumption) | omega | decide | (simp only [Xd] <;> omega)) only [len_ownk, hlt, ldP_Bt, dstP_Bt, stP_Bt, ↓Xa, Xb, Xc, ↓reduceIte, Nat.reduceLT, Nat.reduceEqDiff, Nat.reduceBEq, Nat.reduceLeDiff, Nat.reduceAdd, Nat.reduceMul]
          refine ⟨by decide, by rw [Bt_len]; exact hlr2, Settle.now ⟨i + 1, by omega, by omega, ?_⟩⟩
          rw [UInt8.ofNat_toNat, UInt8.ofNat_toNat, revI_get (by omega), if_neg (by omega), revI_get (by omega), if_neg (by omega), revI_step hlt]
        · simp (disch := first | assumption | (apply Ap.symm; assumption) | omega | decide | (simp only [Xd] <;> omega)) only [len_ownk, hlt, ↓Xa, Xb, Xc, ↓reduceIte, Nat.reduceLT, Nat.reduceEqDiff, Nat.reduceBEq, Nat.reduceLeDiff, Nat.reduceAdd, Nat.reduceMul]
          refine ⟨by decide, Settle.now ?_⟩
          rw [revI_half (by omega), hrev]
          have hll : (iText x).length = m.length := by rw [← hrev, List.length_reverse]
          have e2 : (Bt (iText x)).length = m.length := by rw [Bt_len, hll]
          simp (disch := first | assumption | (apply Ap.symm; assumption) | omega | decide | (simp only [Xd] <;> omega)) only [↓Xa, Xb, Xc, ↓reduceIte, Nat.reduceLT, Nat.reduceEqDiff, Nat.reduceBEq, Nat.reduceLeDiff, Nat.reduceAdd, Nat.reduceMul]
          rw [List.take_of_length_le (by omega), bytesOf_Bt]
          simp (disch := first | assumption | (apply Ap.symm; assumption) | omega | decide | (simp only [Xd] <;> omega)) only [strK, str_Sx, rs29, ↓Xa, Xb, Xc, ↓reduceIte, Nat.reduceLT, Nat.reduceEqDiff, Nat.reduceBEq, Nat.reduceLeDiff, Nat.reduceAdd, Nat.reduceMul]
          exact SetR.dropTo ((Le.refl H).upd n1 |>.upd hb) (SetR.now hq)
      cases neg with
      | true =>
        simp (disch := first | assumption | (apply Ap.symm; assumption) | omega | decide | (simp only [Xd] <;> omega)) only [len_ownk, hn0', ↓Xa, Xb, Xc, ↓reduceIte, Nat.reduceLT, Nat.reduceEqDiff, Nat.reduceBEq, Nat.reduceLeDiff, Nat.reduceAdd, Nat.reduceMul]
        refine app_C (.inr ⟨hn0, hcl, b, hb, by rw [Nat.mul_one], rfl⟩) rfl rfl (by omega) (by omega) (by omega) fun y' H2 hg2 => ?_
        rcases hg2 with ⟨h0, _⟩ | ⟨_, hcl2, b2, hb2, rfl, rfl⟩
        · omega
        have tl := tail ((digs 10 N).map chD ++ [45]) b2 hb2 (by simp; omega) (by rw [List.reverse_append, hmap]; simp [iText, of_decide_eq_true hneg.symm, ← hN, decT, hN0])
        rw [List.length_append, List.length_map, Bt_app] at tl
        simp (disch := first | assumption | (apply Ap.symm; assumption) | omega | decide | (simp only [Xd] <;> omega)) only [sndC, ac29, List.length_cons, List.length_nil, ↓Xa, Xb, Xc, ↓reduceIte, Nat.reduceLT, Nat.reduceEqDiff, Nat.reduceBEq, Nat.reduceLeDiff, Nat.reduceAdd, Nat.reduceMul] at tl
        simp (disch := first | assumption | (apply Ap.symm; assumption) | omega | decide | (simp only [Xd] <;> omega)) only [↓Xa, Xb, Xc, ↓reduceIte, Nat.reduceLT, Nat.reduceEqDiff, Nat.reduceBEq, Nat.reduceLeDiff, Nat.reduceAdd, Nat.reduceMul]
        exact tl
      | false =>
        have tl := tail ((digs 10 N).map chD) b hb (by simp; omega) (by rw [hmap]; simp [iText, of_decide_eq_false hneg.symm, ← hN, decT, hN0])
        rw [List.length_map] at tl
        simp (disch := first | assumption | (apply Ap.symm; assumption) | omega | decide | (simp only [Xd] <;> omega)) only [sndC, ac29, ↓Xa, Xb, Xc, ↓reduceIte, Nat.reduceLT, Nat.reduceEqDiff, Nat.reduceBEq, Nat.reduceLeDiff, Nat.reduceAdd, Nat.reduceMul] at tl
        simp (disch := first | assumption | (apply Ap.symm; assumption) | omega | decide | (simp only [Xd] <;> omega)) only [len_ownk, hn0', ↓Xa, Xb, Xc, ↓reduceIte, Nat.reduceLT, Nat.reduceEqDiff, Nat.reduceBEq, Nat.reduceLeDiff, Nat.reduceAdd, Nat.reduceMul]
        exact tl
  · have h10 : digs 65536 10 = [10] := by rw [digs1 (by omega)]; rfl
    have hdv := rdivide_fn (A := n) (V := 10) t' true (by omega) (by omega) (by rw [h10]; simp)
    rw [h10] at hdv
    have hlp : 0 < (digs 65536 n).length := by rw [digs_pos (by omega) hpos]; simp
    simp (disch := first | assumption | (apply Ap.symm; assumption) | omega | decide | (simp only [Xd] <;> omega)) only [hlp, rep1, ↓Xa, Xb, Xc, ↓reduceIte, Nat.reduceLT, Nat.reduceEqDiff, Nat.reduceBEq, Nat.reduceLeDiff, Nat.reduceAdd, Nat.reduceMul]
    refine hdv.call ?_
    have hm : n % 10 < 10 := Nat.mod_lt _ (by omega)
    have hlt : n / 10 < n := Nat.div_lt_self hpos (by omega)
    have fin : ∀ (y' : AV) (H2 : AHeap), growC (H.upd p1 (some (.row 39 0 [.bool (neg), LS (digs 65536 N) t]))) 5 1 (ds.length + 1) (Bt (ds.map chD) ++ [.int .u8 ((48 + n % 10 : Nat) : Int)]) y' H2 →
        Settle (fun s' => ∃ x' : Nat × Bool × List Nat × AV × AHeap, x'.1 < n ∧ (x'.1 ≤ N ∧ digs 10 N = x'.2.2.1 ++ digs 10 x'.1 ∧ growC (H.upd p1 (some (.row 39 0 [.bool (neg), LS (digs 65536 N) t]))) 5 1 x'.2.2.1.length (Bt (x'.2.2.1.map chD)) x'.2.2.2.1 x'.2.2.2.2) ∧ s' = ⟨[], [(1, .ptr p1 2 0), (3, x'.2.2.2.1), (4, LS (digs 65536 x'.1) x'.2.1)], x'.2.2.2.2⟩)
          ⟨[], [(1, .ptr p1 2 0), (3, y'), (4, LS (digs 65536 (n / 10)) false)], H2⟩ := by
      intro y' H2 h
      refine Settle.now ⟨(n / 10, false, ds ++ [n % 10], y', H2), hlt, ⟨by dsimp only; omega, ?_, ?_⟩, rfl⟩
      · dsimp only; rw [hds, digs_pos (by omega) hpos]; simp
      · dsimp only
        rw [List.map_append, Bt_app, List.length_append]
        rw [Bt_one (by omega)] at h
        exact h
    have hb13 : ds.length ≤ 10000002 := by omega
    clear hd10 hdt hl hnl hdsl
    by_cases hz : n % 10 = 0
    · have e : digs 65536 (n % 10) = [] := by rw [hz, digs_zero]
      rw [e]
      simp (disch := first | assumption | (apply Ap.symm; assumption) | omega | decide | (simp only [Xd] <;> omega)) only [List.length_nil, wn_u8', ↓Xa, Xb, Xc, ↓reduceIte, Nat.reduceLT, Nat.reduceEqDiff, Nat.reduceBEq, Nat.reduceLeDiff, Nat.reduceAdd, Nat.reduceMul]
      refine app_C hg rfl rfl (by omega) (by omega) (by omega) fun y' H2 hg2 => ?_
      simp (disch := first | assumption | (apply Ap.symm; assumption) | omega | decide | (simp only [Xd] <;> omega)) only [↓Xa, Xb, Xc, ↓reduceIte, Nat.reduceLT, Nat.reduceEqDiff, Nat.reduceBEq, Nat.reduceLeDiff, Nat.reduceAdd, Nat.reduceMul]
      exact fin y' H2 (by rw [hz]; exact hg2)
    · have e : digs 65536 (n % 10) = [n % 10] := by rw [digs1 (by omega), if_neg hz]
      rw [e]
      simp (disch := first | assumption | (apply Ap.symm; assumption) | omega | decide | (simp only [Xd] <;> omega)) only [List.length_cons, List.length_nil, wn_u8', load_U1, ↓Xa, Xb, Xc, ↓reduceIte, Nat.reduceLT, Nat.reduceEqDiff, Nat.reduceBEq, Nat.reduceLeDiff, Nat.reduceAdd, Nat.reduceMul]
      refine app_C (m := 1) (bytes := 1) hg rfl rfl (by omega) (by omega) (by omega) fun y' H2 hg2 => ?_
      simp (disch := first | assumption | (apply Ap.symm; assumption) | omega | decide | (simp only [Xd] <;> omega)) only [↓Xa, Xb, Xc, ↓reduceIte, Nat.reduceLT, Nat.reduceEqDiff, Nat.reduceBEq, Nat.reduceLeDiff, Nat.reduceAdd, Nat.reduceMul]
      exact fin y' H2 hg2
end Go.Proofs.YtanchgkiomfhhaaDoor.Fw

/- A number's text is read as it; what is read has its text. -/
namespace Go.Proofs.YtanchgkiomfhhaaDoor.Fw
set_option linter.unusedSimpArgs false
set_option linter.unusedVariables false
open Go Go.Proofs.YtanchgkiomfhhaaDoor.Ma
set_option maxRecDepth 20000

theorem isAt_of_good {m : List UInt8} (neg : Bool) (hg : Good m) (h0 : neg = true → (m.getD 0 0).toNat ≠ 48) :
    iFrom ((if neg then [45] else []) ++ m) = (if neg then 1 else 0) ∧ IsAt ((if neg then [45] else []) ++ m) ((if neg then [45] else []) ++ m).length ∧ ((if neg then [45] else []) ++ m).drop (iFrom ((if neg then [45] else []) ++ m)) = m := by
  obtain ⟨g1, g2, g3⟩ := hg
  have hpos : 0 < m.length := List.length_pos_iff.2 g1
  have dig : ∀ i, i < m.length → 48 ≤ (m.getD i 0).toNat ∧ (m.getD i 0).toNat ≤ 57 := fun i hi => by
    have := g2 _ (List.getElem_mem hi)
    rw [List.getD_eq_getElem?_getD, List.getElem?_eq_getElem hi, Option.getD_some]; exact this
  have hf : iFrom ((if neg then [45] else []) ++ m) = (if neg then 1 else 0) := by
    cases neg with
    | true => simp [iFrom]
    | false =>
      have := dig 0 hpos
      simp only [iFrom, Bool.false_eq_true, if_false, List.nil_append]
      rw [if_neg (by omega)]
  refine ⟨hf, ⟨(iFrom_le _).1, Nat.le_refl _, iBad_end _, fun j h1 h2 hb => ?_⟩, ?_⟩
  · rw [hf] at h1
    unfold iBad at hb
    rw [hf] at hb
    cases neg with
    | true =>
      simp only [if_true, List.length_append, List.length_cons, List.length_nil] at h1 h2 hb
      obtain ⟨i, rfl⟩ : ∃ i, j = i + 1 := ⟨j - 1, by omega⟩
      have e : ([45] ++ m).getD (i + 1) 0 = m.getD i 0 := by simp [List.getD_eq_getElem?_getD]
      have e1 : ([45] ++ m).getD 1 0 = m.getD 0 0 := by simp [List.getD_eq_getElem?_getD]
      have d := dig i (by omega)
      have := h0 rfl
      rw [e, e1] at hb
      rcases hb with hb | hb | ⟨hb, _⟩ | ⟨hb, _, hb2⟩
      · omega
      · omega
      · omega
      · have : i = 0 := by omega
        subst this; omega
    | false =>
      simp only [Bool.false_eq_true, if_false, List.nil_append] at h1 h2 hb
      have d := dig j h2
      rcases hb with hb | hb | ⟨hb, hb2⟩ | ⟨_, hb, _⟩
      · omega
      · omega
      · rcases g3 with g3 | g3
        · omega
        · exact g3 hb2
      · omega
  · rw [hf]; cases neg <;> simp
theorem iText_at (x : Int) : IsAt (iText x) (iText x).length ∧ (iText x).length ≠ iFrom (iText x) ∧ iVal (iText x) = x := by
  have hg := good_decT x.natAbs
  have hpos : 0 < (decT x.natAbs).length := List.length_pos_iff.2 hg.1
  have h0 : decide (x < 0) = true → ((decT x.natAbs).getD 0 0).toNat ≠ 48 := fun h hz => by
    have h := of_decide_eq_true h
    rcases hg.2.2 with g | g
    · have hd : decT x.natAbs = [48] := by
        match hm : decT x.natAbs, g with
        | [b], _ =>
          rw [hm] at hz
          have hz2 : b.toNat = 48 := by simpa using hz
          have : b = 48 := UInt8.toNat_inj.1 hz2
          rw [this]
      have := decV_decT x.natAbs
      rw [hd] at this
      have e : decV [48] = 0 := rfl
      omega
    · exact g hz
  obtain ⟨a, b, c⟩ := isAt_of_good (decide (x < 0)) hg h0
  have e : (if decide (x < 0) then [45] else []) ++ decT x.natAbs = iText x := by simp [iText]
  rw [e] at a b c
  refine ⟨b, ?_, ?_⟩
  · intro k
    have := congrArg List.length c
    rw [List.length_drop, ← k] at this
    omega
  · unfold iVal
    rw [c, decV_decT, a]
    by_cases h : x < 0 <;> simp [h, sg] <;> omega
end Go.Proofs.YtanchgkiomfhhaaDoor.Fw

/- Rows that grow, two at once, or beside memory that turns. -/
namespace Go.Proofs.YtanchgkiomfhhaaDoor.Fw
set_option linter.unusedSimpArgs false
set_option linter.unusedVariables false
open Go Go.Proofs.YtanchgkiomfhhaaDoor.Ma
set_option maxRecDepth 20000

theorem app_under {H0 H1 H : AHeap} {ty es bytes n m ty' es' n' : Nat} {cells ys cells' : List AV} {x y : AV} {t : Bool} {K : AV → AHeap → Prop} (h : growC H0 ty es n cells x H1) (h2 : growC H1 ty' es' n' cells' y H) (hy : ys.length = m * es) (hc : ys.all AV.cell = true) (hm : 0 < m) (hb : (n + m) * bytes ≤ 70368744177664) (hb2 : n + m ≤ 70368744177664)
    (k : ∀ x' H1' H', growC H0 ty es (n + m) (cells ++ ys) x' H1' → growC H1' ty' es' n' cells' y H' → K x' H') : appV H ty es bytes x (.seq m ys t) K := by
  refine .inl ⟨hy, hc, ?_⟩
  rcases h with ⟨rfl, rfl, rfl, rfl⟩ | ⟨hn, hl, b, hb', rfl, rfl⟩
  · refine ⟨rfl, by simp, hb, hb2, fun e => absurd e (by omega), fun _ b hbn => ?_⟩
    rcases h2 with ⟨rfl, rfl, rfl, rfl⟩ | ⟨hn2, hl2, b2, hb2', rfl, rfl⟩
    · exact k _ _ _ (.inr ⟨by omega, by simp [hy], b, hbn, rfl, by simp⟩) growC_nil
    · obtain ⟨e, e2⟩ := upd_none.1 hbn
      refine k _ _ _ (.inr ⟨by omega, by simp [hy], b, e2, rfl, rfl⟩) (.inr ⟨hn2, hl2, b2, ?_, rfl, ?_⟩)
      · rw [upd_other _ _ (Ne.symm e)]; exact hb2'
      · simp only [List.nil_append]; exact upd_comm _ _ _ (Ne.symm e)
  · rcases h2 with ⟨rfl, rfl, rfl, rfl⟩ | ⟨hn2, hl2, b2, hb2', rfl, rfl⟩
    · dsimp only
      rw [upd_same]
      refine ⟨hl, rfl, rfl, rfl, rfl, hb, hb2, ?_⟩
      exact k _ _ _ (.inr ⟨by omega, by rw [List.length_append, hl, hy, Nat.add_mul], b, hb', rfl, by rw [upd_upd]⟩) growC_nil
    · obtain ⟨e, e2⟩ := upd_none.1 hb2'
      dsimp only
      rw [upd_other _ _ (Ne.symm e), upd_same]
      refine ⟨hl, rfl, rfl, rfl, rfl, hb, hb2, ?_⟩
      refine k _ (H0.upd b (some (.row ty es (cells ++ ys)))) _ (.inr ⟨by omega, by rw [List.length_append, hl, hy, Nat.add_mul], b, hb', rfl, rfl⟩) (.inr ⟨hn2, hl2, b2, upd_none.2 ⟨e, e2⟩, rfl, ?_⟩)
      rw [upd_comm _ _ _ e, upd_upd]
theorem growC_fin2 {H0 H1 H : AHeap} {ty es n ty' es' n' : Nat} {cells cells' : List AV} {x y : AV} {Q : AV → AHeap → Prop} (h : growC H0 ty es n cells x H1) (h2 : growC H1 ty' es' n' cells' y H) (hq : Q (.tup [.seq n cells false, .seq n' cells' false]) H0) : SetR Q (.tup [x, y]) H := by
  rcases h with ⟨rfl, rfl, rfl, rfl⟩ | ⟨hn, hl, b, hb, rfl, rfl⟩ <;> rcases h2 with ⟨rfl, rfl, rfl, rfl⟩ | ⟨hn2, hl2, b2, hb2, rfl, rfl⟩
  · exact SetR.loose (SetR.now hq)
  · refine SetR.loose (SetR.frz b2 (upd_same _ _ _) ?_)
    rw [upd_upd, upd_back _ hb2]
    have e : frz b2 es' cells' (loose (.tup [.seq 0 [] true, .own b2 (n' * es') 0 n' false])) = .tup [.seq 0 [] false, .seq n' cells' false] := by simp [frz, frz2, frz1, loose, loose2, loose1, hl2, List.take_of_length_le]
    rw [e]; exact SetR.now hq
  · refine SetR.loose (SetR.frz b (upd_same _ _ _) ?_)
    rw [upd_upd, upd_back _ hb]
    have e : frz b es cells (loose (.tup [.own b (n * es) 0 n false, .seq 0 [] true])) = .tup [.seq n cells false, .seq 0 [] false] := by simp [frz, frz2, frz1, loose, loose2, loose1, hl, List.take_of_length_le]
    rw [e]; exact SetR.now hq
  · obtain ⟨e, e2⟩ := upd_none.1 hb2
    refine SetR.frz b2 (upd_same _ _ _) ?_
    rw [upd_upd, upd_back _ hb2]
    have e1 : frz b2 es' cells' (.tup [.own b (n * es) 0 n false, .own b2 (n' * es') 0 n' false]) = .tup [.own b (n * es) 0 n false, .seq n' cells' false] := by simp [frz, frz2, frz1, hl2, List.take_of_length_le, Ne.symm e]
    rw [e1]
    refine SetR.frz b (upd_same _ _ _) ?_
    rw [upd_upd, upd_back _ hb]
    have e3 : frz b es cells (.tup [.own b (n * es) 0 n false, .seq n' cells' false]) = .tup [.seq n cells false, .seq n' cells' false] := by simp [frz, frz2, frz1, hl, List.take_of_length_le]
    rw [e3]; exact SetR.now hq
theorem growC_fin1 {H0 H : AHeap} {ty es n : Nat} {cells : List AV} {x : AV} {k : IntKind} {e : Int} {Q : AV → AHeap → Prop} (h : growC H0 ty es n cells x H) (hq : Q (.tup [.seq n cells false, .int k e]) H0) : SetR Q (.tup [x, .int k e]) H := by
  rcases h with ⟨rfl, rfl, rfl, rfl⟩ | ⟨hn, hl, b, hb, rfl, rfl⟩
  · exact SetR.loose (SetR.now hq)
  · refine SetR.frz b (upd_same _ _ _) ?_
    rw [upd_upd, upd_back _ hb]
    have e : frz b es cells (.tup [.own b (n * es) 0 n false, .int k e]) = .tup [.seq n cells false, .int k e] := by simp [frz, frz2, frz1, hl, List.take_of_length_le]
    rw [e]; exact SetR.now hq
theorem growC_move {H0 H M : AHeap} {ty es n : Nat} {cells : List AV} {y : AV} (h : growC H0 ty es n cells y H) (hm : ∀ b, H0 b = none → H b ≠ none → M b = H b) : ∃ H1, growC H1 ty es n cells y M ∧ ∀ H2, Le H2 M → (∀ b, H0 b = none → H2 b = none) → Le H2 H1 := by
  rcases h with ⟨rfl, rfl, rfl, rfl⟩ | ⟨hn, hl, b, hb, rfl, rfl⟩
  · exact ⟨M, growC_nil, fun _ h _ => h⟩
  · have e := hm b hb (by rw [upd_same]; simp)
    rw [upd_same] at e
    refine ⟨M.upd b none, .inr ⟨hn, hl, b, upd_same _ _ _, rfl, by rw [upd_upd, upd_back _ e]⟩, fun H2 h h3 i x hi => ?_⟩
    have hib : i ≠ b := by rintro rfl; rw [h3 _ hb] at hi; cases hi
    rw [upd_other _ _ hib]; exact h i x hi
theorem growC_le2 {H1 H2 M : AHeap} {ty es n : Nat} {cells : List AV} {y : AV} (h : growC H1 ty es n cells y M) (hl : Le H2 H1) : ∃ M2, growC H2 ty es n cells y M2 ∧ Le M2 M := by
  rcases h with ⟨rfl, rfl, rfl, rfl⟩ | ⟨hn, hlen, b, hb, rfl, rfl⟩
  · exact ⟨H2, growC_nil, hl⟩
  · have hb2 : H2 b = none := by
      cases e : H2 b with
      | none => rfl
      | some x => have := hl b x e; rw [hb] at this; cases this
    refine ⟨_, .inr ⟨hn, hlen, b, hb2, rfl, rfl⟩, fun i x hi => ?_⟩
    by_cases e : i = b
    · subst e; rw [upd_same] at hi ⊢; exact hi
    · rw [upd_other _ _ e] at hi ⊢; exact hl i x hi
theorem growC_none {H0 H : AHeap} {ty es n : Nat} {cells : List AV} {y : AV} (h : growC H0 ty es n cells y H) {b : Nat} (hb : H b = none) : H0 b = none := by
  cases e : H0 b with
  | none => rfl
  | some x => rw [growC_le h b x e] at hb; cases hb
theorem growC_upd {H0 H : AHeap} {ty es n : Nat} {cells : List AV} {y : AV} (h : growC H0 ty es n cells y H) {q : Nat} {r : ABlk} (hq : H q = none) : growC (H0.upd q (some r)) ty es n cells y (H.upd q (some r)) := by
  rcases h with ⟨rfl, rfl, rfl, rfl⟩ | ⟨hn, hlen, b, hb, rfl, rfl⟩
  · exact growC_nil
  · obtain ⟨e, e2⟩ := upd_none.1 hq
    refine .inr ⟨hn, hlen, b, upd_none.2 ⟨Ne.symm e, hb⟩, rfl, upd_comm _ _ _ (Ne.symm e)⟩
end Go.Proofs.YtanchgkiomfhhaaDoor.Fw
