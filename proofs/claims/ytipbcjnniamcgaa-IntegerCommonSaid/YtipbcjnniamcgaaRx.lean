/- The law of the greatest common divisor, as what its code computes: true. -/
import Derived.Test.YtipbcjnniamcgaaRw
namespace Go.Proofs.Ytipbcjnniamcgaa.Fw
set_option linter.unusedSimpArgs false
set_option linter.unusedVariables false
open Go Go.Proofs.Ytipbcjnniamcgaa.Ma
set_option maxRecDepth 20000

theorem Bd.one {x : Int} {k : Nat} (h : x.natAbs ≤ 1) (hk : 1 ≤ k) : Bd k x := by
  unfold Bd
  have : (4294967296 : Nat) ^ 1 ≤ 4294967296 ^ k := Nat.pow_le_pow_right (by omega) hk
  omega
theorem Bd.lt {x y : Int} {k : Nat} (h : Bd k y) (hl : x.natAbs ≤ y.natAbs) : Bd k x := Nat.lt_of_le_of_lt hl h
/-- How great the two factors are. -/
theorem bez_bd {x y u v : Int} {k : Nat} (hk : 1 ≤ k) (hx : Bd k x) (hy : Bd k y) (h : BezF x y u v) : Bd k u ∧ Bd (k + k + 1) v ∧ Bd k (Int.gcd x y : Int) := by
  obtain ⟨h1, h2, h3⟩ := h
  by_cases y0 : y = 0
  · obtain ⟨rfl, rfl⟩ := h2 y0
    subst y0
    refine ⟨Bd.one (by unfold sgnI; (repeat' split) <;> omega) hk, Bd.zero _, ?_⟩
    rw [Int.gcd_zero_right]; exact hx.abs
  · obtain ⟨h4, h5⟩ := h3 y0
    have hg0 : Int.gcd x y ≠ 0 := fun z => y0 (Int.gcd_eq_zero_iff.1 z).2
    have gy : (Int.gcd x y : Int) ∣ y := Int.gcd_dvd_right x y
    have gle : Int.gcd x y ≤ y.natAbs := by
      have := Nat.le_of_dvd (by omega) (Int.natAbs_dvd_natAbs.2 gy)
      omega
    have bg : Bd k (Int.gcd x y : Int) := hy.lt (by omega)
    have dle : (y.natAbs : Int) / (Int.gcd x y : Int) ≤ (y.natAbs : Int) := Int.ediv_le_self _ (by omega)
    have bu : Bd k u := hy.lt (by omega)
    have e : v * y = (Int.gcd x y : Int) - u * x := by omega
    have b2 : Bd (k + k + 1) (v * y) := by rw [e]; exact (bg.mono (show k ≤ k + k by omega)).sub (bu.mul hx)
    refine ⟨bu, b2.lt ?_, bg⟩
    rw [Int.natAbs_mul]
    exact Nat.le_mul_of_pos_right _ (by omega)

theorem common_law (a b : Bool × List Nat × Bool) (ha : Lim 4294967296 a.2.1) (hb : Lim 4294967296 b.2.1) (la : a.2.1.length < 9223372036854775808) (lb : b.2.1.length < 9223372036854775808) :
    PFn Try.prog 7 [NumA a, NumA b] (.bool true) := by
  intro H Q hq
  refine enter7 (by simp) ?_
  simp (disch := first | assumption | (apply Ap.symm; assumption) | omega | decide | (simp only [U_len, List.length_append, List.length_replicate, List.length_cons, List.length_nil, List.length_set] <;> omega) | fail) only [ac7, NumA, ↓Xa, Xb, Xc, ↓reduceIte, Nat.reduceLT, Nat.reduceEqDiff, Nat.reduceBEq, Nat.reduceLeDiff, Nat.reduceAdd, Nat.reduceMul]
  refine alloc_i fun p1 hp1 => ?_
  have n1 := hp1
  simp (disch := first | assumption | (apply Ap.symm; assumption) | omega | decide | (simp only [U_len, List.length_append, List.length_replicate, List.length_cons, List.length_nil, List.length_set] <;> omega) | fail) only [↓Xa, Xb, Xc, ↓reduceIte, Nat.reduceLT, Nat.reduceEqDiff, Nat.reduceBEq, Nat.reduceLeDiff, Nat.reduceAdd, Nat.reduceMul]
  refine alloc_i fun p2 hp2 => ?_
  have n2 := hp2
  simp only [upd_none] at n2
  obtain ⟨_, n2⟩ := n2
  simp (disch := first | assumption | (apply Ap.symm; assumption) | omega | decide | (simp only [U_len, List.length_append, List.length_replicate, List.length_cons, List.length_nil, List.length_set] <;> omega) | fail) only [↓Xa, Xb, Xc, ↓reduceIte, Nat.reduceLT, Nat.reduceEqDiff, Nat.reduceBEq, Nat.reduceLeDiff, Nat.reduceAdd, Nat.reduceMul]
  refine live_fn.call ?_
  simp (disch := first | assumption | (apply Ap.symm; assumption) | omega | decide | (simp only [U_len, List.length_append, List.length_replicate, List.length_cons, List.length_nil, List.length_set] <;> omega) | fail) only [rep24, ↓Xa, Xb, Xc, ↓reduceIte, Nat.reduceLT, Nat.reduceEqDiff, Nat.reduceBEq, Nat.reduceLeDiff, Nat.reduceAdd, Nat.reduceMul]
  refine (long_fn [a, b] true (by simp) (by simp [la, lb])).call ?_
  by_cases hl : a.2.1.length ≤ 60 ∧ b.2.1.length ≤ 60
  · have e : ([a, b].any fun q => decide (60 < q.2.1.length)) = false := by simp; omega
    rw [e]
    simp (disch := first | assumption | (apply Ap.symm; assumption) | omega | decide | (simp only [U_len, List.length_append, List.length_replicate, List.length_cons, List.length_nil, List.length_set] <;> omega) | fail) only [↓Xa, Xb, Xc, ↓reduceIte, Nat.reduceLT, Nat.reduceEqDiff, Nat.reduceBEq, Nat.reduceLeDiff, Nat.reduceAdd, Nat.reduceMul]
    refine (ofn_fn a ha (by omega)).call ?_
    have hx : Bd 60 (sg a.1 (val 4294967296 a.2.1)) := (Bd.of_val ha).mono (by omega)
    have hy : Bd 60 (sg b.1 (val 4294967296 b.2.1)) := (Bd.of_val hb).mono (by omega)
    simp (disch := first | assumption | (apply Ap.symm; assumption) | omega | decide | (simp only [U_len, List.length_append, List.length_replicate, List.length_cons, List.length_nil, List.length_set] <;> omega) | fail) only [↓Xa, Xb, Xc, ↓reduceIte, Nat.reduceLT, Nat.reduceEqDiff, Nat.reduceBEq, Nat.reduceLeDiff, Nat.reduceAdd, Nat.reduceMul]
    refine alloc_i fun p3 hp3 => ?_
    have n3 := hp3
    simp only [upd_none] at n3
    obtain ⟨_, _, n3⟩ := n3
    simp (disch := first | assumption | (apply Ap.symm; assumption) | omega | decide | (simp only [U_len, List.length_append, List.length_replicate, List.length_cons, List.length_nil, List.length_set] <;> omega) | fail) only [↓Xa, Xb, Xc, ↓reduceIte, Nat.reduceLT, Nat.reduceEqDiff, Nat.reduceBEq, Nat.reduceLeDiff, Nat.reduceAdd, Nat.reduceMul]
    refine alloc_i fun p4 hp4 => ?_
    have n4 := hp4
    simp only [upd_none] at n4
    obtain ⟨_, _, _, n4⟩ := n4
    simp (disch := first | assumption | (apply Ap.symm; assumption) | omega | decide | (simp only [U_len, List.length_append, List.length_replicate, List.length_cons, List.length_nil, List.length_set] <;> omega) | fail) only [cells_IntA, cells_RefA, ↓Xa, Xb, Xc, ↓reduceIte, Nat.reduceLT, Nat.reduceEqDiff, Nat.reduceBEq, Nat.reduceLeDiff, Nat.reduceAdd, Nat.reduceMul]
    refine (ofn_fn b hb (by omega)).call ?_
    generalize sg a.1 (val 4294967296 a.2.1) = x at *
    generalize sg b.1 (val 4294967296 b.2.1) = y at *
    simp (disch := first | assumption | (apply Ap.symm; assumption) | omega | decide | (simp only [U_len, List.length_append, List.length_replicate, List.length_cons, List.length_nil, List.length_set] <;> omega) | fail) only [↓Xa, Xb, Xc, ↓reduceIte, Nat.reduceLT, Nat.reduceEqDiff, Nat.reduceBEq, Nat.reduceLeDiff, Nat.reduceAdd, Nat.reduceMul]
    refine alloc_i fun p5 hp5 => ?_
    have n5 := hp5
    simp only [upd_none] at n5
    obtain ⟨_, _, _, _, n5⟩ := n5
    simp (disch := first | assumption | (apply Ap.symm; assumption) | omega | decide | (simp only [U_len, List.length_append, List.length_replicate, List.length_cons, List.length_nil, List.length_set] <;> omega) | fail) only [↓Xa, Xb, Xc, ↓reduceIte, Nat.reduceLT, Nat.reduceEqDiff, Nat.reduceBEq, Nat.reduceLeDiff, Nat.reduceAdd, Nat.reduceMul]
    refine alloc_i fun p6 hp6 => ?_
    have n6 := hp6
    simp only [upd_none] at n6
    obtain ⟨_, _, _, _, _, n6⟩ := n6
    simp (disch := first | assumption | (apply Ap.symm; assumption) | omega | decide | (simp only [U_len, List.length_append, List.length_replicate, List.length_cons, List.length_nil, List.length_set] <;> omega) | fail) only [cells_IntA, cells_RefA, fold_IntA, fold_RefA, ↓Xa, Xb, Xc, ↓reduceIte, Nat.reduceLT, Nat.reduceEqDiff, Nat.reduceBEq, Nat.reduceLeDiff, Nat.reduceAdd, Nat.reduceMul]
    refine (rgcd_fn hx (by omega) hy).call ?_
    simp (disch := first | assumption | (apply Ap.symm; assumption) | omega | decide | (simp only [U_len, List.length_append, List.length_replicate, List.length_cons, List.length_nil, List.length_set] <;> omega) | fail) only [↓Xa, Xb, Xc, ↓reduceIte, Nat.reduceLT, Nat.reduceEqDiff, Nat.reduceBEq, Nat.reduceLeDiff, Nat.reduceAdd, Nat.reduceMul]
    refine alloc_i fun p7 hp7 => ?_
    have n7 := hp7
    simp only [upd_none] at n7
    obtain ⟨_, _, _, _, _, _, n7⟩ := n7
    simp (disch := first | assumption | (apply Ap.symm; assumption) | omega | decide | (simp only [U_len, List.length_append, List.length_replicate, List.length_cons, List.length_nil, List.length_set] <;> omega) | fail) only [cells_IntA, cells_RefA, fold_IntA, fold_RefA, ↓Xa, Xb, Xc, ↓reduceIte, Nat.reduceLT, Nat.reduceEqDiff, Nat.reduceBEq, Nat.reduceLeDiff, Nat.reduceAdd, Nat.reduceMul]
    refine run_call (bezout_all hx (by omega) hy fun u v hz => ?_)
    obtain ⟨bu, bv, bg⟩ := bez_bd (by omega) hx hy hz
    obtain ⟨z1, z2, z3⟩ := hz
    simp (disch := first | assumption | (apply Ap.symm; assumption) | omega | decide | (simp only [U_len, List.length_append, List.length_replicate, List.length_cons, List.length_nil, List.length_set] <;> omega) | fail) only [↓Xa, Xb, Xc, ↓reduceIte, Nat.reduceLT, Nat.reduceEqDiff, Nat.reduceBEq, Nat.reduceLeDiff, Nat.reduceAdd, Nat.reduceMul]
    refine alloc_i fun p8 hp8 => ?_
    have n8 := hp8
    simp only [upd_none] at n8
    obtain ⟨_, _, _, _, _, _, _, n8⟩ := n8
    simp (disch := first | assumption | (apply Ap.symm; assumption) | omega | decide | (simp only [U_len, List.length_append, List.length_replicate, List.length_cons, List.length_nil, List.length_set] <;> omega) | fail) only [↓Xa, Xb, Xc, ↓reduceIte, Nat.reduceLT, Nat.reduceEqDiff, Nat.reduceBEq, Nat.reduceLeDiff, Nat.reduceAdd, Nat.reduceMul]
    refine alloc_i fun p9 hp9 => ?_
    have n9 := hp9
    simp only [upd_none] at n9
    obtain ⟨_, _, _, _, _, _, _, _, n9⟩ := n9
    simp (disch := first | assumption | (apply Ap.symm; assumption) | omega | decide | (simp only [U_len, List.length_append, List.length_replicate, List.length_cons, List.length_nil, List.length_set] <;> omega) | fail) only [↓Xa, Xb, Xc, ↓reduceIte, Nat.reduceLT, Nat.reduceEqDiff, Nat.reduceBEq, Nat.reduceLeDiff, Nat.reduceAdd, Nat.reduceMul]
    refine alloc_i fun p10 hp10 => ?_
    have n10 := hp10
    simp only [upd_none] at n10
    obtain ⟨_, _, _, _, _, _, _, _, _, n10⟩ := n10
    simp (disch := first | assumption | (apply Ap.symm; assumption) | omega | decide | (simp only [U_len, List.length_append, List.length_replicate, List.length_cons, List.length_nil, List.length_set] <;> omega) | fail) only [cells_IntA, cells_RefA, fold_IntA, fold_RefA, ↓Xa, Xb, Xc, ↓reduceIte, Nat.reduceLT, Nat.reduceEqDiff, Nat.reduceBEq, Nat.reduceLeDiff, Nat.reduceAdd, Nat.reduceMul]
    refine PFn.dcall (igcd_fn hx (by omega) hy) ?_
    simp (disch := first | assumption | (apply Ap.symm; assumption) | omega | decide | (simp only [U_len, List.length_append, List.length_replicate, List.length_cons, List.length_nil, List.length_set] <;> omega) | fail) only [cells_IntA, cells_RefA, fold_IntA, fold_RefA, ↓Xa, Xb, Xc, ↓reduceIte, Nat.reduceLT, Nat.reduceEqDiff, Nat.reduceBEq, Nat.reduceLeDiff, Nat.reduceAdd, Nat.reduceMul]
    refine PFn.dcall (is_same false bg (by omega)) ?_
    simp (disch := first | assumption | (apply Ap.symm; assumption) | omega | decide | (simp only [U_len, List.length_append, List.length_replicate, List.length_cons, List.length_nil, List.length_set] <;> omega) | fail) only [cells_IntA, cells_RefA, fold_IntA, fold_RefA, ↓Xa, Xb, Xc, ↓reduceIte, Nat.reduceLT, Nat.reduceEqDiff, Nat.reduceBEq, Nat.reduceLeDiff, Nat.reduceAdd, Nat.reduceMul]
    refine (is_same false bg (by omega)).call ?_
    simp (disch := first | assumption | (apply Ap.symm; assumption) | omega | decide | (simp only [U_len, List.length_append, List.length_replicate, List.length_cons, List.length_nil, List.length_set] <;> omega) | fail) only [cells_IntA, cells_RefA, fold_IntA, fold_RefA, ↓Xa, Xb, Xc, ↓reduceIte, Nat.reduceLT, Nat.reduceEqDiff, Nat.reduceBEq, Nat.reduceLeDiff, Nat.reduceAdd, Nat.reduceMul]
    refine live_fn.call ?_
    simp (disch := first | assumption | (apply Ap.symm; assumption) | omega | decide | (simp only [U_len, List.length_append, List.length_replicate, List.length_cons, List.length_nil, List.length_set] <;> omega) | fail) only [cells_IntA, cells_RefA, fold_IntA, fold_RefA, ↓Xa, Xb, Xc, ↓reduceIte, Nat.reduceLT, Nat.reduceEqDiff, Nat.reduceBEq, Nat.reduceLeDiff, Nat.reduceAdd, Nat.reduceMul]
    refine (limbs_fn bu (by omega)).call ?_
    simp (disch := first | assumption | (apply Ap.symm; assumption) | omega | decide | (simp only [U_len, List.length_append, List.length_replicate, List.length_cons, List.length_nil, List.length_set] <;> omega) | fail) only [cells_IntA, cells_RefA, fold_IntA, fold_RefA, ↓Xa, Xb, Xc, ↓reduceIte, Nat.reduceLT, Nat.reduceEqDiff, Nat.reduceBEq, Nat.reduceLeDiff, Nat.reduceAdd, Nat.reduceMul]
    refine (limbs_fn bv (by omega)).call ?_
    have ru := rmake_fn (l := digs 4294967296 u.natAbs) (decide (u < 0)) false (lim_digs (by omega) _) (Nat.le_trans bu.len (by omega))
    have rv := rmake_fn (l := digs 4294967296 v.natAbs) (decide (v < 0)) false (lim_digs (by omega) _) (Nat.le_trans bv.len (by omega))
    rw [val_digs (by omega), sg_self] at ru rv
    simp (disch := first | assumption | (apply Ap.symm; assumption) | omega | decide | (simp only [U_len, List.length_append, List.length_replicate, List.length_cons, List.length_nil, List.length_set] <;> omega) | fail) only [cells_IntA, cells_RefA, fold_IntA, fold_RefA, ↓Xa, Xb, Xc, ↓reduceIte, Nat.reduceLT, Nat.reduceEqDiff, Nat.reduceBEq, Nat.reduceLeDiff, Nat.reduceAdd, Nat.reduceMul]
    refine ru.call ?_
    simp (disch := first | assumption | (apply Ap.symm; assumption) | omega | decide | (simp only [U_len, List.length_append, List.length_replicate, List.length_cons, List.length_nil, List.length_set] <;> omega) | fail) only [cells_IntA, cells_RefA, fold_IntA, fold_RefA, ↓Xa, Xb, Xc, ↓reduceIte, Nat.reduceLT, Nat.reduceEqDiff, Nat.reduceBEq, Nat.reduceLeDiff, Nat.reduceAdd, Nat.reduceMul]
    refine rv.call ?_
    simp (disch := first | assumption | (apply Ap.symm; assumption) | omega | decide | (simp only [U_len, List.length_append, List.length_replicate, List.length_cons, List.length_nil, List.length_set] <;> omega) | fail) only [cells_IntA, cells_RefA, fold_IntA, fold_RefA, ↓Xa, Xb, Xc, ↓reduceIte, Nat.reduceLT, Nat.reduceEqDiff, Nat.reduceBEq, Nat.reduceLeDiff, Nat.reduceAdd, Nat.reduceMul]
    refine alloc_i fun p11 hp11 => ?_
    have n11 := hp11
    simp only [upd_none] at n11
    obtain ⟨_, _, _, _, _, _, _, _, _, _, n11⟩ := n11
    simp (disch := first | assumption | (apply Ap.symm; assumption) | omega | decide | (simp only [U_len, List.length_append, List.length_replicate, List.length_cons, List.length_nil, List.length_set] <;> omega) | fail) only [cells_IntA, cells_RefA, fold_IntA, fold_RefA, ↓Xa, Xb, Xc, ↓reduceIte, Nat.reduceLT, Nat.reduceEqDiff, Nat.reduceBEq, Nat.reduceLeDiff, Nat.reduceAdd, Nat.reduceMul]
    refine alloc_i fun p12 hp12 => ?_
    have n12 := hp12
    simp only [upd_none] at n12
    obtain ⟨_, _, _, _, _, _, _, _, _, _, _, n12⟩ := n12
    simp (disch := first | assumption | (apply Ap.symm; assumption) | omega | decide | (simp only [U_len, List.length_append, List.length_replicate, List.length_cons, List.length_nil, List.length_set] <;> omega) | fail) only [cells_IntA, cells_RefA, fold_IntA, fold_RefA, ↓Xa, Xb, Xc, ↓reduceIte, Nat.reduceLT, Nat.reduceEqDiff, Nat.reduceBEq, Nat.reduceLeDiff, Nat.reduceAdd, Nat.reduceMul]
    refine PFn.dcall (rmuli_fn false false bu (by omega) hx (by omega)) ?_
    simp (disch := first | assumption | (apply Ap.symm; assumption) | omega | decide | (simp only [U_len, List.length_append, List.length_replicate, List.length_cons, List.length_nil, List.length_set] <;> omega) | fail) only [cells_IntA, cells_RefA, fold_IntA, fold_RefA, ↓Xa, Xb, Xc, ↓reduceIte, Nat.reduceLT, Nat.reduceEqDiff, Nat.reduceBEq, Nat.reduceLeDiff, Nat.reduceAdd, Nat.reduceMul]
    refine PFn.dcall (rmuli_fn false false bv (by omega) hy (by omega)) ?_
    simp (disch := first | assumption | (apply Ap.symm; assumption) | omega | decide | (simp only [U_len, List.length_append, List.length_replicate, List.length_cons, List.length_nil, List.length_set] <;> omega) | fail) only [cells_IntA, cells_RefA, fold_IntA, fold_RefA, ↓Xa, Xb, Xc, ↓reduceIte, Nat.reduceLT, Nat.reduceEqDiff, Nat.reduceBEq, Nat.reduceLeDiff, Nat.reduceAdd, Nat.reduceMul]
    refine PFn.dcall (raddi_fn false false (bu.mul hx) (by omega) (bv.mul hy) (by omega)) ?_
    rw [z1]
    simp (disch := first | assumption | (apply Ap.symm; assumption) | omega | decide | (simp only [U_len, List.length_append, List.length_replicate, List.length_cons, List.length_nil, List.length_set] <;> omega) | fail) only [cells_IntA, cells_RefA, fold_IntA, fold_RefA, ↓Xa, Xb, Xc, ↓reduceIte, Nat.reduceLT, Nat.reduceEqDiff, Nat.reduceBEq, Nat.reduceLeDiff, Nat.reduceAdd, Nat.reduceMul]
    refine dalloc_i fun p13 hp13 => ?_
    have n13 := hp13
    simp only [upd_none] at n13
    obtain ⟨_, _, _, _, _, _, _, _, _, _, _, _, n13⟩ := n13
    simp (disch := first | assumption | (apply Ap.symm; assumption) | omega | decide | (simp only [U_len, List.length_append, List.length_replicate, List.length_cons, List.length_nil, List.length_set] <;> omega) | fail) only [cells_IntA, cells_RefA, fold_IntA, fold_RefA, ↓Xa, Xb, Xc, ↓reduceIte, Nat.reduceLT, Nat.reduceEqDiff, Nat.reduceBEq, Nat.reduceLeDiff, Nat.reduceAdd, Nat.reduceMul]
    refine (same_fn bg (by omega) bg (by omega)).call ?_
    simp (disch := first | assumption | (apply Ap.symm; assumption) | omega | decide | (simp only [U_len, List.length_append, List.length_replicate, List.length_cons, List.length_nil, List.length_set] <;> omega) | fail) only [cells_IntA, cells_RefA, fold_IntA, fold_RefA, ↓Xa, Xb, Xc, ↓reduceIte, Nat.reduceLT, Nat.reduceEqDiff, Nat.reduceBEq, Nat.reduceLeDiff, Nat.reduceAdd, Nat.reduceMul]
    refine (rsign_fn false hy (by omega)).call ?_
    have fin : ∀ {K : AHeap}, Le H K → SetR Q (.bool true) K := fun h => SetR.dropTo h (SetR.now hq)
    by_cases y0 : y = 0
    · simp (disch := first | assumption | (apply Ap.symm; assumption) | omega | decide | (simp only [U_len, List.length_append, List.length_replicate, List.length_cons, List.length_nil, List.length_set] <;> omega) | fail) only [sgn_eql0, y0, cells_IntA, cells_RefA, fold_IntA, fold_RefA, ↓Xa, Xb, Xc, ↓reduceIte, Nat.reduceLT, Nat.reduceEqDiff, Nat.reduceBEq, Nat.reduceLeDiff, Nat.reduceAdd, Nat.reduceMul]
      refine PFn.dcall (rsign_fn false hx (by omega)) ?_
      simp (disch := first | assumption | (apply Ap.symm; assumption) | omega | decide | (simp only [U_len, List.length_append, List.length_replicate, List.length_cons, List.length_nil, List.length_set] <;> omega) | fail) only [cells_IntA, cells_RefA, fold_IntA, fold_RefA, ↓Xa, Xb, Xc, ↓reduceIte, Nat.reduceLT, Nat.reduceEqDiff, Nat.reduceBEq, Nat.reduceLeDiff, Nat.reduceAdd, Nat.reduceMul]
      refine PFn.dcall (rof_fn (sgnI_le x)) ?_
      simp (disch := first | assumption | (apply Ap.symm; assumption) | omega | decide | (simp only [U_len, List.length_append, List.length_replicate, List.length_cons, List.length_nil, List.length_set] <;> omega) | fail) only [cells_IntA, cells_RefA, fold_IntA, fold_RefA, ↓Xa, Xb, Xc, ↓reduceIte, Nat.reduceLT, Nat.reduceEqDiff, Nat.reduceBEq, Nat.reduceLeDiff, Nat.reduceAdd, Nat.reduceMul]
      refine (same_fn bu (by omega) (Bd.i64 (sgnI_le x)) (by omega)).call ?_
      rw [decide_eq_true (z2 y0).1]
      simp (disch := first | assumption | (apply Ap.symm; assumption) | omega | decide | (simp only [U_len, List.length_append, List.length_replicate, List.length_cons, List.length_nil, List.length_set] <;> omega) | fail) only [cells_IntA, cells_RefA, fold_IntA, fold_RefA, ↓Xa, Xb, Xc, ↓reduceIte, Nat.reduceLT, Nat.reduceEqDiff, Nat.reduceBEq, Nat.reduceLeDiff, Nat.reduceAdd, Nat.reduceMul]
      refine (rsign_fn false bv (by omega)).call ?_
      simp (disch := first | assumption | (apply Ap.symm; assumption) | omega | decide | (simp only [U_len, List.length_append, List.length_replicate, List.length_cons, List.length_nil, List.length_set] <;> omega) | fail) only [sgn_eql0, (z2 y0).2, cells_IntA, cells_RefA, fold_IntA, fold_RefA, rs7, ↓Xa, Xb, Xc, ↓reduceIte, Nat.reduceLT, Nat.reduceEqDiff, Nat.reduceBEq, Nat.reduceLeDiff, Nat.reduceAdd, Nat.reduceMul]
      refine fin ?_
      (repeat (refine Le.updB ?_ (by assumption)))
      exact Le.refl H
    · obtain ⟨z4, z5⟩ := z3 y0
      have hg0 : Int.gcd x y ≠ 0 := fun z => y0 (Int.gcd_eq_zero_iff.1 z).2
      have gd : (y.natAbs : Int) % (Int.gcd x y : Int) = 0 := Int.emod_eq_zero_of_dvd (Int.dvd_natAbs.2 (Int.gcd_dvd_right x y))
      have bq : Bd 60 ((y.natAbs : Int) / (Int.gcd x y : Int)) := hy.abs.ediv
      have v2 := rover_fn hy.abs (by omega) bg (by omega) (by omega)
      rw [if_pos gd] at v2
      simp (disch := first | assumption | (apply Ap.symm; assumption) | omega | decide | (simp only [U_len, List.length_append, List.length_replicate, List.length_cons, List.length_nil, List.length_set] <;> omega) | fail) only [sgn_eql0, y0, cells_IntA, cells_RefA, fold_IntA, fold_RefA, ↓Xa, Xb, Xc, ↓reduceIte, Nat.reduceLT, Nat.reduceEqDiff, Nat.reduceBEq, Nat.reduceLeDiff, Nat.reduceAdd, Nat.reduceMul]
      refine PFn.dcall (rabs_fn false hy (by omega)) ?_
      simp (disch := first | assumption | (apply Ap.symm; assumption) | omega | decide | (simp only [U_len, List.length_append, List.length_replicate, List.length_cons, List.length_nil, List.length_set] <;> omega) | fail) only [cells_IntA, cells_RefA, fold_IntA, fold_RefA, ↓Xa, Xb, Xc, ↓reduceIte, Nat.reduceLT, Nat.reduceEqDiff, Nat.reduceBEq, Nat.reduceLeDiff, Nat.reduceAdd, Nat.reduceMul]
      refine PFn.dcall v2 ?_
      simp (disch := first | assumption | (apply Ap.symm; assumption) | omega | decide | (simp only [U_len, List.length_append, List.length_replicate, List.length_cons, List.length_nil, List.length_set] <;> omega) | fail) only [cells_IntA, cells_RefA, fold_IntA, fold_RefA, ↓Xa, Xb, Xc, ↓reduceIte, Nat.reduceLT, Nat.reduceEqDiff, Nat.reduceBEq, Nat.reduceLeDiff, Nat.reduceAdd, Nat.reduceMul]
      generalize (y.natAbs : Int) / (Int.gcd x y : Int) = m at *
      refine dalloc_i fun p14 hp14 => ?_
      have n14 := hp14
      simp only [upd_none] at n14
      obtain ⟨_, _, _, _, _, _, _, _, _, _, _, _, _, n14⟩ := n14
      simp (disch := first | assumption | (apply Ap.symm; assumption) | omega | decide | (simp only [U_len, List.length_append, List.length_replicate, List.length_cons, List.length_nil, List.length_set] <;> omega) | fail) only [cells_IntA, cells_RefA, fold_IntA, fold_RefA, ↓Xa, Xb, Xc, ↓reduceIte, Nat.reduceLT, Nat.reduceEqDiff, Nat.reduceBEq, Nat.reduceLeDiff, Nat.reduceAdd, Nat.reduceMul]
      refine (rsign_fn false bu (by omega)).call ?_
      simp (disch := first | assumption | (apply Ap.symm; assumption) | omega | decide | (simp only [U_len, List.length_append, List.length_replicate, List.length_cons, List.length_nil, List.length_set] <;> omega) | fail) only [sgn_geq0, z4, cells_IntA, cells_RefA, fold_IntA, fold_RefA, ↓Xa, Xb, Xc, ↓reduceIte, Nat.reduceLT, Nat.reduceEqDiff, Nat.reduceBEq, Nat.reduceLeDiff, Nat.reduceAdd, Nat.reduceMul]
      refine (rcmp_fn false false bu (by omega) bq (by omega)).call ?_
      simp (disch := first | assumption | (apply Ap.symm; assumption) | omega | decide | (simp only [U_len, List.length_append, List.length_replicate, List.length_cons, List.length_nil, List.length_set] <;> omega) | fail) only [cmp_lss0, z5, cells_IntA, cells_RefA, fold_IntA, fold_RefA, rs7, ↓Xa, Xb, Xc, ↓reduceIte, Nat.reduceLT, Nat.reduceEqDiff, Nat.reduceBEq, Nat.reduceLeDiff, Nat.reduceAdd, Nat.reduceMul]
      refine fin ?_
      (repeat (refine Le.updB ?_ (by assumption)))
      exact Le.refl H
  · have el : ([a, b].any fun q => decide (60 < q.2.1.length)) = true := by simp; omega
    rw [el]
    simp (disch := first | assumption | (apply Ap.symm; assumption) | omega | decide | (simp only [U_len, List.length_append, List.length_replicate, List.length_cons, List.length_nil, List.length_set] <;> omega) | fail) only [rs7, ↓Xa, Xb, Xc, ↓reduceIte, Nat.reduceLT, Nat.reduceEqDiff, Nat.reduceBEq, Nat.reduceLeDiff, Nat.reduceAdd, Nat.reduceMul]
    exact SetR.dropTo (((Le.refl H).updB n1).updB n2) (SetR.now hq)
end Go.Proofs.Ytipbcjnniamcgaa.Fw
