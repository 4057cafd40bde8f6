/- Powers, as the program and the reference have them. -/
import Derived.Test.YtipbcjnniamcgaaDoorRm
namespace Go.Proofs.YtipbcjnniamcgaaDoor.Fw
set_option linter.unusedSimpArgs false
set_option linter.unusedVariables false
open Go Go.Proofs.YtipbcjnniamcgaaDoor.Ma
set_option maxRecDepth 20000

theorem Bd.of_blen {z : Int} {k : Nat} (h : blen z.natAbs ≤ 32 * k) : Bd k z := by
  have := blen_le.1 h
  rw [Nat.pow_mul] at this
  exact this
theorem blen_pow (a j : Nat) : blen (a ^ j) ≤ blen a * j + 1 := by
  rw [blen_le]
  have h1 : a ^ j ≤ (2 ^ blen a) ^ j := Nat.pow_le_pow_left (Nat.le_of_lt (blen_lt a)) j
  rw [← Nat.pow_mul] at h1
  exact Nat.lt_of_le_of_lt h1 (Nat.pow_lt_pow_right (by omega) (by omega))
theorem Bd.of_pow {x : Int} {j n : Nat} (h : blen x.natAbs = 0 ∨ n ≤ 65536 / blen x.natAbs) (hj : j ≤ n) : Bd 2049 (x ^ j) := by
  refine Bd.of_blen ?_
  rw [Int.natAbs_pow]
  have h1 := blen_pow x.natAbs j
  have h2 : blen x.natAbs * j ≤ 65536 := by
    rcases h with e | e
    · rw [e]; simp
    · exact Nat.le_trans (Nat.mul_le_mul_left _ (Nat.le_trans hj e)) (Nat.mul_div_le _ _)
  omega

theorem pow_neg {x e : Int} (he : e < 0) : PFn Tryd.prog 77 [IntA x, .int .i64 e] (.tup [IntA 0, .int .i64 ((2 : Nat) : Int)]) := by
  intro H Q hq
  have hd := decide_eq_true he
  refine enter77 (by simp) ?_
  simp (disch := first | assumption | (apply Ap.symm; assumption) | omega | decide | (simp only [U_len, List.length_append, List.length_replicate, List.length_cons, List.length_nil, List.length_set] <;> omega) | fail) only [ac77, cells_IntA, ↓Xa, Xb, Xc, ↓reduceIte, Nat.reduceLT, Nat.reduceEqDiff, Nat.reduceBEq, Nat.reduceLeDiff, Nat.reduceAdd, Nat.reduceMul]
  refine alloc_i fun p hp => ?_
  simp (disch := first | assumption | (apply Ap.symm; assumption) | omega | decide | (simp only [U_len, List.length_append, List.length_replicate, List.length_cons, List.length_nil, List.length_set] <;> omega) | fail) only [↓Xa, Xb, Xc, ↓reduceIte, Nat.reduceLT, Nat.reduceEqDiff, Nat.reduceBEq, Nat.reduceLeDiff, Nat.reduceAdd, Nat.reduceMul]
  refine alloc_i fun p2 hp2 => ?_
  have n2 := hp2
  simp only [upd_none] at n2
  obtain ⟨_, n2⟩ := n2
  simp (disch := first | assumption | (apply Ap.symm; assumption) | omega | decide | (simp only [U_len, List.length_append, List.length_replicate, List.length_cons, List.length_nil, List.length_set] <;> omega) | fail) only [lss_neg, hd, rs77, ↓Xa, Xb, Xc, ↓reduceIte, Nat.reduceLT, Nat.reduceEqDiff, Nat.reduceBEq, Nat.reduceLeDiff, Nat.reduceAdd, Nat.reduceMul]
  rw [IntA_0]
  exact SetR.dropTo (((Le.refl H).updB hp).updB n2) (SetR.now hq)

theorem pow_long {x : Int} {n k : Nat} (hx : Bd k x) (hk : k ≤ 1000000) (h0 : 0 < blen x.natAbs) (h : 65536 / blen x.natAbs < n) : PFn Tryd.prog 77 [IntA x, .int .i64 (n : Int)] (.tup [IntA 0, .int .i64 ((3 : Nat) : Int)]) := by
  intro H Q hq
  have hbk : blen x.natAbs ≤ 32 * k := by rw [blen_le, Nat.pow_mul]; exact hx
  have hne : (blen x.natAbs = 0) = False := by simp; omega
  have hd : 65536 / blen x.natAbs < 9223372036854775808 := Nat.lt_of_le_of_lt (Nat.div_le_self _ _) (by omega)
  refine enter77 (by simp) ?_
  simp (disch := first | assumption | (apply Ap.symm; assumption) | omega | decide | (simp only [U_len, List.length_append, List.length_replicate, List.length_cons, List.length_nil, List.length_set] <;> omega) | fail) only [ac77, cells_IntA, ↓Xa, Xb, Xc, ↓reduceIte, Nat.reduceLT, Nat.reduceEqDiff, Nat.reduceBEq, Nat.reduceLeDiff, Nat.reduceAdd, Nat.reduceMul]
  refine alloc_i fun p hp => ?_
  simp (disch := first | assumption | (apply Ap.symm; assumption) | omega | decide | (simp only [U_len, List.length_append, List.length_replicate, List.length_cons, List.length_nil, List.length_set] <;> omega) | fail) only [↓Xa, Xb, Xc, ↓reduceIte, Nat.reduceLT, Nat.reduceEqDiff, Nat.reduceBEq, Nat.reduceLeDiff, Nat.reduceAdd, Nat.reduceMul]
  refine alloc_i fun p2 hp2 => ?_
  have n2 := hp2
  simp only [upd_none] at n2
  obtain ⟨_, n2⟩ := n2
  simp (disch := first | assumption | (apply Ap.symm; assumption) | omega | decide | (simp only [U_len, List.length_append, List.length_replicate, List.length_cons, List.length_nil, List.length_set] <;> omega) | fail) only [fold_IntA, lss_f, ↓Xa, Xb, Xc, ↓reduceIte, Nat.reduceLT, Nat.reduceEqDiff, Nat.reduceBEq, Nat.reduceLeDiff, Nat.reduceAdd, Nat.reduceMul]
  refine (ibits_fn hx (by omega)).call ?_
  simp (disch := first | assumption | (apply Ap.symm; assumption) | omega | decide | (simp only [U_len, List.length_append, List.length_replicate, List.length_cons, List.length_nil, List.length_set] <;> omega) | fail) only [fold_IntA, h0, ↓Xa, Xb, Xc, ↓reduceIte, Nat.reduceLT, Nat.reduceEqDiff, Nat.reduceBEq, Nat.reduceLeDiff, Nat.reduceAdd, Nat.reduceMul]
  refine (ibits_fn hx (by omega)).call ?_
  simp (disch := first | assumption | (apply Ap.symm; assumption) | omega | decide | (simp only [U_len, List.length_append, List.length_replicate, List.length_cons, List.length_nil, List.length_set] <;> omega) | fail) only [fold_IntA, h0, h, hne, ne_eq, hd, rs77, ↓Xa, Xb, Xc, ↓reduceIte, Nat.reduceLT, Nat.reduceEqDiff, Nat.reduceBEq, Nat.reduceLeDiff, Nat.reduceAdd, Nat.reduceMul]
  rw [IntA_0]
  exact SetR.dropTo (((Le.refl H).updB hp).updB n2) (SetR.now hq)

theorem pow_ok {x : Int} {n k : Nat} (hx : Bd k x) (hk : k ≤ 1000000) (hn : n < 9223372036854775808) (h : blen x.natAbs = 0 ∨ n ≤ 65536 / blen x.natAbs) : PFn Tryd.prog 77 [IntA x, .int .i64 (n : Int)] (.tup [IntA (x ^ n), .int .i64 ((0 : Nat) : Int)]) := by
  intro H Q hq
  have hbk : blen x.natAbs ≤ 32 * k := by rw [blen_le, Nat.pow_mul]; exact hx
  have hd : 65536 / blen x.natAbs < 9223372036854775808 := Nat.lt_of_le_of_lt (Nat.div_le_self _ _) (by omega)
  have hxz : blen x.natAbs = 0 ↔ x = 0 := by
    have := @blen_pos x.natAbs
    omega
  refine enter77 (by simp) ?_
  simp (disch := first | assumption | (apply Ap.symm; assumption) | omega | decide | (simp only [U_len, List.length_append, List.length_replicate, List.length_cons, List.length_nil, List.length_set] <;> omega) | fail) only [ac77, cells_IntA, ↓Xa, Xb, Xc, ↓reduceIte, Nat.reduceLT, Nat.reduceEqDiff, Nat.reduceBEq, Nat.reduceLeDiff, Nat.reduceAdd, Nat.reduceMul]
  refine alloc_i fun p hp => ?_
  simp (disch := first | assumption | (apply Ap.symm; assumption) | omega | decide | (simp only [U_len, List.length_append, List.length_replicate, List.length_cons, List.length_nil, List.length_set] <;> omega) | fail) only [↓Xa, Xb, Xc, ↓reduceIte, Nat.reduceLT, Nat.reduceEqDiff, Nat.reduceBEq, Nat.reduceLeDiff, Nat.reduceAdd, Nat.reduceMul]
  refine alloc_i fun p2 hp2 => ?_
  have n2 := hp2
  simp only [upd_none] at n2
  obtain ⟨_, n2⟩ := n2
  simp (disch := first | assumption | (apply Ap.symm; assumption) | omega | decide | (simp only [U_len, List.length_append, List.length_replicate, List.length_cons, List.length_nil, List.length_set] <;> omega) | fail) only [fold_IntA, lss_f, ↓Xa, Xb, Xc, ↓reduceIte, Nat.reduceLT, Nat.reduceEqDiff, Nat.reduceBEq, Nat.reduceLeDiff, Nat.reduceAdd, Nat.reduceMul]
  refine (ibits_fn hx (by omega)).call ?_
  by_cases h0 : x = 0
  · -- nought
    have hb0 : blen x.natAbs = 0 := hxz.2 h0
    rw [hb0]
    simp (disch := first | assumption | (apply Ap.symm; assumption) | omega | decide | (simp only [U_len, List.length_append, List.length_replicate, List.length_cons, List.length_nil, List.length_set] <;> omega) | fail) only [fold_IntA, ↓Xa, Xb, Xc, ↓reduceIte, Nat.reduceLT, Nat.reduceEqDiff, Nat.reduceBEq, Nat.reduceLeDiff, Nat.reduceAdd, Nat.reduceMul]
    refine (of_fn (n := ((1 : Nat) : Int)) (by omega)).call ?_
    simp (disch := first | assumption | (apply Ap.symm; assumption) | omega | decide | (simp only [U_len, List.length_append, List.length_replicate, List.length_cons, List.length_nil, List.length_set] <;> omega) | fail) only [↓Xa, Xb, Xc, ↓reduceIte, Nat.reduceLT, Nat.reduceEqDiff, Nat.reduceBEq, Nat.reduceLeDiff, Nat.reduceAdd, Nat.reduceMul]
    refine alloc_i fun p3 hp3 => ?_
    have n3 := hp3
    simp only [upd_none] at n3
    obtain ⟨_, _, n3⟩ := n3
    simp (disch := first | assumption | (apply Ap.symm; assumption) | omega | decide | (simp only [U_len, List.length_append, List.length_replicate, List.length_cons, List.length_nil, List.length_set] <;> omega) | fail) only [cells_IntA, fold_IntA, ↓Xa, Xb, Xc, ↓reduceIte, Nat.reduceLT, Nat.reduceEqDiff, Nat.reduceBEq, Nat.reduceLeDiff, Nat.reduceAdd, Nat.reduceMul]
    refine (sign_fn hx (by omega)).call ?_
    have hd0 := decide_eq_true h0
    have hneg : IntB x = .bool false := congrArg AV.bool (decide_eq_false (by omega))
    have hfold : AV.agg [.bool false, IntD x] = IntA x := by rw [IntA_eq, hneg]
    rcases Nat.eq_zero_or_pos n with e | e
    · subst e
      simp (disch := first | assumption | (apply Ap.symm; assumption) | omega | decide | (simp only [U_len, List.length_append, List.length_replicate, List.length_cons, List.length_nil, List.length_set] <;> omega) | fail) only [sgn_eql0, hd0, fold_IntA, cells_IntA, rs77, ↓Xa, Xb, Xc, ↓reduceIte, Nat.reduceLT, Nat.reduceEqDiff, Nat.reduceBEq, Nat.reduceLeDiff, Nat.reduceAdd, Nat.reduceMul]
      refine SetR.dropTo ((((Le.refl H).updB hp).updB n2).updB n3) (SetR.now ?_)
      simpa using hq
    · have hne : (n = 0) = False := by simp; omega
      simp (disch := first | assumption | (apply Ap.symm; assumption) | omega | decide | (simp only [U_len, List.length_append, List.length_replicate, List.length_cons, List.length_nil, List.length_set] <;> omega) | fail) only [sgn_eql0, hd0, hne, fold_IntA, cells_IntA, rs77, hneg, hfold, ↓Xa, Xb, Xc, ↓reduceIte, Nat.reduceLT, Nat.reduceEqDiff, Nat.reduceBEq, Nat.reduceLeDiff, Nat.reduceAdd, Nat.reduceMul]
      refine SetR.dropTo ((((Le.refl H).updB hp).updB n2).updB n3) (SetR.now ?_)
      rw [h0, Int.zero_pow (by omega)] at hq
      rw [h0]
      simpa using hq
  · have hb0 : 0 < blen x.natAbs := by omega
    have hne0 : (blen x.natAbs = 0) = False := by simp; omega
    have hle : n ≤ 65536 / blen x.natAbs := by omega
    have hnl : ¬ 65536 / blen x.natAbs < n := by omega
    have hd0 := decide_eq_false h0
    simp (disch := first | assumption | (apply Ap.symm; assumption) | omega | decide | (simp only [U_len, List.length_append, List.length_replicate, List.length_cons, List.length_nil, List.length_set] <;> omega) | fail) only [fold_IntA, hb0, ↓Xa, Xb, Xc, ↓reduceIte, Nat.reduceLT, Nat.reduceEqDiff, Nat.reduceBEq, Nat.reduceLeDiff, Nat.reduceAdd, Nat.reduceMul]
    refine (ibits_fn hx (by omega)).call ?_
    simp (disch := first | assumption | (apply Ap.symm; assumption) | omega | decide | (simp only [U_len, List.length_append, List.length_replicate, List.length_cons, List.length_nil, List.length_set] <;> omega) | fail) only [fold_IntA, hb0, hnl, hne0, ne_eq, hd, ↓Xa, Xb, Xc, ↓reduceIte, Nat.reduceLT, Nat.reduceEqDiff, Nat.reduceBEq, Nat.reduceLeDiff, Nat.reduceAdd, Nat.reduceMul]
    refine (of_fn (n := ((1 : Nat) : Int)) (by omega)).call ?_
    simp (disch := first | assumption | (apply Ap.symm; assumption) | omega | decide | (simp only [U_len, List.length_append, List.length_replicate, List.length_cons, List.length_nil, List.length_set] <;> omega) | fail) only [↓Xa, Xb, Xc, ↓reduceIte, Nat.reduceLT, Nat.reduceEqDiff, Nat.reduceBEq, Nat.reduceLeDiff, Nat.reduceAdd, Nat.reduceMul]
    refine alloc_i fun p3 hp3 => ?_
    have n3 := hp3
    simp only [upd_none] at n3
    obtain ⟨_, _, n3⟩ := n3
    simp (disch := first | assumption | (apply Ap.symm; assumption) | omega | decide | (simp only [U_len, List.length_append, List.length_replicate, List.length_cons, List.length_nil, List.length_set] <;> omega) | fail) only [cells_IntA, fold_IntA, ↓Xa, Xb, Xc, ↓reduceIte, Nat.reduceLT, Nat.reduceEqDiff, Nat.reduceBEq, Nat.reduceLeDiff, Nat.reduceAdd, Nat.reduceMul]
    refine (sign_fn hx (by omega)).call ?_
    simp (disch := first | assumption | (apply Ap.symm; assumption) | omega | decide | (simp only [U_len, List.length_append, List.length_replicate, List.length_cons, List.length_nil, List.length_set] <;> omega) | fail) only [sgn_eql0, hd0, fold_IntA, ↓Xa, Xb, Xc, ↓reduceIte, Nat.reduceLT, Nat.reduceEqDiff, Nat.reduceBEq, Nat.reduceLeDiff, Nat.reduceAdd, Nat.reduceMul]
    refine (ibits_fn hx (by omega)).call ?_
    by_cases h1 : blen x.natAbs = 1
    · have hx1 : x = 1 ∨ x = -1 := by
        have a := blen_lt x.natAbs
        have b := blen_low (n := x.natAbs) (by omega)
        rw [h1] at a b
        simp at a b; omega
      simp (disch := first | assumption | (apply Ap.symm; assumption) | omega | decide | (simp only [U_len, List.length_append, List.length_replicate, List.length_cons, List.length_nil, List.length_set] <;> omega) | fail) only [h1, fold_IntA, ↓Xa, Xb, Xc, ↓reduceIte, Nat.reduceLT, Nat.reduceEqDiff, Nat.reduceBEq, Nat.reduceLeDiff, Nat.reduceAdd, Nat.reduceMul]
      rcases Nat.eq_zero_or_pos n with e | e
      · subst e
        simp (disch := first | assumption | (apply Ap.symm; assumption) | omega | decide | (simp only [U_len, List.length_append, List.length_replicate, List.length_cons, List.length_nil, List.length_set] <;> omega) | fail) only [fold_IntA, cells_IntA, rs77, ↓Xa, Xb, Xc, ↓reduceIte, Nat.reduceLT, Nat.reduceEqDiff, Nat.reduceBEq, Nat.reduceLeDiff, Nat.reduceAdd, Nat.reduceMul]
        refine SetR.dropTo ((((Le.refl H).updB hp).updB n2).updB n3) (SetR.now ?_)
        simpa using hq
      · have hne : (n = 0) = False := by simp; omega
        rcases hx1 with e1 | e1
        · have hneg : IntB x = .bool false := congrArg AV.bool (decide_eq_false (by omega))
          have hfold : AV.agg [.bool false, IntD x] = IntA x := by rw [IntA_eq, hneg]
          simp (disch := first | assumption | (apply Ap.symm; assumption) | omega | decide | (simp only [U_len, List.length_append, List.length_replicate, List.length_cons, List.length_nil, List.length_set] <;> omega) | fail) only [hne, fold_IntA, cells_IntA, rs77, hneg, hfold, ↓Xa, Xb, Xc, ↓reduceIte, Nat.reduceLT, Nat.reduceEqDiff, Nat.reduceBEq, Nat.reduceLeDiff, Nat.reduceAdd, Nat.reduceMul]
          refine SetR.dropTo ((((Le.refl H).updB hp).updB n2).updB n3) (SetR.now ?_)
          rw [e1, Int.one_pow] at hq
          rw [e1]
          simpa using hq
        · have hneg : IntB x = .bool true := congrArg AV.bool (decide_eq_true (by omega))
          have hfold : AV.agg [.bool true, IntD x] = IntA x := by rw [IntA_eq, hneg]
          rcases Nat.mod_two_eq_zero_or_one n with em | em
          · simp (disch := first | assumption | (apply Ap.symm; assumption) | omega | decide | (simp only [U_len, List.length_append, List.length_replicate, List.length_cons, List.length_nil, List.length_set] <;> omega) | fail) only [hne, em, ne_eq, fold_IntA, cells_IntA, rs77, hneg, hfold, ↓Xa, Xb, Xc, ↓reduceIte, Nat.reduceLT, Nat.reduceEqDiff, Nat.reduceBEq, Nat.reduceLeDiff, Nat.reduceAdd, Nat.reduceMul]
            refine SetR.dropTo ((((Le.refl H).updB hp).updB n2).updB n3) (SetR.now ?_)
            rw [e1, show n = 2 * (n / 2) by omega, Int.pow_mul] at hq
            rw [show ((-1 : Int) ^ 2) = 1 from rfl, Int.one_pow] at hq
            simpa using hq
          · simp (disch := first | assumption | (apply Ap.symm; assumption) | omega | decide | (simp only [U_len, List.length_append, List.length_replicate, List.length_cons, List.length_nil, List.length_set] <;> omega) | fail) only [hne, em, ne_eq, fold_IntA, cells_IntA, rs77, hneg, hfold, ↓Xa, Xb, Xc, ↓reduceIte, Nat.reduceLT, Nat.reduceEqDiff, Nat.reduceBEq, Nat.reduceLeDiff, Nat.reduceAdd, Nat.reduceMul]
            refine SetR.dropTo ((((Le.refl H).updB hp).updB n2).updB n3) (SetR.now ?_)
            rw [e1, show n = 2 * (n / 2) + 1 by omega, Int.pow_succ, Int.pow_mul] at hq
            rw [show ((-1 : Int) ^ 2) = 1 from rfl, Int.one_pow] at hq
            rw [e1]
            simpa using hq
    · simp (disch := first | assumption | (apply Ap.symm; assumption) | omega | decide | (simp only [U_len, List.length_append, List.length_replicate, List.length_cons, List.length_nil, List.length_set] <;> omega) | fail) only [h1, fold_IntA, ↓Xa, Xb, Xc, ↓reduceIte, Nat.reduceLT, Nat.reduceEqDiff, Nat.reduceBEq, Nat.reduceLeDiff, Nat.reduceAdd, Nat.reduceMul]
      refine W_loop (fun s : Nat => ⟨[], [(1, .int .i64 s), (2, .ptr p 2 0), (4, .ptr p2 2 0), (6, .ptr p3 2 0)],
        ((H.upd p (some (.row 28 0 [IntB x, IntD x]))).upd p2 (some (.row 28 0 [.bool false, .seq 0 [] true]))).upd p3 (some (.row 28 0 [IntB (x ^ (n - s)), IntD (x ^ (n - s))]))⟩)
        (fun s => s ≤ n) (fun s => s) n (Settle.keep [1, 2, 4, 6] (by rw [Nat.sub_self, Int.pow_zero]; rfl)) (Nat.le_refl _) ?_
      intro s hs
      by_cases h2 : 0 < s
      · simp (disch := first | assumption | (apply Ap.symm; assumption) | omega | decide | (simp only [U_len, List.length_append, List.length_replicate, List.length_cons, List.length_nil, List.length_set] <;> omega) | fail) only [h2, fold_IntA, ↓Xa, Xb, Xc, ↓reduceIte, Nat.reduceLT, Nat.reduceEqDiff, Nat.reduceBEq, Nat.reduceLeDiff, Nat.reduceAdd, Nat.reduceMul]
        refine (muli_fn (Bd.of_pow h (show n - s ≤ n by omega)) (by omega) hx (by omega)).call ?_
        simp (disch := first | assumption | (apply Ap.symm; assumption) | omega | decide | (simp only [U_len, List.length_append, List.length_replicate, List.length_cons, List.length_nil, List.length_set] <;> omega) | fail) only [cells_IntA, ↓Xa, Xb, Xc, ↓reduceIte, Nat.reduceLT, Nat.reduceEqDiff, Nat.reduceBEq, Nat.reduceLeDiff, Nat.reduceAdd, Nat.reduceMul]
        refine Settle.now ⟨s - 1, by omega, by omega, ?_⟩
        rw [show n - (s - 1) = n - s + 1 by omega, Int.pow_succ]
      · obtain rfl : s = 0 := by omega
        simp (disch := first | assumption | (apply Ap.symm; assumption) | omega | decide | (simp only [U_len, List.length_append, List.length_replicate, List.length_cons, List.length_nil, List.length_set] <;> omega) | fail) only [h2, ↓Xa, Xb, Xc, ↓reduceIte, Nat.reduceLT, Nat.reduceEqDiff, Nat.reduceBEq, Nat.reduceLeDiff, Nat.reduceAdd, Nat.reduceMul]
        refine Settle.now ?_
        simp (disch := first | assumption | (apply Ap.symm; assumption) | omega | decide | (simp only [U_len, List.length_append, List.length_replicate, List.length_cons, List.length_nil, List.length_set] <;> omega) | fail) only [fold_IntA, cells_IntA, rs77, Nat.sub_zero, ↓Xa, Xb, Xc, ↓reduceIte, Nat.reduceLT, Nat.reduceEqDiff, Nat.reduceBEq, Nat.reduceLeDiff, Nat.reduceAdd, Nat.reduceMul]
        exact SetR.dropTo ((((Le.refl H).updB hp).updB n2).updB n3) (SetR.now hq)

end Go.Proofs.YtipbcjnniamcgaaDoor.Fw
