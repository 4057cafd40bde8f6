/- The law of twos, as what its code computes: true. -/
import Derived.Test.YtipbcjnniamcgaaDoorUb
import Derived.Test.YtipbcjnniamcgaaDoorAl3
namespace Go.Proofs.YtipbcjnniamcgaaDoor.Fw
set_option linter.unusedSimpArgs false
set_option linter.unusedVariables false
open Go Go.Proofs.YtipbcjnniamcgaaDoor.Ma
set_option maxRecDepth 20000

theorem neq_int {k : IntKind} {a b : Int} {K : AV → Prop} : binW .neq (.int k a) (.int k b) K ↔ K (.bool (!decide (a = b))) := by
  simp only [binW, binInt, true_and]
theorem tz_len {A k : Nat} (h0 : 0 < A) (h : A < 4294967296 ^ k) : tz A < 32 * k := by
  refine tz_lt h0 ?_
  rw [Nat.pow_mul]; exact h
theorem pow_bd {n j : Nat} (hj : n ≤ 32 * j) : Bd (j + 1) ((2 : Int) ^ n) := by
  unfold Bd
  rw [Int.natAbs_pow, show (4294967296 : Nat) = 2 ^ 32 from rfl, ← Nat.pow_mul]
  exact Nat.pow_lt_pow_right (by omega) (by omega)
theorem shrR_dvd {x : Int} {m : Nat} (h : (2 : Int) ^ m ∣ x) : shrR x (m : Int) = .tup [IntA (x / 2 ^ m), .int .i64 ((0 : Nat) : Int)] := by
  unfold shrR
  rw [if_neg (by omega)]
  by_cases h0 : x = 0
  · rw [if_pos h0, h0, Int.zero_ediv]
  · have := (dvd_tz h0).1 h
    rw [if_neg h0, if_neg (by unfold twV; rw [if_neg h0]; omega)]
    rfl
theorem shrR_nd {x : Int} {m : Nat} (h : ¬ (2 : Int) ^ m ∣ x) : shrR x (m : Int) = .tup [IntA 0, .int .i64 ((20 : Nat) : Int)] := by
  unfold shrR
  have h0 : x ≠ 0 := fun e => h (e ▸ Int.dvd_zero _)
  have hlt : ¬ m ≤ tz x.natAbs := fun k => h ((dvd_tz h0).2 k)
  rw [if_neg (by omega), if_neg h0, if_pos (by unfold twV; rw [if_neg h0]; omega)]
theorem shr_shl {x : Int} {m : Nat} : shrR (x * 2 ^ m) (m : Int) = .tup [IntA x, .int .i64 ((0 : Nat) : Int)] := by
  rw [shrR_dvd (Int.dvd_mul_left _ _), Int.mul_ediv_cancel _ (by have := Int.pow_pos (n := 2) (m := m) (by omega); omega)]
theorem twos_law (a : Bool × List Nat × Bool) (n : Int) (ha : Lim 4294967296 a.2.1) (la : a.2.1.length < 9223372036854775808) (hn : -9223372036854775808 ≤ n ∧ n < 9223372036854775808) {H : AHeap} {Q : AV → AHeap → Prop} (hH : TzH H) (hq : Q (.bool true) H) :
    Run Tryd.prog 3 [NumA a, .int .i64 n] H Q := by
  refine enter3 (by simp) ?_
  simp (disch := first | assumption | (apply Ap.symm; assumption) | omega | decide | (simp only [U_len, List.length_append, List.length_replicate, List.length_cons, List.length_nil, List.length_set] <;> omega) | fail) only [ac3, NumA, ↓Xa, Xb, Xc, ↓reduceIte, Nat.reduceLT, Nat.reduceEqDiff, Nat.reduceBEq, Nat.reduceLeDiff, Nat.reduceAdd, Nat.reduceMul]
  refine alloc_i fun p1 hp1 => ?_
  have n1 := hp1
  have out : ∀ {H' : AHeap}, Le H H' → SetR Q (.bool true) H' := fun h => SetR.dropTo h (SetR.now hq)
  simp (disch := first | assumption | (apply Ap.symm; assumption) | omega | decide | (simp only [U_len, List.length_append, List.length_replicate, List.length_cons, List.length_nil, List.length_set] <;> omega) | fail) only [↓Xa, Xb, Xc, ↓reduceIte, Nat.reduceLT, Nat.reduceEqDiff, Nat.reduceBEq, Nat.reduceLeDiff, Nat.reduceAdd, Nat.reduceMul]
  refine live_fn.call ?_
  simp (disch := first | assumption | (apply Ap.symm; assumption) | omega | decide | (simp only [U_len, List.length_append, List.length_replicate, List.length_cons, List.length_nil, List.length_set] <;> omega) | fail) only [rep22, ↓Xa, Xb, Xc, ↓reduceIte, Nat.reduceLT, Nat.reduceEqDiff, Nat.reduceBEq, Nat.reduceLeDiff, Nat.reduceAdd, Nat.reduceMul]
  refine (long_fn [a] true (by simp) (by simp [la])).call ?_
  by_cases hl : 60 < a.2.1.length
  · have e : ([a].any fun q => decide (60 < q.2.1.length)) = true := by simp [hl]
    rw [e]
    simp (disch := first | assumption | (apply Ap.symm; assumption) | omega | decide | (simp only [U_len, List.length_append, List.length_replicate, List.length_cons, List.length_nil, List.length_set] <;> omega) | fail) only [rs3, ↓Xa, Xb, Xc, ↓reduceIte, Nat.reduceLT, Nat.reduceEqDiff, Nat.reduceBEq, Nat.reduceLeDiff, Nat.reduceAdd, Nat.reduceMul]
    exact out ((Le.refl H).updB n1)
  have e : ([a].any fun q => decide (60 < q.2.1.length)) = false := by simpa using hl
  rw [e]
  clear e
  have gtr_i : ∀ {b : Nat} {K : AV → Prop}, binW .gtr (.int .i64 n) (.int .i64 (b : Int)) K ↔ K (.bool (decide ((b : Int) < n))) := by
    intro b K; simp only [binW, binInt, true_and]
  have leq_i : ∀ {b : Nat} {K : AV → Prop}, binW .leq (.int .i64 n) (.int .i64 (b : Int)) K ↔ K (.bool (decide (n ≤ (b : Int)))) := by
    intro b K; simp only [binW, binInt, true_and]
  by_cases hg : 3000 < n ∧ n ≤ 65536
  · have g1 : decide (((3000 : Nat) : Int) < n) = true := decide_eq_true (by omega)
    have g2 : decide (n ≤ ((65536 : Nat) : Int)) = true := decide_eq_true (by omega)
    simp (disch := first | assumption | (apply Ap.symm; assumption) | omega | decide | (simp only [U_len, List.length_append, List.length_replicate, List.length_cons, List.length_nil, List.length_set] <;> omega) | fail) only [gtr_i, leq_i, g1, g2, rs3, ↓Xa, Xb, Xc, ↓reduceIte, Nat.reduceLT, Nat.reduceEqDiff, Nat.reduceBEq, Nat.reduceLeDiff, Nat.reduceAdd, Nat.reduceMul]
    exact out ((Le.refl H).updB n1)
  have tail : W Tryd.prog (sndC (sndC (sndC ac3))) (retN rs3 Q) ⟨[], [(1, .int .i64 n), (2, .ptr p1 2 0), (28, .bool false)], H.upd p1 (some (.row 24 0 [.bool a.1, LS a.2.1 a.2.2]))⟩ := by
    simp (disch := first | assumption | (apply Ap.symm; assumption) | omega | decide | (simp only [U_len, List.length_append, List.length_replicate, List.length_cons, List.length_nil, List.length_set] <;> omega) | fail) only [sndC, ac3, ↓Xa, Xb, Xc, ↓reduceIte, Nat.reduceLT, Nat.reduceEqDiff, Nat.reduceBEq, Nat.reduceLeDiff, Nat.reduceAdd, Nat.reduceMul]
    refine (ofn_fn a ha (by omega)).call ?_
    have hx : Bd 60 (sg a.1 (val 4294967296 a.2.1)) := (Bd.of_val ha).mono (by omega)
    generalize sg a.1 (val 4294967296 a.2.1) = x at *
    simp (disch := first | assumption | (apply Ap.symm; assumption) | omega | decide | (simp only [U_len, List.length_append, List.length_replicate, List.length_cons, List.length_nil, List.length_set] <;> omega) | fail) only [↓Xa, Xb, Xc, ↓reduceIte, Nat.reduceLT, Nat.reduceEqDiff, Nat.reduceBEq, Nat.reduceLeDiff, Nat.reduceAdd, Nat.reduceMul]
    refine alloc_i fun p2 hp2 => ?_
    have n2 := hp2
    simp only [upd_none] at n2
    obtain ⟨_, n2⟩ := n2
    simp (disch := first | assumption | (apply Ap.symm; assumption) | omega | decide | (simp only [U_len, List.length_append, List.length_replicate, List.length_cons, List.length_nil, List.length_set] <;> omega) | fail) only [↓Xa, Xb, Xc, ↓reduceIte, Nat.reduceLT, Nat.reduceEqDiff, Nat.reduceBEq, Nat.reduceLeDiff, Nat.reduceAdd, Nat.reduceMul]
    refine alloc_i fun p3 hp3 => ?_
    have n3 := hp3
    simp only [upd_none] at n3
    obtain ⟨_, _, n3⟩ := n3
    simp (disch := first | assumption | (apply Ap.symm; assumption) | omega | decide | (simp only [U_len, List.length_append, List.length_replicate, List.length_cons, List.length_nil, List.length_set] <;> omega) | fail) only [cells_IntA, fold_IntA, cells_RefA, fold_RefA, ↓Xa, Xb, Xc, ↓reduceIte, Nat.reduceLT, Nat.reduceEqDiff, Nat.reduceBEq, Nat.reduceLeDiff, Nat.reduceAdd, Nat.reduceMul]
    have hG : ∀ {u v w : Option ABlk}, TzH (((H.upd p1 u).upd p2 v).upd p3 w) := hH.le ((((Le.refl H).updB n1).updB n2).updB n3)
    refine dcall_at (r := .int .i64 (twV x)) 0 (fun H' Q' e q => itwos_run (show TzH H' from e.trans hG) hx (by omega) q) ?_
    simp (disch := first | assumption | (apply Ap.symm; assumption) | omega | decide | (simp only [U_len, List.length_append, List.length_replicate, List.length_cons, List.length_nil, List.length_set] <;> omega) | fail) only [cells_IntA, fold_IntA, cells_RefA, fold_RefA, ↓Xa, Xb, Xc, ↓reduceIte, Nat.reduceLT, Nat.reduceEqDiff, Nat.reduceBEq, Nat.reduceLeDiff, Nat.reduceAdd, Nat.reduceMul]
    refine PFn.dcall (rtwos_fn false hx (by omega)) ?_
    simp (disch := first | assumption | (apply Ap.symm; assumption) | omega | decide | (simp only [U_len, List.length_append, List.length_replicate, List.length_cons, List.length_nil, List.length_set] <;> omega) | fail) only [neq_int, decide_true, Bool.not_true, cells_IntA, fold_IntA, cells_RefA, fold_RefA, ↓Xa, Xb, Xc, ↓reduceIte, Nat.reduceLT, Nat.reduceEqDiff, Nat.reduceBEq, Nat.reduceLeDiff, Nat.reduceAdd, Nat.reduceMul]
    refine PFn.dcall (ibits_fn hx (by omega)) ?_
    simp (disch := first | assumption | (apply Ap.symm; assumption) | omega | decide | (simp only [U_len, List.length_append, List.length_replicate, List.length_cons, List.length_nil, List.length_set] <;> omega) | fail) only [cells_IntA, fold_IntA, cells_RefA, fold_RefA, ↓Xa, Xb, Xc, ↓reduceIte, Nat.reduceLT, Nat.reduceEqDiff, Nat.reduceBEq, Nat.reduceLeDiff, Nat.reduceAdd, Nat.reduceMul]
    refine (rbits_fn false hx (by omega)).call ?_
    simp (disch := first | assumption | (apply Ap.symm; assumption) | omega | decide | (simp only [U_len, List.length_append, List.length_replicate, List.length_cons, List.length_nil, List.length_set] <;> omega) | fail) only [↓Xa, Xb, Xc, ↓reduceIte, Nat.reduceLT, Nat.reduceEqDiff, Nat.reduceBEq, Nat.reduceLeDiff, Nat.reduceAdd, Nat.reduceMul]
    obtain ⟨z, e, w, e', hS, hR, C⟩ : ∃ (z : Int) (e : Nat) (w : Int) (e' : Nat), PFn Tryd.prog 25 [IntA x, .int .i64 n] (.tup [IntA z, .int .i64 (e : Int)]) ∧ shrR x n = .tup [IntA w, .int .i64 (e' : Int)] ∧
        ((n < 0 ∧ z = 0 ∧ w = 0 ∧ e = 2 ∧ e' = 2) ∨ (65536 < n ∧ z = 0 ∧ w = 0 ∧ e = 3 ∧ (x = 0 ∧ e' = 0 ∨ x ≠ 0 ∧ e' = 20)) ∨
          (∃ m : Nat, n = (m : Int) ∧ m ≤ 3000 ∧ z = x * 2 ^ m ∧ e = 0 ∧ ((2 : Int) ^ m ∣ x ∧ w = x / 2 ^ m ∧ e' = 0 ∨ ¬ (2 : Int) ^ m ∣ x ∧ w = 0 ∧ e' = 20))) := by
      by_cases d1 : n < 0
      · exact ⟨0, 2, 0, 2, ishl_neg d1, by unfold shrR; rw [if_pos d1], .inl ⟨d1, rfl, rfl, rfl, rfl⟩⟩
      obtain ⟨m, rfl⟩ : ∃ m : Nat, n = (m : Int) := ⟨n.toNat, by omega⟩
      by_cases d2 : 65536 < m
      · by_cases d3 : x = 0
        · exact ⟨0, 3, 0, 0, ishl_long d2, by unfold shrR; rw [if_neg d1, if_pos d3], .inr (.inl ⟨by omega, rfl, rfl, rfl, .inl ⟨d3, rfl⟩⟩)⟩
        · have := tz_len (A := x.natAbs) (by omega) hx
          exact ⟨0, 3, 0, 20, ishl_long d2, by unfold shrR; rw [if_neg d1, if_neg d3, if_pos (by unfold twV; rw [if_neg d3]; omega)], .inr (.inl ⟨by omega, rfl, rfl, rfl, .inr ⟨d3, rfl⟩⟩)⟩
      · by_cases d3 : (2 : Int) ^ m ∣ x
        · exact ⟨x * 2 ^ m, 0, x / 2 ^ m, 0, ishl_fn hx (by omega) (by omega), shrR_dvd d3, .inr (.inr ⟨m, rfl, by omega, rfl, rfl, .inl ⟨d3, rfl, rfl⟩⟩)⟩
        · exact ⟨x * 2 ^ m, 0, 0, 20, ishl_fn hx (by omega) (by omega), shrR_nd d3, .inr (.inr ⟨m, rfl, by omega, rfl, rfl, .inr ⟨d3, rfl, rfl⟩⟩)⟩
    refine hS.call ?_
    have hR' := hR
    simp (disch := first | assumption | (apply Ap.symm; assumption) | omega | decide | (simp only [U_len, List.length_append, List.length_replicate, List.length_cons, List.length_nil, List.length_set] <;> omega) | fail) only [cells_IntA, fold_IntA, cells_RefA, fold_RefA, ↓Xa, Xb, Xc, ↓reduceIte, Nat.reduceLT, Nat.reduceEqDiff, Nat.reduceBEq, Nat.reduceLeDiff, Nat.reduceAdd, Nat.reduceMul]
    refine alloc_i fun p4 hp4 => ?_
    have n4 := hp4
    simp only [upd_none] at n4
    obtain ⟨_, _, _, n4⟩ := n4
    simp (disch := first | assumption | (apply Ap.symm; assumption) | omega | decide | (simp only [U_len, List.length_append, List.length_replicate, List.length_cons, List.length_nil, List.length_set] <;> omega) | fail) only [cells_IntA, fold_IntA, cells_RefA, fold_RefA, ↓Xa, Xb, Xc, ↓reduceIte, Nat.reduceLT, Nat.reduceEqDiff, Nat.reduceBEq, Nat.reduceLeDiff, Nat.reduceAdd, Nat.reduceMul]
    have hG4 : ∀ {u v w y : Option ABlk}, TzH ((((H.upd p1 u).upd p2 v).upd p3 w).upd p4 y) := hH.le (((((Le.refl H).updB n1).updB n2).updB n3).updB n4)
    refine run_call (ishr_run hG4 hx (by omega) (by omega) ?_)
    rw [hR]
    simp (disch := first | assumption | (apply Ap.symm; assumption) | omega | decide | (simp only [U_len, List.length_append, List.length_replicate, List.length_cons, List.length_nil, List.length_set] <;> omega) | fail) only [cells_IntA, fold_IntA, cells_RefA, fold_RefA, ↓Xa, Xb, Xc, ↓reduceIte, Nat.reduceLT, Nat.reduceEqDiff, Nat.reduceBEq, Nat.reduceLeDiff, Nat.reduceAdd, Nat.reduceMul]
    refine alloc_i fun p5 hp5 => ?_
    have n5 := hp5
    simp only [upd_none] at n5
    obtain ⟨_, _, _, _, n5⟩ := n5
    have fin : ∀ {u v w y z : Option ABlk}, SetR Q (.bool true) (((((H.upd p1 u).upd p2 v).upd p3 w).upd p4 y).upd p5 z) := out ((((((Le.refl H).updB n1).updB n2).updB n3).updB n4).updB n5)
    rcases C with ⟨c1, rfl, rfl, rfl, rfl⟩ | ⟨c1, rfl, rfl, rfl, c2⟩ | ⟨m, rfl, c1, rfl, rfl, c2⟩
    · have c3 : decide (n < 0) = true := decide_eq_true c1
      simp (disch := first | assumption | (apply Ap.symm; assumption) | omega | decide | (simp only [U_len, List.length_append, List.length_replicate, List.length_cons, List.length_nil, List.length_set] <;> omega) | fail) only [lss_neg, c3, cells_IntA, fold_IntA, cells_RefA, fold_RefA, ↓Xa, Xb, Xc, ↓reduceIte, Nat.reduceLT, Nat.reduceEqDiff, Nat.reduceBEq, Nat.reduceLeDiff, Nat.reduceAdd, Nat.reduceMul]
      refine (zero_fn (Bd.zero 1) (by omega)).call ?_
      simp (disch := first | assumption | (apply Ap.symm; assumption) | omega | decide | (simp only [U_len, List.length_append, List.length_replicate, List.length_cons, List.length_nil, List.length_set] <;> omega) | fail) only [decide_true, cells_IntA, fold_IntA, cells_RefA, fold_RefA, ↓Xa, Xb, Xc, ↓reduceIte, Nat.reduceLT, Nat.reduceEqDiff, Nat.reduceBEq, Nat.reduceLeDiff, Nat.reduceAdd, Nat.reduceMul]
      refine (zero_fn (Bd.zero 1) (by omega)).call ?_
      simp (disch := first | assumption | (apply Ap.symm; assumption) | omega | decide | (simp only [U_len, List.length_append, List.length_replicate, List.length_cons, List.length_nil, List.length_set] <;> omega) | fail) only [decide_true, cells_IntA, fold_IntA, cells_RefA, fold_RefA, rs3, ↓Xa, Xb, Xc, ↓reduceIte, Nat.reduceLT, Nat.reduceEqDiff, Nat.reduceBEq, Nat.reduceLeDiff, Nat.reduceAdd, Nat.reduceMul]
      exact fin
    · have c3 : decide (n < 0) = false := decide_eq_false (by omega)
      have c4 : decide (((65536 : Nat) : Int) < n) = true := decide_eq_true c1
      simp (disch := first | assumption | (apply Ap.symm; assumption) | omega | decide | (simp only [U_len, List.length_append, List.length_replicate, List.length_cons, List.length_nil, List.length_set] <;> omega) | fail) only [lss_neg, c3, gtr_i, c4, cells_IntA, fold_IntA, cells_RefA, fold_RefA, ↓Xa, Xb, Xc, ↓reduceIte, Nat.reduceLT, Nat.reduceEqDiff, Nat.reduceBEq, Nat.reduceLeDiff, Nat.reduceAdd, Nat.reduceMul]
      refine (zero_fn (Bd.zero 1) (by omega)).call ?_
      simp (disch := first | assumption | (apply Ap.symm; assumption) | omega | decide | (simp only [U_len, List.length_append, List.length_replicate, List.length_cons, List.length_nil, List.length_set] <;> omega) | fail) only [decide_true, cells_IntA, fold_IntA, cells_RefA, fold_RefA, ↓Xa, Xb, Xc, ↓reduceIte, Nat.reduceLT, Nat.reduceEqDiff, Nat.reduceBEq, Nat.reduceLeDiff, Nat.reduceAdd, Nat.reduceMul]
      refine (zero_fn (Bd.zero 1) (by omega)).call ?_
      simp (disch := first | assumption | (apply Ap.symm; assumption) | omega | decide | (simp only [U_len, List.length_append, List.length_replicate, List.length_cons, List.length_nil, List.length_set] <;> omega) | fail) only [decide_true, cells_IntA, fold_IntA, cells_RefA, fold_RefA, ↓Xa, Xb, Xc, ↓reduceIte, Nat.reduceLT, Nat.reduceEqDiff, Nat.reduceBEq, Nat.reduceLeDiff, Nat.reduceAdd, Nat.reduceMul]
      refine (rsign_fn false hx (by omega)).call ?_
      rcases c2 with ⟨c2, rfl⟩ | ⟨c2, rfl⟩
      · have c5 : decide (x = 0) = true := decide_eq_true c2
        simp (disch := first | assumption | (apply Ap.symm; assumption) | omega | decide | (simp only [U_len, List.length_append, List.length_replicate, List.length_cons, List.length_nil, List.length_set] <;> omega) | fail) only [sgn_eql0, c5, rs3, ↓Xa, Xb, Xc, ↓reduceIte, Nat.reduceLT, Nat.reduceEqDiff, Nat.reduceBEq, Nat.reduceLeDiff, Nat.reduceAdd, Nat.reduceMul]
        exact fin
      · have c5 : decide (x = 0) = false := decide_eq_false c2
        simp (disch := first | assumption | (apply Ap.symm; assumption) | omega | decide | (simp only [U_len, List.length_append, List.length_replicate, List.length_cons, List.length_nil, List.length_set] <;> omega) | fail) only [sgn_eql0, c5, cells_IntA, fold_IntA, cells_RefA, fold_RefA, ↓Xa, Xb, Xc, ↓reduceIte, Nat.reduceLT, Nat.reduceEqDiff, Nat.reduceBEq, Nat.reduceLeDiff, Nat.reduceAdd, Nat.reduceMul]
        refine (rsign_fn false hx (by omega)).call ?_
        simp (disch := first | assumption | (apply Ap.symm; assumption) | omega | decide | (simp only [U_len, List.length_append, List.length_replicate, List.length_cons, List.length_nil, List.length_set] <;> omega) | fail) only [sgn_neq0, c5, rs3, ↓Xa, Xb, Xc, ↓reduceIte, Nat.reduceLT, Nat.reduceEqDiff, Nat.reduceBEq, Nat.reduceLeDiff, Nat.reduceAdd, Nat.reduceMul]
        exact fin
    · have c4 : decide (((65536 : Nat) : Int) < (m : Int)) = false := decide_eq_false (by omega)
      simp (disch := first | assumption | (apply Ap.symm; assumption) | omega | decide | (simp only [U_len, List.length_append, List.length_replicate, List.length_cons, List.length_nil, List.length_set] <;> omega) | fail) only [lss_f, gtr_i, c4, cells_IntA, fold_IntA, cells_RefA, fold_RefA, ↓Xa, Xb, Xc, ↓reduceIte, Nat.reduceLT, Nat.reduceEqDiff, Nat.reduceBEq, Nat.reduceLeDiff, Nat.reduceAdd, Nat.reduceMul]
      have hz : Bd 155 (x * 2 ^ m) := shl_bd hx (by omega) 94 (by omega)
      have hpw : Bd 95 ((2 : Int) ^ m) := pow_bd (j := 94) (by omega)
      refine PFn.dcall (rpower_fn (by omega)) ?_
      simp (disch := first | assumption | (apply Ap.symm; assumption) | omega | decide | (simp only [U_len, List.length_append, List.length_replicate, List.length_cons, List.length_nil, List.length_set] <;> omega) | fail) only [cells_IntA, fold_IntA, cells_RefA, fold_RefA, ↓Xa, Xb, Xc, ↓reduceIte, Nat.reduceLT, Nat.reduceEqDiff, Nat.reduceBEq, Nat.reduceLeDiff, Nat.reduceAdd, Nat.reduceMul]
      refine PFn.dcall (rmuli_fn false false hx (by omega) hpw (by omega)) ?_
      simp (disch := first | assumption | (apply Ap.symm; assumption) | omega | decide | (simp only [U_len, List.length_append, List.length_replicate, List.length_cons, List.length_nil, List.length_set] <;> omega) | fail) only [cells_IntA, fold_IntA, cells_RefA, fold_RefA, ↓Xa, Xb, Xc, ↓reduceIte, Nat.reduceLT, Nat.reduceEqDiff, Nat.reduceBEq, Nat.reduceLeDiff, Nat.reduceAdd, Nat.reduceMul]
      refine (is_same false hz (by omega)).call ?_
      simp (disch := first | assumption | (apply Ap.symm; assumption) | omega | decide | (simp only [U_len, List.length_append, List.length_replicate, List.length_cons, List.length_nil, List.length_set] <;> omega) | fail) only [cells_IntA, fold_IntA, cells_RefA, fold_RefA, ↓Xa, Xb, Xc, ↓reduceIte, Nat.reduceLT, Nat.reduceEqDiff, Nat.reduceBEq, Nat.reduceLeDiff, Nat.reduceAdd, Nat.reduceMul]
      have hG5 : ∀ {u v w y z : Option ABlk}, TzH (((((H.upd p1 u).upd p2 v).upd p3 w).upd p4 y).upd p5 z) := hH.le ((((((Le.refl H).updB n1).updB n2).updB n3).updB n4).updB n5)
      refine run_call (ishr_run hG5 hz (by omega) (by omega) ?_)
      rw [shr_shl]
      simp (disch := first | assumption | (apply Ap.symm; assumption) | omega | decide | (simp only [U_len, List.length_append, List.length_replicate, List.length_cons, List.length_nil, List.length_set] <;> omega) | fail) only [cells_IntA, fold_IntA, cells_RefA, fold_RefA, ↓Xa, Xb, Xc, ↓reduceIte, Nat.reduceLT, Nat.reduceEqDiff, Nat.reduceBEq, Nat.reduceLeDiff, Nat.reduceAdd, Nat.reduceMul]
      refine alloc_i fun p6 hp6 => ?_
      have n6 := hp6
      simp only [upd_none] at n6
      obtain ⟨_, _, _, _, _, n6⟩ := n6
      simp (disch := first | assumption | (apply Ap.symm; assumption) | omega | decide | (simp only [U_len, List.length_append, List.length_replicate, List.length_cons, List.length_nil, List.length_set] <;> omega) | fail) only [cells_IntA, fold_IntA, cells_RefA, fold_RefA, ↓Xa, Xb, Xc, ↓reduceIte, Nat.reduceLT, Nat.reduceEqDiff, Nat.reduceBEq, Nat.reduceLeDiff, Nat.reduceAdd, Nat.reduceMul]
      refine (is_same false hx (by omega)).call ?_
      simp (disch := first | assumption | (apply Ap.symm; assumption) | omega | decide | (simp only [U_len, List.length_append, List.length_replicate, List.length_cons, List.length_nil, List.length_set] <;> omega) | fail) only [cells_IntA, fold_IntA, cells_RefA, fold_RefA, ↓Xa, Xb, Xc, ↓reduceIte, Nat.reduceLT, Nat.reduceEqDiff, Nat.reduceBEq, Nat.reduceLeDiff, Nat.reduceAdd, Nat.reduceMul]
      refine PFn.dcall (rpower_fn (by omega)) ?_
      simp (disch := first | assumption | (apply Ap.symm; assumption) | omega | decide | (simp only [U_len, List.length_append, List.length_replicate, List.length_cons, List.length_nil, List.length_set] <;> omega) | fail) only [cells_IntA, fold_IntA, cells_RefA, fold_RefA, ↓Xa, Xb, Xc, ↓reduceIte, Nat.reduceLT, Nat.reduceEqDiff, Nat.reduceBEq, Nat.reduceLeDiff, Nat.reduceAdd, Nat.reduceMul]
      have hp0 : (2 : Int) ^ m ≠ 0 := by have := Int.pow_pos (n := 2) (m := m) (by omega); omega
      have hov := rover_fn hx (by omega) hpw (by omega) hp0
      rcases c2 with ⟨c2, rfl, rfl⟩ | ⟨c2, rfl, rfl⟩
      · rw [if_pos (Int.emod_eq_zero_of_dvd c2)] at hov
        have hbq : Bd 60 (x / 2 ^ m) := by
          rw [← sg_shr c2]; exact Bd.sgn (Nat.lt_of_le_of_lt (Nat.div_le_self _ _) hx)
        refine PFn.dcall hov ?_
        simp (disch := first | assumption | (apply Ap.symm; assumption) | omega | decide | (simp only [U_len, List.length_append, List.length_replicate, List.length_cons, List.length_nil, List.length_set] <;> omega) | fail) only [cells_IntA, fold_IntA, cells_RefA, fold_RefA, ↓Xa, Xb, Xc, ↓reduceIte, Nat.reduceLT, Nat.reduceEqDiff, Nat.reduceBEq, Nat.reduceLeDiff, Nat.reduceAdd, Nat.reduceMul]
        refine dalloc_i fun p7 hp7 => ?_
        have n7 := hp7
        simp only [upd_none] at n7
        obtain ⟨_, _, _, _, _, _, n7⟩ := n7
        simp (disch := first | assumption | (apply Ap.symm; assumption) | omega | decide | (simp only [U_len, List.length_append, List.length_replicate, List.length_cons, List.length_nil, List.length_set] <;> omega) | fail) only [cells_IntA, fold_IntA, cells_RefA, fold_RefA, ↓Xa, Xb, Xc, ↓reduceIte, Nat.reduceLT, Nat.reduceEqDiff, Nat.reduceBEq, Nat.reduceLeDiff, Nat.reduceAdd, Nat.reduceMul]
        refine (is_same false hbq (by omega)).call ?_
        simp (disch := first | assumption | (apply Ap.symm; assumption) | omega | decide | (simp only [U_len, List.length_append, List.length_replicate, List.length_cons, List.length_nil, List.length_set] <;> omega) | fail) only [rs3, ↓Xa, Xb, Xc, ↓reduceIte, Nat.reduceLT, Nat.reduceEqDiff, Nat.reduceBEq, Nat.reduceLeDiff, Nat.reduceAdd, Nat.reduceMul]
        exact out ((((((((Le.refl H).updB n1).updB n2).updB n3).updB n4).updB n5).updB n6).updB n7)
      · rw [if_neg (fun h => c2 (Int.dvd_of_emod_eq_zero h))] at hov
        refine PFn.dcall hov ?_
        simp (disch := first | assumption | (apply Ap.symm; assumption) | omega | decide | (simp only [U_len, List.length_append, List.length_replicate, List.length_cons, List.length_nil, List.length_set] <;> omega) | fail) only [cells_IntA, fold_IntA, cells_RefA, fold_RefA, ↓Xa, Xb, Xc, ↓reduceIte, Nat.reduceLT, Nat.reduceEqDiff, Nat.reduceBEq, Nat.reduceLeDiff, Nat.reduceAdd, Nat.reduceMul]
        refine dalloc_i fun p7 hp7 => ?_
        have n7 := hp7
        simp only [upd_none] at n7
        obtain ⟨_, _, _, _, _, _, n7⟩ := n7
        simp (disch := first | assumption | (apply Ap.symm; assumption) | omega | decide | (simp only [U_len, List.length_append, List.length_replicate, List.length_cons, List.length_nil, List.length_set] <;> omega) | fail) only [cells_IntA, fold_IntA, cells_RefA, fold_RefA, ↓Xa, Xb, Xc, ↓reduceIte, Nat.reduceLT, Nat.reduceEqDiff, Nat.reduceBEq, Nat.reduceLeDiff, Nat.reduceAdd, Nat.reduceMul]
        refine (zero_fn (Bd.zero 1) (by omega)).call ?_
        simp (disch := first | assumption | (apply Ap.symm; assumption) | omega | decide | (simp only [U_len, List.length_append, List.length_replicate, List.length_cons, List.length_nil, List.length_set] <;> omega) | fail) only [decide_true, rs3, ↓Xa, Xb, Xc, ↓reduceIte, Nat.reduceLT, Nat.reduceEqDiff, Nat.reduceBEq, Nat.reduceLeDiff, Nat.reduceAdd, Nat.reduceMul]
        exact out ((((((((Le.refl H).updB n1).updB n2).updB n3).updB n4).updB n5).updB n6).updB n7)
  simp (disch := first | assumption | (apply Ap.symm; assumption) | omega | decide | (simp only [U_len, List.length_append, List.length_replicate, List.length_cons, List.length_nil, List.length_set] <;> omega) | fail) only [sndC, ac3, ↓Xa, Xb, Xc, ↓reduceIte, Nat.reduceLT, Nat.reduceEqDiff, Nat.reduceBEq, Nat.reduceLeDiff, Nat.reduceAdd, Nat.reduceMul] at tail
  by_cases g1 : ((3000 : Nat) : Int) < n
  · have g3 : decide (((3000 : Nat) : Int) < n) = true := decide_eq_true g1
    have g2 : decide (n ≤ ((65536 : Nat) : Int)) = false := decide_eq_false (by omega)
    simp (disch := first | assumption | (apply Ap.symm; assumption) | omega | decide | (simp only [U_len, List.length_append, List.length_replicate, List.length_cons, List.length_nil, List.length_set] <;> omega) | fail) only [gtr_i, leq_i, g3, g2, ↓Xa, Xb, Xc, ↓reduceIte, Nat.reduceLT, Nat.reduceEqDiff, Nat.reduceBEq, Nat.reduceLeDiff, Nat.reduceAdd, Nat.reduceMul]
    exact tail
  · have g3 : decide (((3000 : Nat) : Int) < n) = false := decide_eq_false g1
    simp (disch := first | assumption | (apply Ap.symm; assumption) | omega | decide | (simp only [U_len, List.length_append, List.length_replicate, List.length_cons, List.length_nil, List.length_set] <;> omega) | fail) only [gtr_i, leq_i, g3, ↓Xa, Xb, Xc, ↓reduceIte, Nat.reduceLT, Nat.reduceEqDiff, Nat.reduceBEq, Nat.reduceLeDiff, Nat.reduceAdd, Nat.reduceMul]
    exact tail
end Go.Proofs.YtipbcjnniamcgaaDoor.Fw
