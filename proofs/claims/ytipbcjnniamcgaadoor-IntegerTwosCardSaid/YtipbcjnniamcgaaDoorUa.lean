/- How often two divides a whole number; shifts of whole numbers; powers of two: the program's and the reference's. -/
import Derived.Test.YtipbcjnniamcgaaDoorRs
import Derived.Test.YtipbcjnniamcgaaDoorLk
import Derived.Test.YtipbcjnniamcgaaDoorTa
namespace Go.Proofs.YtipbcjnniamcgaaDoor.Fw
set_option linter.unusedSimpArgs false
set_option linter.unusedVariables false
open Go Go.Proofs.YtipbcjnniamcgaaDoor.Ma
set_option maxRecDepth 20000

/-- How often two divides a whole number; -1 of nought. -/
def twV (x : Int) : Int := if x = 0 then -1 else ((tz x.natAbs : Nat) : Int)
theorem itwos_run {H : AHeap} {Q : AV → AHeap → Prop} {x : Int} {k : Nat} (hH : TzH H) (hx : Bd k x) (hk : k ≤ 1000000) (hq : Q (.int .i64 (twV x)) H) : Run Tryd.prog 21 [IntA x] H Q := by
  have hl := hx.len
  refine enter21 (by simp) ?_
  simp (disch := first | assumption | (apply Ap.symm; assumption) | omega | decide | (simp only [U_len, List.length_append, List.length_replicate, List.length_cons, List.length_nil, List.length_set] <;> omega) | fail) only [ac21, cells_IntA, ↓Xa, Xb, Xc, ↓reduceIte, Nat.reduceLT, Nat.reduceEqDiff, Nat.reduceBEq, Nat.reduceLeDiff, Nat.reduceAdd, Nat.reduceMul]
  refine alloc_i fun p1 hp1 => ?_
  have n1 := hp1
  have fin : ∀ {v : AV} {a : Option ABlk}, Q v H → SetR Q v (H.upd p1 a) := fun h => SetR.dropTo ((Le.refl H).updB n1) (SetR.now h)
  simp (disch := first | assumption | (apply Ap.symm; assumption) | omega | decide | (simp only [U_len, List.length_append, List.length_replicate, List.length_cons, List.length_nil, List.length_set] <;> omega) | fail) only [fold_IntA, ↓Xa, Xb, Xc, ↓reduceIte, Nat.reduceLT, Nat.reduceEqDiff, Nat.reduceBEq, Nat.reduceLeDiff, Nat.reduceAdd, Nat.reduceMul]
  refine (sign_fn hx (by omega)).call ?_
  unfold twV at hq
  by_cases h0 : x = 0
  · rw [if_pos h0] at hq
    have e : decide (x = 0) = true := decide_eq_true h0
    simp (disch := first | assumption | (apply Ap.symm; assumption) | omega | decide | (simp only [U_len, List.length_append, List.length_replicate, List.length_cons, List.length_nil, List.length_set] <;> omega) | fail) only [sgn_eql0, e, rs21, ↓Xa, Xb, Xc, ↓reduceIte, Nat.reduceLT, Nat.reduceEqDiff, Nat.reduceBEq, Nat.reduceLeDiff, Nat.reduceAdd, Nat.reduceMul]
    exact fin hq
  · rw [if_neg h0] at hq
    have e : decide (x = 0) = false := decide_eq_false h0
    simp (disch := first | assumption | (apply Ap.symm; assumption) | omega | decide | (simp only [U_len, List.length_append, List.length_replicate, List.length_cons, List.length_nil, List.length_set] <;> omega) | fail) only [sgn_eql0, e, cell_IntB, cell_IntD, cell_Bool, cell_Dool, ↓Xa, Xb, Xc, ↓reduceIte, Nat.reduceLT, Nat.reduceEqDiff, Nat.reduceBEq, Nat.reduceLeDiff, Nat.reduceAdd, Nat.reduceMul]
    refine run_call (twos_run (hH.le ((Le.refl H).updB n1)) (lim_digs (by omega) _) (by omega) ?_)
    rw [val_digs (by omega)]
    simp (disch := first | assumption | (apply Ap.symm; assumption) | omega | decide | (simp only [U_len, List.length_append, List.length_replicate, List.length_cons, List.length_nil, List.length_set] <;> omega) | fail) only [rs21, ↓Xa, Xb, Xc, ↓reduceIte, Nat.reduceLT, Nat.reduceEqDiff, Nat.reduceBEq, Nat.reduceLeDiff, Nat.reduceAdd, Nat.reduceMul]
    exact fin hq
theorem rtwos_fn {x : Int} {k : Nat} (t : Bool) (hx : Bd k x) (hk : k ≤ 1000000) : PFn Tryd.prog 22 [RefA x t] (.int .i64 (twV x)) := by
  intro H Q hq
  have hl := hx.rlen
  refine enter22 (by simp) ?_
  simp (disch := first | assumption | (apply Ap.symm; assumption) | omega | decide | (simp only [U_len, List.length_append, List.length_replicate, List.length_cons, List.length_nil, List.length_set] <;> omega) | fail) only [ac22, RefA, ↓Xa, Xb, Xc, ↓reduceIte, Nat.reduceLT, Nat.reduceEqDiff, Nat.reduceBEq, Nat.reduceLeDiff, Nat.reduceAdd, Nat.reduceMul]
  refine alloc_i fun p1 hp1 => ?_
  have n1 := hp1
  have fin : ∀ {v : AV} {a : Option ABlk}, Q v H → SetR Q v (H.upd p1 a) := fun h => SetR.dropTo ((Le.refl H).updB n1) (SetR.now h)
  have hz := digs_len0 (B := 65536) (n := x.natAbs) (by omega)
  unfold twV at hq
  by_cases h0 : x = 0
  · rw [if_pos h0] at hq
    have e : (digs 65536 x.natAbs).length = 0 := by rw [hz]; omega
    simp (disch := first | assumption | (apply Ap.symm; assumption) | omega | decide | (simp only [U_len, List.length_append, List.length_replicate, List.length_cons, List.length_nil, List.length_set] <;> omega) | fail) only [e, rs22, ↓Xa, Xb, Xc, ↓reduceIte, Nat.reduceLT, Nat.reduceEqDiff, Nat.reduceBEq, Nat.reduceLeDiff, Nat.reduceAdd, Nat.reduceMul]
    exact fin hq
  · rw [if_neg h0] at hq
    have e : decide ((digs 65536 x.natAbs).length = 0) = false := by rw [decide_eq_false]; rw [hz]; omega
    have hp : 0 < x.natAbs := by omega
    have hb : tz x.natAbs < 32 * k := by
      refine tz_lt hp ?_
      rw [Nat.pow_mul]; exact hx
    have low : ∀ i, i ≤ tz x.natAbs → i / 16 < (digs 65536 x.natAbs).length := fun i hi => by
      refine bit_len (Nat.le_of_dvd hp ?_)
      obtain ⟨m, hm⟩ := tz_spec x.natAbs hp
      have : 2 ^ i ∣ 2 ^ tz x.natAbs * (2 * m + 1) := Nat.dvd_trans (Nat.pow_dvd_pow 2 hi) (Nat.dvd_mul_right _ _)
      rw [← hm] at this; exact this
    simp (disch := first | assumption | (apply Ap.symm; assumption) | omega | decide | (simp only [U_len, List.length_append, List.length_replicate, List.length_cons, List.length_nil, List.length_set] <;> omega) | fail) only [e, ↓Xa, Xb, Xc, ↓reduceIte, Nat.reduceLT, Nat.reduceEqDiff, Nat.reduceBEq, Nat.reduceLeDiff, Nat.reduceAdd, Nat.reduceMul]
    refine W_loop (fun i : Nat => ⟨[], [(1, .ptr p1 2 0), (3, .int .i64 (i : Nat))], H.upd p1 (some (.row 30 0 [.bool (decide (x < 0)), LS (digs 65536 x.natAbs) t]))⟩) (fun i => i ≤ tz x.natAbs) (fun i => tz x.natAbs - i) 0 (Settle.now rfl) (Nat.zero_le _) ?_
    intro i hi
    simp (disch := first | assumption | (apply Ap.symm; assumption) | omega | decide | (simp only [U_len, List.length_append, List.length_replicate, List.length_cons, List.length_nil, List.length_set] <;> omega) | fail) only [↓Xa, Xb, Xc, ↓reduceIte, Nat.reduceLT, Nat.reduceEqDiff, Nat.reduceBEq, Nat.reduceLeDiff, Nat.reduceAdd, Nat.reduceMul]
    refine (bit_fn x.natAbs i t (by omega) (low i hi)).call ?_
    rw [tz_bit hp hi]
    by_cases h : i = tz x.natAbs
    · rw [if_pos h]
      simp (disch := first | assumption | (apply Ap.symm; assumption) | omega | decide | (simp only [U_len, List.length_append, List.length_replicate, List.length_cons, List.length_nil, List.length_set] <;> omega) | fail) only [↓Xa, Xb, Xc, ↓reduceIte, Nat.reduceLT, Nat.reduceEqDiff, Nat.reduceBEq, Nat.reduceLeDiff, Nat.reduceAdd, Nat.reduceMul]
      refine Settle.now ?_
      simp (disch := first | assumption | (apply Ap.symm; assumption) | omega | decide | (simp only [U_len, List.length_append, List.length_replicate, List.length_cons, List.length_nil, List.length_set] <;> omega) | fail) only [rs22, ↓Xa, Xb, Xc, ↓reduceIte, Nat.reduceLT, Nat.reduceEqDiff, Nat.reduceBEq, Nat.reduceLeDiff, Nat.reduceAdd, Nat.reduceMul]
      rw [h]
      exact fin hq
    · rw [if_neg h]
      simp (disch := first | assumption | (apply Ap.symm; assumption) | omega | decide | (simp only [U_len, List.length_append, List.length_replicate, List.length_cons, List.length_nil, List.length_set] <;> omega) | fail) only [↓Xa, Xb, Xc, ↓reduceIte, Nat.reduceLT, Nat.reduceEqDiff, Nat.reduceBEq, Nat.reduceLeDiff, Nat.reduceAdd, Nat.reduceMul]
      refine Settle.now ⟨i + 1, by omega, by omega, rfl⟩

theorem shlm_fn {a : List Nat} {n : Int} (t : Bool) (hn : n < 0) : PFn Tryd.prog 59 [LS a t, .int .i64 n] (.tup [LS [] true, .int .i64 ((2 : Nat) : Int)]) := by
  intro H Q hq
  have e : decide (n < 0) = true := decide_eq_true hn
  refine enter59 (by simp) ?_
  simp (disch := first | assumption | (apply Ap.symm; assumption) | omega | decide | (simp only [U_len, List.length_append, List.length_replicate, List.length_cons, List.length_nil, List.length_set] <;> omega) | fail) only [ac59, lss_neg, e, rs59, ↓Xa, Xb, Xc, ↓reduceIte, Nat.reduceLT, Nat.reduceEqDiff, Nat.reduceBEq, Nat.reduceLeDiff, Nat.reduceAdd, Nat.reduceMul]
  exact SetR.now hq
theorem shlb_fn {a : List Nat} {n : Nat} (t : Bool) (hn : 65536 < n) : PFn Tryd.prog 59 [LS a t, .int .i64 (n : Int)] (.tup [LS [] true, .int .i64 ((3 : Nat) : Int)]) := by
  intro H Q hq
  refine enter59 (by simp) ?_
  simp (disch := first | assumption | (apply Ap.symm; assumption) | omega | decide | (simp only [U_len, List.length_append, List.length_replicate, List.length_cons, List.length_nil, List.length_set] <;> omega) | fail) only [ac59, lss_f, hn, rs59, ↓Xa, Xb, Xc, ↓reduceIte, Nat.reduceLT, Nat.reduceEqDiff, Nat.reduceBEq, Nat.reduceLeDiff, Nat.reduceAdd, Nat.reduceMul]
  exact SetR.now hq
theorem shl_bd {x : Int} {n k : Nat} (hx : Bd k x) (hn : n ≤ 32 * (k + 2048)) (j : Nat) (hj : n ≤ 32 * j) : Bd (k + (j + 1)) (x * 2 ^ n) := by
  refine Bd.mul hx ?_
  unfold Bd
  rw [Int.natAbs_pow, show (4294967296 : Nat) = 2 ^ 32 from rfl, ← Nat.pow_mul]
  exact Nat.pow_lt_pow_right (by omega) (by omega)
theorem sg_shl {x : Int} {n : Nat} : sg (decide (x < 0)) (x.natAbs * 2 ^ n) = x * 2 ^ n := by
  have h : ((x.natAbs * 2 ^ n : Nat) : Int) = (x.natAbs : Int) * 2 ^ n := by push_cast; rfl
  unfold sg
  by_cases hx : x < 0
  · rw [decide_eq_true hx, if_pos rfl, h, ← Int.neg_mul]; congr 1; omega
  · rw [decide_eq_false hx, if_neg (by simp), h]; congr 1; omega
theorem ishl_fn {x : Int} {n k : Nat} (hx : Bd k x) (hk : k ≤ 1000000) (hn : n ≤ 65536) : PFn Tryd.prog 25 [IntA x, .int .i64 (n : Int)] (.tup [IntA (x * 2 ^ n), .int .i64 ((0 : Nat) : Int)]) := by
  intro H Q hq
  have hl := hx.len
  have hbs := (shl_bd hx (n := n) (by omega) 2048 (by omega)).len
  have hbe : (x * 2 ^ n).natAbs = x.natAbs * 2 ^ n := by rw [← sg_shl, sg_abs]
  rw [hbe] at hbs
  refine enter25 (by simp) ?_
  simp (disch := first | assumption | (apply Ap.symm; assumption) | omega | decide | (simp only [U_len, List.length_append, List.length_replicate, List.length_cons, List.length_nil, List.length_set] <;> omega) | fail) only [ac25, cells_IntA, ↓Xa, Xb, Xc, ↓reduceIte, Nat.reduceLT, Nat.reduceEqDiff, Nat.reduceBEq, Nat.reduceLeDiff, Nat.reduceAdd, Nat.reduceMul]
  refine alloc_i fun p1 hp1 => ?_
  have n1 := hp1
  simp (disch := first | assumption | (apply Ap.symm; assumption) | omega | decide | (simp only [U_len, List.length_append, List.length_replicate, List.length_cons, List.length_nil, List.length_set] <;> omega) | fail) only [↓Xa, Xb, Xc, ↓reduceIte, Nat.reduceLT, Nat.reduceEqDiff, Nat.reduceBEq, Nat.reduceLeDiff, Nat.reduceAdd, Nat.reduceMul]
  refine alloc_i fun p2 hp2 => ?_
  have n2 := hp2
  simp only [upd_none] at n2
  obtain ⟨_, n2⟩ := n2
  have fin : ∀ {v : AV} {a b : Option ABlk}, Q v H → SetR Q v ((H.upd p1 a).upd p2 b) := fun h => SetR.dropTo (((Le.refl H).updB n1).updB n2) (SetR.now h)
  simp (disch := first | assumption | (apply Ap.symm; assumption) | omega | decide | (simp only [U_len, List.length_append, List.length_replicate, List.length_cons, List.length_nil, List.length_set] <;> omega) | fail) only [IntD, IntB, ↓Xa, Xb, Xc, ↓reduceIte, Nat.reduceLT, Nat.reduceEqDiff, Nat.reduceBEq, Nat.reduceLeDiff, Nat.reduceAdd, Nat.reduceMul]
  refine (shl_fn true (lim_digs (by omega) _) hn (by omega)).call ?_
  rw [val_digs (by omega)]
  simp (disch := first | assumption | (apply Ap.symm; assumption) | omega | decide | (simp only [U_len, List.length_append, List.length_replicate, List.length_cons, List.length_nil, List.length_set] <;> omega) | fail) only [IntD, IntB, ↓Xa, Xb, Xc, ↓reduceIte, Nat.reduceLT, Nat.reduceEqDiff, Nat.reduceBEq, Nat.reduceLeDiff, Nat.reduceAdd, Nat.reduceMul]
  refine (made_fn _ _ (by omega)).call ?_
  rw [sg_shl]
  simp (disch := first | assumption | (apply Ap.symm; assumption) | omega | decide | (simp only [U_len, List.length_append, List.length_replicate, List.length_cons, List.length_nil, List.length_set] <;> omega) | fail) only [cells_IntA, fold_IntA, rs25, ↓Xa, Xb, Xc, ↓reduceIte, Nat.reduceLT, Nat.reduceEqDiff, Nat.reduceBEq, Nat.reduceLeDiff, Nat.reduceAdd, Nat.reduceMul]
  exact fin hq
theorem ishl_neg {x n : Int} (hn : n < 0) : PFn Tryd.prog 25 [IntA x, .int .i64 n] (.tup [IntA 0, .int .i64 ((2 : Nat) : Int)]) := by
  intro H Q hq
  refine enter25 (by simp) ?_
  simp (disch := first | assumption | (apply Ap.symm; assumption) | omega | decide | (simp only [U_len, List.length_append, List.length_replicate, List.length_cons, List.length_nil, List.length_set] <;> omega) | fail) only [ac25, cells_IntA, ↓Xa, Xb, Xc, ↓reduceIte, Nat.reduceLT, Nat.reduceEqDiff, Nat.reduceBEq, Nat.reduceLeDiff, Nat.reduceAdd, Nat.reduceMul]
  refine alloc_i fun p1 hp1 => ?_
  have n1 := hp1
  simp (disch := first | assumption | (apply Ap.symm; assumption) | omega | decide | (simp only [U_len, List.length_append, List.length_replicate, List.length_cons, List.length_nil, List.length_set] <;> omega) | fail) only [↓Xa, Xb, Xc, ↓reduceIte, Nat.reduceLT, Nat.reduceEqDiff, Nat.reduceBEq, Nat.reduceLeDiff, Nat.reduceAdd, Nat.reduceMul]
  refine alloc_i fun p2 hp2 => ?_
  have n2 := hp2
  simp only [upd_none] at n2
  obtain ⟨_, n2⟩ := n2
  have fin : ∀ {v : AV} {a b : Option ABlk}, Q v H → SetR Q v ((H.upd p1 a).upd p2 b) := fun h => SetR.dropTo (((Le.refl H).updB n1).updB n2) (SetR.now h)
  simp (disch := first | assumption | (apply Ap.symm; assumption) | omega | decide | (simp only [U_len, List.length_append, List.length_replicate, List.length_cons, List.length_nil, List.length_set] <;> omega) | fail) only [IntD, IntB, ↓Xa, Xb, Xc, ↓reduceIte, Nat.reduceLT, Nat.reduceEqDiff, Nat.reduceBEq, Nat.reduceLeDiff, Nat.reduceAdd, Nat.reduceMul]
  refine (shlm_fn true hn).call ?_
  simp (disch := first | assumption | (apply Ap.symm; assumption) | omega | decide | (simp only [U_len, List.length_append, List.length_replicate, List.length_cons, List.length_nil, List.length_set] <;> omega) | fail) only [IntD, IntB, IntA_0, cells_IntA, fold_IntA, rs25, ↓Xa, Xb, Xc, ↓reduceIte, Nat.reduceLT, Nat.reduceEqDiff, Nat.reduceBEq, Nat.reduceLeDiff, Nat.reduceAdd, Nat.reduceMul]
  exact fin hq
theorem ishl_long {x : Int} {n : Nat} (hn : 65536 < n) : PFn Tryd.prog 25 [IntA x, .int .i64 (n : Int)] (.tup [IntA 0, .int .i64 ((3 : Nat) : Int)]) := by
  intro H Q hq
  refine enter25 (by simp) ?_
  simp (disch := first | assumption | (apply Ap.symm; assumption) | omega | decide | (simp only [U_len, List.length_append, List.length_replicate, List.length_cons, List.length_nil, List.length_set] <;> omega) | fail) only [ac25, cells_IntA, ↓Xa, Xb, Xc, ↓reduceIte, Nat.reduceLT, Nat.reduceEqDiff, Nat.reduceBEq, Nat.reduceLeDiff, Nat.reduceAdd, Nat.reduceMul]
  refine alloc_i fun p1 hp1 => ?_
  have n1 := hp1
  simp (disch := first | assumption | (apply Ap.symm; assumption) | omega | decide | (simp only [U_len, List.length_append, List.length_replicate, List.length_cons, List.length_nil, List.length_set] <;> omega) | fail) only [↓Xa, Xb, Xc, ↓reduceIte, Nat.reduceLT, Nat.reduceEqDiff, Nat.reduceBEq, Nat.reduceLeDiff, Nat.reduceAdd, Nat.reduceMul]
  refine alloc_i fun p2 hp2 => ?_
  have n2 := hp2
  simp only [upd_none] at n2
  obtain ⟨_, n2⟩ := n2
  have fin : ∀ {v : AV} {a b : Option ABlk}, Q v H → SetR Q v ((H.upd p1 a).upd p2 b) := fun h => SetR.dropTo (((Le.refl H).updB n1).updB n2) (SetR.now h)
  simp (disch := first | assumption | (apply Ap.symm; assumption) | omega | decide | (simp only [U_len, List.length_append, List.length_replicate, List.length_cons, List.length_nil, List.length_set] <;> omega) | fail) only [IntD, IntB, ↓Xa, Xb, Xc, ↓reduceIte, Nat.reduceLT, Nat.reduceEqDiff, Nat.reduceBEq, Nat.reduceLeDiff, Nat.reduceAdd, Nat.reduceMul]
  refine (shlb_fn true hn).call ?_
  simp (disch := first | assumption | (apply Ap.symm; assumption) | omega | decide | (simp only [U_len, List.length_append, List.length_replicate, List.length_cons, List.length_nil, List.length_set] <;> omega) | fail) only [IntD, IntB, IntA_0, cells_IntA, fold_IntA, rs25, ↓Xa, Xb, Xc, ↓reduceIte, Nat.reduceLT, Nat.reduceEqDiff, Nat.reduceBEq, Nat.reduceLeDiff, Nat.reduceAdd, Nat.reduceMul]
  exact fin hq
end Go.Proofs.YtipbcjnniamcgaaDoor.Fw
