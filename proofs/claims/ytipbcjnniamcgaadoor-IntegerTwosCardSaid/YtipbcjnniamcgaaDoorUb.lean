/- Exact halvings of whole numbers; the reference's powers of two. -/
import Derived.Test.YtipbcjnniamcgaaDoorUa
namespace Go.Proofs.YtipbcjnniamcgaaDoor.Fw
set_option linter.unusedSimpArgs false
set_option linter.unusedVariables false
open Go Go.Proofs.YtipbcjnniamcgaaDoor.Ma
set_option maxRecDepth 20000

theorem sg_shr {x : Int} {n : Nat} (h : (2 : Int) ^ n ∣ x) : sg (decide (x < 0)) (x.natAbs / 2 ^ n) = x / 2 ^ n := by
  obtain ⟨y, rfl⟩ := h
  have hp : (0 : Int) < 2 ^ n := Int.pow_pos (by omega)
  rw [Int.mul_ediv_cancel_left _ (by omega), Int.natAbs_mul, Int.natAbs_pow, show (2 : Int).natAbs = 2 from rfl, Nat.mul_div_cancel_left _ (Nat.pow_pos (by omega))]
  have : decide (2 ^ n * y < 0) = decide (y < 0) := decide_eq_decide.2 ⟨fun h => by
    by_cases h0 : y < 0
    · exact h0
    · exact absurd (Int.mul_nonneg (Int.le_of_lt hp) (by omega : 0 ≤ y)) (by omega), fun h => Int.mul_neg_of_pos_of_neg hp h⟩
  rw [this, sg_self]
theorem dvd_tz {x : Int} {n : Nat} (h0 : x ≠ 0) : (2 : Int) ^ n ∣ x ↔ n ≤ tz x.natAbs := by
  have hp : 0 < x.natAbs := by omega
  rw [show ((2 : Int) ^ n ∣ x) ↔ 2 ^ n ∣ x.natAbs by rw [← Int.natAbs_dvd_natAbs, Int.natAbs_pow]; rfl]
  obtain ⟨m, hm⟩ := tz_spec x.natAbs hp
  constructor
  · intro h
    apply Nat.le_of_not_lt
    intro hlt
    have h1 : 2 ^ (tz x.natAbs + 1) ∣ x.natAbs := Nat.dvd_trans (Nat.pow_dvd_pow 2 hlt) h
    rw [hm, tz_eq, Nat.pow_succ] at h1
    have h2 := (Nat.mul_dvd_mul_iff_left (Nat.pow_pos (n := tz x.natAbs) (show 0 < 2 by omega))).1 h1
    omega
  · intro h
    rw [hm]
    exact Nat.dvd_trans (Nat.pow_dvd_pow 2 h) (Nat.dvd_mul_right _ _)

/-- What an exact halving answers. -/
def shrR (x : Int) (n : Int) : AV :=
  if n < 0 then .tup [IntA 0, .int .i64 ((2 : Nat) : Int)] else if x = 0 then .tup [IntA 0, .int .i64 ((0 : Nat) : Int)]
  else if twV x < n then .tup [IntA 0, .int .i64 ((20 : Nat) : Int)] else .tup [IntA (x / 2 ^ n.toNat), .int .i64 ((0 : Nat) : Int)]
theorem ishr_run {H : AHeap} {Q : AV → AHeap → Prop} {x n : Int} {k : Nat} (hH : TzH H) (hx : Bd k x) (hk : k ≤ 1000000) (hn : n < 9223372036854775808) (hq : Q (shrR x n) H) : Run Tryd.prog 26 [IntA x, .int .i64 n] H Q := by
  have hl := hx.len
  refine enter26 (by simp) ?_
  simp (disch := first | assumption | (apply Ap.symm; assumption) | omega | decide | (simp only [U_len, List.length_append, List.length_replicate, List.length_cons, List.length_nil, List.length_set] <;> omega) | fail) only [ac26, cells_IntA, ↓Xa, Xb, Xc, ↓reduceIte, Nat.reduceLT, Nat.reduceEqDiff, Nat.reduceBEq, Nat.reduceLeDiff, Nat.reduceAdd, Nat.reduceMul]
  refine alloc_i fun p1 hp1 => ?_
  have n1 := hp1
  simp (disch := first | assumption | (apply Ap.symm; assumption) | omega | decide | (simp only [U_len, List.length_append, List.length_replicate, List.length_cons, List.length_nil, List.length_set] <;> omega) | fail) only [↓Xa, Xb, Xc, ↓reduceIte, Nat.reduceLT, Nat.reduceEqDiff, Nat.reduceBEq, Nat.reduceLeDiff, Nat.reduceAdd, Nat.reduceMul]
  refine alloc_i fun p2 hp2 => ?_
  have n2 := hp2
  simp only [upd_none] at n2
  obtain ⟨_, n2⟩ := n2
  have fin : ∀ {v : AV} {a b : Option ABlk}, Q v H → SetR Q v ((H.upd p1 a).upd p2 b) := fun h => SetR.dropTo (((Le.refl H).updB n1).updB n2) (SetR.now h)
  have hT : ∀ a b, TzH ((H.upd p1 a).upd p2 b) := fun a b => hH.le (((Le.refl H).updB n1).updB n2)
  unfold shrR at hq
  by_cases h1 : n < 0
  · rw [if_pos h1] at hq
    have e : decide (n < 0) = true := decide_eq_true h1
    simp (disch := first | assumption | (apply Ap.symm; assumption) | omega | decide | (simp only [U_len, List.length_append, List.length_replicate, List.length_cons, List.length_nil, List.length_set] <;> omega) | fail) only [lss_neg, e, IntA_0, cells_IntA, fold_IntA, rs26, ↓Xa, Xb, Xc, ↓reduceIte, Nat.reduceLT, Nat.reduceEqDiff, Nat.reduceBEq, Nat.reduceLeDiff, Nat.reduceAdd, Nat.reduceMul]
    exact fin hq
  rw [if_neg h1] at hq
  have e1 : decide (n < 0) = false := decide_eq_false h1
  simp (disch := first | assumption | (apply Ap.symm; assumption) | omega | decide | (simp only [U_len, List.length_append, List.length_replicate, List.length_cons, List.length_nil, List.length_set] <;> omega) | fail) only [lss_neg, e1, fold_IntA, ↓Xa, Xb, Xc, ↓reduceIte, Nat.reduceLT, Nat.reduceEqDiff, Nat.reduceBEq, Nat.reduceLeDiff, Nat.reduceAdd, Nat.reduceMul]
  refine (sign_fn hx (by omega)).call ?_
  by_cases h2 : x = 0
  · rw [if_pos h2] at hq
    have e : decide (x = 0) = true := decide_eq_true h2
    simp (disch := first | assumption | (apply Ap.symm; assumption) | omega | decide | (simp only [U_len, List.length_append, List.length_replicate, List.length_cons, List.length_nil, List.length_set] <;> omega) | fail) only [sgn_eql0, e, IntA_0, cells_IntA, fold_IntA, rs26, ↓Xa, Xb, Xc, ↓reduceIte, Nat.reduceLT, Nat.reduceEqDiff, Nat.reduceBEq, Nat.reduceLeDiff, Nat.reduceAdd, Nat.reduceMul]
    exact fin hq
  rw [if_neg h2] at hq
  have e2 : decide (x = 0) = false := decide_eq_false h2
  simp (disch := first | assumption | (apply Ap.symm; assumption) | omega | decide | (simp only [U_len, List.length_append, List.length_replicate, List.length_cons, List.length_nil, List.length_set] <;> omega) | fail) only [sgn_eql0, e2, fold_IntA, ↓Xa, Xb, Xc, ↓reduceIte, Nat.reduceLT, Nat.reduceEqDiff, Nat.reduceBEq, Nat.reduceLeDiff, Nat.reduceAdd, Nat.reduceMul]
  refine run_call (itwos_run (hT _ _) hx hk ?_)
  have c3 : ∀ K, binW .lss (.int .i64 (twV x)) (.int .i64 n) K ↔ K (.bool (decide (twV x < n))) := fun K => by
    simp only [binW, binInt, true_and]
  by_cases h3 : twV x < n
  · rw [if_pos h3] at hq
    rw [decide_eq_true h3] at c3
    simp (disch := first | assumption | (apply Ap.symm; assumption) | omega | decide | (simp only [U_len, List.length_append, List.length_replicate, List.length_cons, List.length_nil, List.length_set] <;> omega) | fail) only [c3, IntA_0, cells_IntA, fold_IntA, rs26, ↓Xa, Xb, Xc, ↓reduceIte, Nat.reduceLT, Nat.reduceEqDiff, Nat.reduceBEq, Nat.reduceLeDiff, Nat.reduceAdd, Nat.reduceMul]
    exact fin hq
  · rw [if_neg h3] at hq
    rw [decide_eq_false h3] at c3
    obtain ⟨m, rfl⟩ : ∃ m : Nat, n = (m : Int) := ⟨n.toNat, by omega⟩
    have hd : (2 : Int) ^ m ∣ x := (dvd_tz h2).2 (by unfold twV at h3; rw [if_neg h2] at h3; omega)
    have hle : (digs 4294967296 (x.natAbs / 2 ^ m)).length ≤ k := digs_len (by omega) _ _ (Nat.lt_of_le_of_lt (Nat.div_le_self _ _) hx)
    simp (disch := first | assumption | (apply Ap.symm; assumption) | omega | decide | (simp only [U_len, List.length_append, List.length_replicate, List.length_cons, List.length_nil, List.length_set] <;> omega) | fail) only [c3, IntD, IntB, ↓Xa, Xb, Xc, ↓reduceIte, Nat.reduceLT, Nat.reduceEqDiff, Nat.reduceBEq, Nat.reduceLeDiff, Nat.reduceAdd, Nat.reduceMul]
    refine (shr_fn true (lim_digs (by omega) _) (by omega) (by omega)).call ?_
    rw [val_digs (by omega)]
    simp (disch := first | assumption | (apply Ap.symm; assumption) | omega | decide | (simp only [U_len, List.length_append, List.length_replicate, List.length_cons, List.length_nil, List.length_set] <;> omega) | fail) only [IntD, IntB, ↓Xa, Xb, Xc, ↓reduceIte, Nat.reduceLT, Nat.reduceEqDiff, Nat.reduceBEq, Nat.reduceLeDiff, Nat.reduceAdd, Nat.reduceMul]
    refine (made_fn _ _ (by omega)).call ?_
    rw [sg_shr hd]
    simp (disch := first | assumption | (apply Ap.symm; assumption) | omega | decide | (simp only [U_len, List.length_append, List.length_replicate, List.length_cons, List.length_nil, List.length_set] <;> omega) | fail) only [cells_IntA, fold_IntA, rs26, ↓Xa, Xb, Xc, ↓reduceIte, Nat.reduceLT, Nat.reduceEqDiff, Nat.reduceBEq, Nat.reduceLeDiff, Nat.reduceAdd, Nat.reduceMul]
    exact fin hq

/-- The row of a power of two. -/
def pwRow (n : Nat) : List Nat := (List.replicate (n / 16 + 1) 0).set (n / 16) (2 ^ (n % 16))
theorem pwRow_len {n : Nat} : (pwRow n).length = n / 16 + 1 := by simp [pwRow]
theorem pwRow_lim {n : Nat} : Lim 65536 (pwRow n) := lim_set (fun x hx => by rw [(List.mem_replicate.1 hx).2]; omega) _ _ (by
  have := Nat.pow_lt_pow_right (a := 2) (by omega) (show n % 16 < 16 by omega)
  exact this)
theorem pwRow_val {n : Nat} : val 65536 (pwRow n) = 2 ^ n := by
  have h := val_set (B := 65536) (l := List.replicate (n / 16 + 1) 0) (i := n / 16) (2 ^ (n % 16)) (by simp)
  have h0 : val 65536 (List.replicate (n / 16 + 1) 0) = 0 := val_zeros _ _
  have h1 : (List.replicate (n / 16 + 1) 0).getD (n / 16) 0 = 0 := by simp [List.getD_eq_getElem?_getD]
  rw [h0, h1] at h
  have e : 2 ^ n = 65536 ^ (n / 16) * 2 ^ (n % 16) := by
    conv => lhs; rw [← Nat.div_add_mod n 16, Nat.pow_add, Nat.pow_mul]
  unfold pwRow
  rw [e]; omega
theorem rpower_fn {n : Nat} (hn : n ≤ 65536) : PFn Tryd.prog 31 [.int .i64 (n : Int)] (RefA (2 ^ n) false) := by
  intro H Q hq
  have hp16 := Nat.pow_le_pow_right (n := 2) (by omega) (show n % 16 ≤ 15 by omega)
  refine enter31 (by simp) ?_
  simp (disch := first | assumption | (apply Ap.symm; assumption) | omega | decide | (simp only [U_len, List.length_append, List.length_replicate, List.length_cons, List.length_nil, List.length_set] <;> omega) | fail) only [ac31, ne_eq, Nat.reduceEqDiff, ↓Xa, Xb, Xc, ↓reduceIte, Nat.reduceLT, Nat.reduceEqDiff, Nat.reduceBEq, Nat.reduceLeDiff, Nat.reduceAdd, Nat.reduceMul]
  refine alloc_i fun p1 hp1 => ?_
  have n1 := hp1
  simp (disch := first | assumption | (apply Ap.symm; assumption) | omega | decide | (simp only [U_len, List.length_append, List.length_replicate, List.length_cons, List.length_nil, List.length_set] <;> omega) | fail) only [ne_eq, Nat.reduceEqDiff, ↓Xa, Xb, Xc, ↓reduceIte, Nat.reduceLT, Nat.reduceEqDiff, Nat.reduceBEq, Nat.reduceLeDiff, Nat.reduceAdd, Nat.reduceMul]
  refine newU_i fun o ho => ?_
  obtain ⟨a1, a2⟩ := upd_none.1 ho
  simp (disch := first | assumption | (apply Ap.symm; assumption) | omega | decide | (simp only [U_len, List.length_append, List.length_replicate, List.length_cons, List.length_nil, List.length_set] <;> omega) | fail) only [Nat.one_mul, bin_shl32, ne_eq, Nat.reduceEqDiff, ↓Xa, Xb, Xc, ↓reduceIte, Nat.reduceLT, Nat.reduceEqDiff, Nat.reduceBEq, Nat.reduceLeDiff, Nat.reduceAdd, Nat.reduceMul]
  have hrow : (List.replicate (n / 16 + 1) 0).set (n / 16) (2 ^ (n % 16)) = pwRow n := rfl
  rw [hrow]
  refine run_call (rnorm_own false true (upd_same _ _ _) pwRow_len (fun ti => ?_) pwRow_lim (by rw [pwRow_len]; omega))
  have htr : tr (pwRow n) = digs 65536 (2 ^ n) := by rw [tr_digs (by omega) pwRow_lim, pwRow_val]
  rw [Bool.false_and]
  simp (disch := first | assumption | (apply Ap.symm; assumption) | omega | decide | (simp only [U_len, List.length_append, List.length_replicate, List.length_cons, List.length_nil, List.length_set] <;> omega) | fail) only [cells_o2, rs31, ↓Xa, Xb, Xc, ↓reduceIte, Nat.reduceLT, Nat.reduceEqDiff, Nat.reduceBEq, Nat.reduceLeDiff, Nat.reduceAdd, Nat.reduceMul]
  refine SetR.frz o (ty := 45) (es := 1) (cells := U (pwRow n)) (by simp [AHeap.upd, a1]) ?_
  have hle : (tr (pwRow n)).length ≤ n / 16 + 1 := by rw [← pwRow_len (n := n)]; exact tr_len _
  have htk : (pwRow n).take (tr (pwRow n)).length = tr (pwRow n) := by
    obtain ⟨m, hm⟩ := tr_pre (pwRow n)
    generalize tr (pwRow n) = x at *
    rw [hm]; simp
  have e : frz o 1 (U (pwRow n)) (.agg [.bool false, .own o (n / 16 + 1) 0 (tr (pwRow n)).length ti]) = .agg [.bool false, LS (tr (pwRow n)) ti] := by
    simp [frz, frz2, frz1, LS, pwRow_len, hle, ← U_take, htk]
  rw [e, htr]
  refine SetR.dropTo (H := H) ?_ (SetR.loose ?_)
  · exact (((Le.refl H).updB n1).updB a2).updB a2
  · have e2 : decide (((2 : Int) ^ n) < 0) = false := decide_eq_false (by have := Int.pow_pos (n := 2) (m := n) (by omega); omega)
    have e3 : ((2 : Int) ^ n).natAbs = 2 ^ n := by rw [Int.natAbs_pow]; rfl
    unfold RefA at hq
    rw [e2, e3] at hq
    exact SetR.now hq
end Go.Proofs.YtipbcjnniamcgaaDoor.Fw
