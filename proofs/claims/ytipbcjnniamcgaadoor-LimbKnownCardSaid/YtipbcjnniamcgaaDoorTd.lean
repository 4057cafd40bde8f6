/- The law of what the document's examples name, as what its code computes: true. -/
import Derived.Test.YtipbcjnniamcgaaDoorTc
import Derived.Test.YtipbcjnniamcgaaDoorSi
import Derived.Test.YtipbcjnniamcgaaDoorAl16
namespace Go.Proofs.YtipbcjnniamcgaaDoor.Fw
set_option linter.unusedSimpArgs false
set_option linter.unusedVariables false
open Go Go.Proofs.YtipbcjnniamcgaaDoor.Ma
set_option maxRecDepth 20000
set_option linter.constructorNameAsVariable false
set_option maxHeartbeats 4000000

def okL (l : List Nat) (n : Nat) : Bool := l.all (fun x => decide (x < 4294967296)) && decide (val 4294967296 l = n) && decide (l.length ≤ 8)
theorem nmk {l : List Nat} {n : Nat} (h : okL l n = true) : Nm l n 8 := by
  simp only [okL, Bool.and_eq_true, List.all_eq_true, decide_eq_true_eq] at h
  exact ⟨fun x hx => h.1.1 x hx, h.1.2, h.2⟩
theorem eq_k {l : List Nat} {n : Nat} (ta tb : Bool) (h : okL l n = true) (h0 : decide (l = [] ∨ l.getD (l.length - 1) 0 ≠ 0) = true) : PFn Tryd.prog 37 [LS (Ma.digs 4294967296 n) ta, LS l tb] (.bool true) := by
  have hn := nmk h
  have e : l = Ma.digs 4294967296 n := by rw [← hn.val]; exact digs_of (by omega) hn.lim (by simpa using h0)
  have k := eq_same (k := 8) ta tb rfl hn.lt (by omega)
  rw [← e] at k ⊢
  exact k
theorem sub_bad {a b : List Nat} {m n k k' : Nat} (ta tb : Bool) (ha : Nm a m k) (hb : Nm b n k') (h : m < n) : PFn Tryd.prog 50 [LS a ta, LS b tb] (.tup [LS [] true, .int .i64 ((5 : Nat) : Int)]) := by
  intro H Q hq
  refine enter50 (by simp) ?_
  simp (disch := first | assumption | (apply Ap.symm; assumption) | omega | decide | (simp only [U_len, List.length_append, List.length_replicate, List.length_cons, List.length_nil, List.length_set] <;> omega) | fail) only [ac50, ↓Xa, Xb, Xc, ↓reduceIte, Nat.reduceLT, Nat.reduceEqDiff, Nat.reduceBEq, Nat.reduceLeDiff, Nat.reduceAdd, Nat.reduceMul]
  refine (cmp_n ta tb ha hb).call ?_
  have e : decide (m < n) = true := decide_eq_true h
  simp (disch := first | assumption | (apply Ap.symm; assumption) | omega | decide | (simp only [U_len, List.length_append, List.length_replicate, List.length_cons, List.length_nil, List.length_set] <;> omega) | fail) only [lss_cmp, e, rs50, ↓Xa, Xb, Xc, ↓reduceIte, Nat.reduceLT, Nat.reduceEqDiff, Nat.reduceBEq, Nat.reduceLeDiff, Nat.reduceAdd, Nat.reduceMul]
  exact SetR.now hq
theorem divs_bad {a : List Nat} (ta : Bool) : PFn Tryd.prog 40 [LS a ta, .int .u32 ((0 : Nat) : Int)] (.tup [LS [] true, .int .u32 ((0 : Nat) : Int), .int .i64 ((2 : Nat) : Int)]) := by
  intro H Q hq
  refine enter40 (by simp) ?_
  simp (disch := first | assumption | (apply Ap.symm; assumption) | omega | decide | (simp only [U_len, List.length_append, List.length_replicate, List.length_cons, List.length_nil, List.length_set] <;> omega) | fail) only [ac40, rs40, ↓Xa, Xb, Xc, ↓reduceIte, Nat.reduceLT, Nat.reduceEqDiff, Nat.reduceBEq, Nat.reduceLeDiff, Nat.reduceAdd, Nat.reduceMul]
  exact SetR.now hq
theorem lss_i {n m : Int} {K : AV → Prop} : binW .lss (.int .i64 n) (.int .i64 m) K ↔ K (.bool (decide (n < m))) := by
  simp only [binW, binInt, true_and]
theorem shlm_k {a : List Nat} {n : Int} (t : Bool) (hn : n < ((0 : Nat) : Int)) : PFn Tryd.prog 59 [LS a t, .int .i64 n] (.tup [LS [] true, .int .i64 ((2 : Nat) : Int)]) := by
  intro H Q hq
  have e : decide (n < ((0 : Nat) : Int)) = true := decide_eq_true hn
  refine enter59 (by simp) ?_
  simp (disch := first | assumption | (apply Ap.symm; assumption) | omega | decide | (simp only [U_len, List.length_append, List.length_replicate, List.length_cons, List.length_nil, List.length_set] <;> omega) | fail) only [ac59, lss_i, e, rs59, ↓Xa, Xb, Xc, ↓reduceIte, Nat.reduceLT, Nat.reduceEqDiff, Nat.reduceBEq, Nat.reduceLeDiff, Nat.reduceAdd, Nat.reduceMul]
  exact SetR.now hq
theorem shlb_k {a : List Nat} {n : Nat} (t : Bool) (hn : 65536 < n) : PFn Tryd.prog 59 [LS a t, .int .i64 (n : Int)] (.tup [LS [] true, .int .i64 ((3 : Nat) : Int)]) := by
  intro H Q hq
  refine enter59 (by simp) ?_
  simp (disch := first | assumption | (apply Ap.symm; assumption) | omega | decide | (simp only [U_len, List.length_append, List.length_replicate, List.length_cons, List.length_nil, List.length_set] <;> omega) | fail) only [ac59, lss_f, hn, rs59, ↓Xa, Xb, Xc, ↓reduceIte, Nat.reduceLT, Nat.reduceEqDiff, Nat.reduceBEq, Nat.reduceLeDiff, Nat.reduceAdd, Nat.reduceMul]
  exact SetR.now hq
theorem shl_k {a : List Nat} {m n : Nat} (t : Bool) (ha : okL a m = true) (hn : n ≤ 65536) : PFn Tryd.prog 59 [LS a t, .int .i64 (n : Int)] (.tup [LS (Ma.digs 4294967296 (m * 2 ^ n)) true, .int .i64 ((0 : Nat) : Int)]) := by
  have h := nmk ha
  have k := shl_fn (s := n) t h.lim hn (by have := h.len; omega)
  rw [h.val] at k; exact k
theorem shr_k {a : List Nat} {m n : Nat} (t : Bool) (ha : okL a m = true) (hn : n < 9223372036854775808) : PFn Tryd.prog 60 [LS a t, .int .i64 (n : Int)] (.tup [LS (Ma.digs 4294967296 (m / 2 ^ n)) true, .int .i64 ((0 : Nat) : Int)]) := by
  have h := nmk ha
  have k := shr_fn (s := n) t h.lim hn (by have := h.len; omega)
  rw [h.val] at k; exact k
theorem shr_1 {n : Nat} (t : Bool) (h0 : 0 < n) (hn : n < 9223372036854775808) : PFn Tryd.prog 60 [LS [1] t, .int .i64 (n : Int)] (.tup [LS (Ma.digs 4294967296 0) true, .int .i64 ((0 : Nat) : Int)]) := by
  have k := shr_k (a := [1]) (m := 1) (n := n) t (by decide) hn
  rw [Nat.div_eq_of_lt (Nat.one_lt_two_pow (by omega))] at k; exact k
theorem known_a {H : AHeap} {Q : AV → AHeap → Prop} (k : W Tryd.prog (sndC (sndC (sndC ac16))) (retN rs16 Q) ⟨[], [(60, .bool false)], H⟩) : Run Tryd.prog 16 [] H Q := by
  have z1 : cmpZ 1 1 = ((0 : Nat) : Int) := rfl
  have z2 : cmpZ 4294967296 4294967295 = ((1 : Nat) : Int) := rfl
  refine enter16 (by simp) ?_
  rw [show ac16 = .seq (fstC ac16) (.seq (fstC (sndC ac16)) (.seq (fstC (sndC (sndC ac16))) (hold (sndC (sndC (sndC ac16)))))) from rfl]
  simp (disch := first | assumption | (apply Ap.symm; assumption) | omega | decide | (simp only [U_len, List.length_append, List.length_replicate, List.length_cons, List.length_nil, List.length_set] <;> omega) | fail) only [fstC, sndC, ac16, ↓Xa, Xb, Xc, ↓reduceIte, Nat.reduceLT, Nat.reduceEqDiff, Nat.reduceBEq, Nat.reduceLeDiff, Nat.reduceAdd, Nat.reduceMul]
  refine (works_fn).call ?_
  simp (disch := first | assumption | (apply Ap.symm; assumption) | omega | decide | (simp only [U_len, List.length_append, List.length_replicate, List.length_cons, List.length_nil, List.length_set] <;> omega) | fail) only [rep1, rep2, rep3, digs_zero, List.length_nil, ↓Xa, Xb, Xc, ↓reduceIte, Nat.reduceLT, Nat.reduceEqDiff, Nat.reduceBEq, Nat.reduceLeDiff, Nat.reduceAdd, Nat.reduceMul]
  refine (norm_n (a := [1, 0, 0]) true (nmk (l := [1, 0, 0]) (n := 1) (by decide)) (by omega)).call ?_
  simp (disch := first | assumption | (apply Ap.symm; assumption) | omega | decide | (simp only [U_len, List.length_append, List.length_replicate, List.length_cons, List.length_nil, List.length_set] <;> omega) | fail) only [rep1, rep2, rep3, digs_zero, List.length_nil, ↓Xa, Xb, Xc, ↓reduceIte, Nat.reduceLT, Nat.reduceEqDiff, Nat.reduceBEq, Nat.reduceLeDiff, Nat.reduceAdd, Nat.reduceMul]
  refine (eq_k (l := [1]) (n := 1) true true (by decide) (by decide)).call ?_
  simp (disch := first | assumption | (apply Ap.symm; assumption) | omega | decide | (simp only [U_len, List.length_append, List.length_replicate, List.length_cons, List.length_nil, List.length_set] <;> omega) | fail) only [rep1, rep2, rep3, digs_zero, List.length_nil, ↓Xa, Xb, Xc, ↓reduceIte, Nat.reduceLT, Nat.reduceEqDiff, Nat.reduceBEq, Nat.reduceLeDiff, Nat.reduceAdd, Nat.reduceMul]
  refine (norm_n (a := [0]) true (nmk (l := [0]) (n := 0) (by decide)) (by omega)).call ?_
  simp (disch := first | assumption | (apply Ap.symm; assumption) | omega | decide | (simp only [U_len, List.length_append, List.length_replicate, List.length_cons, List.length_nil, List.length_set] <;> omega) | fail) only [rep1, rep2, rep3, digs_zero, List.length_nil, ↓Xa, Xb, Xc, ↓reduceIte, Nat.reduceLT, Nat.reduceEqDiff, Nat.reduceBEq, Nat.reduceLeDiff, Nat.reduceAdd, Nat.reduceMul]
  refine (cmp_n (a := [1, 0]) (b := [1]) true true (nmk (l := [1, 0]) (n := 1) (by decide)) (nmk (l := [1]) (n := 1) (by decide))).call ?_
  simp (disch := first | assumption | (apply Ap.symm; assumption) | omega | decide | (simp only [U_len, List.length_append, List.length_replicate, List.length_cons, List.length_nil, List.length_set] <;> omega) | fail) only [rep1, rep2, rep3, digs_zero, List.length_nil, z1, ↓Xa, Xb, Xc, ↓reduceIte, Nat.reduceLT, Nat.reduceEqDiff, Nat.reduceBEq, Nat.reduceLeDiff, Nat.reduceAdd, Nat.reduceMul]
  refine (cmp_n (a := [0, 1]) (b := [4294967295]) true true (nmk (l := [0, 1]) (n := 4294967296) (by decide)) (nmk (l := [4294967295]) (n := 4294967295) (by decide))).call ?_
  simp (disch := first | assumption | (apply Ap.symm; assumption) | omega | decide | (simp only [U_len, List.length_append, List.length_replicate, List.length_cons, List.length_nil, List.length_set] <;> omega) | fail) only [rep1, rep2, rep3, digs_zero, List.length_nil, z2, ↓Xa, Xb, Xc, ↓reduceIte, Nat.reduceLT, Nat.reduceEqDiff, Nat.reduceBEq, Nat.reduceLeDiff, Nat.reduceAdd, Nat.reduceMul]
  refine (add_n (a := [4294967295]) (b := [1]) true true (nmk (l := [4294967295]) (n := 4294967295) (by decide)) (nmk (l := [1]) (n := 1) (by decide)) (by omega) (by omega)).call ?_
  simp (disch := first | assumption | (apply Ap.symm; assumption) | omega | decide | (simp only [U_len, List.length_append, List.length_replicate, List.length_cons, List.length_nil, List.length_set] <;> omega) | fail) only [rep1, rep2, rep3, digs_zero, List.length_nil, ↓Xa, Xb, Xc, ↓reduceIte, Nat.reduceLT, Nat.reduceEqDiff, Nat.reduceBEq, Nat.reduceLeDiff, Nat.reduceAdd, Nat.reduceMul]
  refine (eq_k (l := [0, 1]) (n := 4294967295 + 1) true true (by decide) (by decide)).call ?_
  simp (disch := first | assumption | (apply Ap.symm; assumption) | omega | decide | (simp only [U_len, List.length_append, List.length_replicate, List.length_cons, List.length_nil, List.length_set] <;> omega) | fail) only [rep1, rep2, rep3, digs_zero, List.length_nil, ↓Xa, Xb, Xc, ↓reduceIte, Nat.reduceLT, Nat.reduceEqDiff, Nat.reduceBEq, Nat.reduceLeDiff, Nat.reduceAdd, Nat.reduceMul]
  exact k
theorem known_b {H : AHeap} {Q : AV → AHeap → Prop} (k : W Tryd.prog (sndC (sndC (sndC (sndC (sndC (sndC (sndC (sndC (sndC (sndC (sndC ac16))))))))))) (retN rs16 Q) ⟨[], [(166, .bool false)], H⟩) : W Tryd.prog (sndC (sndC (sndC ac16))) (retN rs16 Q) ⟨[], [(60, .bool false)], H⟩ := by
  have f1 : 0 - 0 = 0 := rfl
  have f2 : 5 / 7 = 0 := rfl
  have f3 : 4294967296 % 10 = 6 := rfl
  rw [show (sndC (sndC (sndC ac16))) = .seq (fstC (sndC (sndC (sndC ac16)))) (.seq (fstC (sndC (sndC (sndC (sndC ac16))))) (.seq (fstC (sndC (sndC (sndC (sndC (sndC ac16)))))) (.seq (fstC (sndC (sndC (sndC (sndC (sndC (sndC ac16))))))) (.seq (fstC (sndC (sndC (sndC (sndC (sndC (sndC (sndC ac16)))))))) (.seq (fstC (sndC (sndC (sndC (sndC (sndC (sndC (sndC (sndC ac16))))))))) (.seq (fstC (sndC (sndC (sndC (sndC (sndC (sndC (sndC (sndC (sndC ac16)))))))))) (.seq (fstC (sndC (sndC (sndC (sndC (sndC (sndC (sndC (sndC (sndC (sndC ac16))))))))))) (hold (sndC (sndC (sndC (sndC (sndC (sndC (sndC (sndC (sndC (sndC (sndC ac16))))))))))))))))))) from rfl]
  simp (disch := first | assumption | (apply Ap.symm; assumption) | omega | decide | (simp only [U_len, List.length_append, List.length_replicate, List.length_cons, List.length_nil, List.length_set] <;> omega) | fail) only [fstC, sndC, ac16, rep1, rep2, rep3, digs_zero, List.length_nil, ↓Xa, Xb, Xc, ↓reduceIte, Nat.reduceLT, Nat.reduceEqDiff, Nat.reduceBEq, Nat.reduceLeDiff, Nat.reduceAdd, Nat.reduceMul]
  refine (sub_n (a := [0, 1]) (b := [1]) true true (nmk (l := [0, 1]) (n := 4294967296) (by decide)) (nmk (l := [1]) (n := 1) (by decide)) (by omega) (by omega) (by omega)).call ?_
  simp (disch := first | assumption | (apply Ap.symm; assumption) | omega | decide | (simp only [U_len, List.length_append, List.length_replicate, List.length_cons, List.length_nil, List.length_set] <;> omega) | fail) only [rep1, rep2, rep3, digs_zero, List.length_nil, f1, f2, f3, ↓Xa, Xb, Xc, ↓reduceIte, Nat.reduceLT, Nat.reduceEqDiff, Nat.reduceBEq, Nat.reduceLeDiff, Nat.reduceAdd, Nat.reduceMul]
  refine (sub_bad (a := [1]) (b := [2]) true true (nmk (l := [1]) (n := 1) (by decide)) (nmk (l := [2]) (n := 2) (by decide)) (by omega)).call ?_
  simp (disch := first | assumption | (apply Ap.symm; assumption) | omega | decide | (simp only [U_len, List.length_append, List.length_replicate, List.length_cons, List.length_nil, List.length_set] <;> omega) | fail) only [rep1, rep2, rep3, digs_zero, List.length_nil, f1, f2, f3, ↓Xa, Xb, Xc, ↓reduceIte, Nat.reduceLT, Nat.reduceEqDiff, Nat.reduceBEq, Nat.reduceLeDiff, Nat.reduceAdd, Nat.reduceMul]
  refine (sub_n (a := [0, 0]) (b := []) true true (nmk (l := [0, 0]) (n := 0) (by decide)) (nmk (l := []) (n := 0) (by decide)) (by omega) (by omega) (by omega)).call ?_
  simp (disch := first | assumption | (apply Ap.symm; assumption) | omega | decide | (simp only [U_len, List.length_append, List.length_replicate, List.length_cons, List.length_nil, List.length_set] <;> omega) | fail) only [rep1, rep2, rep3, digs_zero, List.length_nil, f1, f2, f3, ↓Xa, Xb, Xc, ↓reduceIte, Nat.reduceLT, Nat.reduceEqDiff, Nat.reduceBEq, Nat.reduceLeDiff, Nat.reduceAdd, Nat.reduceMul]
  refine (divs_n (a := [0, 1]) true (nmk (l := [0, 1]) (n := 4294967296) (by decide)) (by omega) (by omega) (by omega)).call ?_
  simp (disch := first | assumption | (apply Ap.symm; assumption) | omega | decide | (simp only [U_len, List.length_append, List.length_replicate, List.length_cons, List.length_nil, List.length_set] <;> omega) | fail) only [rep1, rep2, rep3, digs_zero, List.length_nil, f1, f2, f3, ↓Xa, Xb, Xc, ↓reduceIte, Nat.reduceLT, Nat.reduceEqDiff, Nat.reduceBEq, Nat.reduceLeDiff, Nat.reduceAdd, Nat.reduceMul]
  refine (divs_bad (a := [7]) true).call ?_
  simp (disch := first | assumption | (apply Ap.symm; assumption) | omega | decide | (simp only [U_len, List.length_append, List.length_replicate, List.length_cons, List.length_nil, List.length_set] <;> omega) | fail) only [rep1, rep2, rep3, digs_zero, List.length_nil, f1, f2, f3, ↓Xa, Xb, Xc, ↓reduceIte, Nat.reduceLT, Nat.reduceEqDiff, Nat.reduceBEq, Nat.reduceLeDiff, Nat.reduceAdd, Nat.reduceMul]
  refine (div_n (a := [5]) (b := [7]) true true (nmk (l := [5]) (n := 5) (by decide)) (nmk (l := [7]) (n := 7) (by decide)) (by omega) (by omega) (by omega)).call ?_
  simp (disch := first | assumption | (apply Ap.symm; assumption) | omega | decide | (simp only [U_len, List.length_append, List.length_replicate, List.length_cons, List.length_nil, List.length_set] <;> omega) | fail) only [rep1, rep2, rep3, digs_zero, List.length_nil, f1, f2, f3, ↓Xa, Xb, Xc, ↓reduceIte, Nat.reduceLT, Nat.reduceEqDiff, Nat.reduceBEq, Nat.reduceLeDiff, Nat.reduceAdd, Nat.reduceMul]
  refine (divmod0_fn (a := [5]) (b := [0, 0]) true true (nmk (l := [0, 0]) (n := 0) (by decide)).lim rfl).call ?_
  simp (disch := first | assumption | (apply Ap.symm; assumption) | omega | decide | (simp only [U_len, List.length_append, List.length_replicate, List.length_cons, List.length_nil, List.length_set] <;> omega) | fail) only [rep1, rep2, rep3, digs_zero, List.length_nil, f1, f2, f3, ↓Xa, Xb, Xc, ↓reduceIte, Nat.reduceLT, Nat.reduceEqDiff, Nat.reduceBEq, Nat.reduceLeDiff, Nat.reduceAdd, Nat.reduceMul]
  refine (eq_k (l := [4294967295]) (n := 4294967296 - 1) true true (by decide) (by decide)).call ?_
  simp (disch := first | assumption | (apply Ap.symm; assumption) | omega | decide | (simp only [U_len, List.length_append, List.length_replicate, List.length_cons, List.length_nil, List.length_set] <;> omega) | fail) only [rep1, rep2, rep3, digs_zero, List.length_nil, f1, f2, f3, ↓Xa, Xb, Xc, ↓reduceIte, Nat.reduceLT, Nat.reduceEqDiff, Nat.reduceBEq, Nat.reduceLeDiff, Nat.reduceAdd, Nat.reduceMul]
  refine (eq_k (l := [429496729]) (n := 4294967296 / 10) true true (by decide) (by decide)).call ?_
  simp (disch := first | assumption | (apply Ap.symm; assumption) | omega | decide | (simp only [U_len, List.length_append, List.length_replicate, List.length_cons, List.length_nil, List.length_set] <;> omega) | fail) only [rep1, rep2, rep3, digs_zero, List.length_nil, f1, f2, f3, ↓Xa, Xb, Xc, ↓reduceIte, Nat.reduceLT, Nat.reduceEqDiff, Nat.reduceBEq, Nat.reduceLeDiff, Nat.reduceAdd, Nat.reduceMul]
  refine (eq_k (l := [5]) (n := 5 % 7) true true (by decide) (by decide)).call ?_
  simp (disch := first | assumption | (apply Ap.symm; assumption) | omega | decide | (simp only [U_len, List.length_append, List.length_replicate, List.length_cons, List.length_nil, List.length_set] <;> omega) | fail) only [rep1, rep2, rep3, digs_zero, List.length_nil, f1, f2, f3, ↓Xa, Xb, Xc, ↓reduceIte, Nat.reduceLT, Nat.reduceEqDiff, Nat.reduceBEq, Nat.reduceLeDiff, Nat.reduceAdd, Nat.reduceMul]
  exact k
theorem known_c {H : AHeap} {Q : AV → AHeap → Prop} (k : W Tryd.prog (sndC (sndC (sndC (sndC (sndC (sndC (sndC (sndC (sndC (sndC (sndC (sndC (sndC (sndC (sndC (sndC (sndC ac16))))))))))))))))) (retN rs16 Q) ⟨[], [(225, .bool false)], H⟩) : W Tryd.prog (sndC (sndC (sndC (sndC (sndC (sndC (sndC (sndC (sndC (sndC (sndC ac16))))))))))) (retN rs16 Q) ⟨[], [(166, .bool false)], H⟩ := by
  rw [show (sndC (sndC (sndC (sndC (sndC (sndC (sndC (sndC (sndC (sndC (sndC ac16))))))))))) = .seq (fstC (sndC (sndC (sndC (sndC (sndC (sndC (sndC (sndC (sndC (sndC (sndC ac16)))))))))))) (.seq (fstC (sndC (sndC (sndC (sndC (sndC (sndC (sndC (sndC (sndC (sndC (sndC (sndC ac16))))))))))))) (.seq (fstC (sndC (sndC (sndC (sndC (sndC (sndC (sndC (sndC (sndC (sndC (sndC (sndC (sndC ac16)))))))))))))) (.seq (fstC (sndC (sndC (sndC (sndC (sndC (sndC (sndC (sndC (sndC (sndC (sndC (sndC (sndC (sndC ac16))))))))))))))) (.seq (fstC (sndC (sndC (sndC (sndC (sndC (sndC (sndC (sndC (sndC (sndC (sndC (sndC (sndC (sndC (sndC ac16)))))))))))))))) (.seq (fstC (sndC (sndC (sndC (sndC (sndC (sndC (sndC (sndC (sndC (sndC (sndC (sndC (sndC (sndC (sndC (sndC ac16))))))))))))))))) (hold (sndC (sndC (sndC (sndC (sndC (sndC (sndC (sndC (sndC (sndC (sndC (sndC (sndC (sndC (sndC (sndC (sndC ac16))))))))))))))))))))))) from rfl]
  simp (disch := first | assumption | (apply Ap.symm; assumption) | omega | decide | (simp only [U_len, List.length_append, List.length_replicate, List.length_cons, List.length_nil, List.length_set] <;> omega) | fail) only [fstC, sndC, ac16, rep1, rep2, rep3, digs_zero, List.length_nil, ↓Xa, Xb, Xc, ↓reduceIte, Nat.reduceLT, Nat.reduceEqDiff, Nat.reduceBEq, Nat.reduceLeDiff, Nat.reduceAdd, Nat.reduceMul]
  refine (shl_k (a := [1]) (m := 1) (n := 33) true (by decide) (by omega)).call ?_
  simp (disch := first | assumption | (apply Ap.symm; assumption) | omega | decide | (simp only [U_len, List.length_append, List.length_replicate, List.length_cons, List.length_nil, List.length_set] <;> omega) | fail) only [rep1, rep2, rep3, digs_zero, List.length_nil, ↓Xa, Xb, Xc, ↓reduceIte, Nat.reduceLT, Nat.reduceEqDiff, Nat.reduceBEq, Nat.reduceLeDiff, Nat.reduceAdd, Nat.reduceMul]
  refine (shlm_k (a := [1]) (n := -1) true (by decide)).call ?_
  simp (disch := first | assumption | (apply Ap.symm; assumption) | omega | decide | (simp only [U_len, List.length_append, List.length_replicate, List.length_cons, List.length_nil, List.length_set] <;> omega) | fail) only [rep1, rep2, rep3, digs_zero, List.length_nil, ↓Xa, Xb, Xc, ↓reduceIte, Nat.reduceLT, Nat.reduceEqDiff, Nat.reduceBEq, Nat.reduceLeDiff, Nat.reduceAdd, Nat.reduceMul]
  refine (shlb_k (a := []) (n := 65537) true (by omega)).call ?_
  simp (disch := first | assumption | (apply Ap.symm; assumption) | omega | decide | (simp only [U_len, List.length_append, List.length_replicate, List.length_cons, List.length_nil, List.length_set] <;> omega) | fail) only [rep1, rep2, rep3, digs_zero, List.length_nil, ↓Xa, Xb, Xc, ↓reduceIte, Nat.reduceLT, Nat.reduceEqDiff, Nat.reduceBEq, Nat.reduceLeDiff, Nat.reduceAdd, Nat.reduceMul]
  refine (shr_k (a := [0, 2]) (m := 8589934592) (n := 33) true (by decide) (by omega)).call ?_
  simp (disch := first | assumption | (apply Ap.symm; assumption) | omega | decide | (simp only [U_len, List.length_append, List.length_replicate, List.length_cons, List.length_nil, List.length_set] <;> omega) | fail) only [rep1, rep2, rep3, digs_zero, List.length_nil, ↓Xa, Xb, Xc, ↓reduceIte, Nat.reduceLT, Nat.reduceEqDiff, Nat.reduceBEq, Nat.reduceLeDiff, Nat.reduceAdd, Nat.reduceMul]
  refine (shr_1 (n := 4611686018427387904) true (by omega) (by omega)).call ?_
  simp (disch := first | assumption | (apply Ap.symm; assumption) | omega | decide | (simp only [U_len, List.length_append, List.length_replicate, List.length_cons, List.length_nil, List.length_set] <;> omega) | fail) only [rep1, rep2, rep3, digs_zero, List.length_nil, ↓Xa, Xb, Xc, ↓reduceIte, Nat.reduceLT, Nat.reduceEqDiff, Nat.reduceBEq, Nat.reduceLeDiff, Nat.reduceAdd, Nat.reduceMul]
  refine (eq_k (l := [0, 2]) (n := 1 * 2 ^ 33) true true (by decide) (by decide)).call ?_
  simp (disch := first | assumption | (apply Ap.symm; assumption) | omega | decide | (simp only [U_len, List.length_append, List.length_replicate, List.length_cons, List.length_nil, List.length_set] <;> omega) | fail) only [rep1, rep2, rep3, digs_zero, List.length_nil, ↓Xa, Xb, Xc, ↓reduceIte, Nat.reduceLT, Nat.reduceEqDiff, Nat.reduceBEq, Nat.reduceLeDiff, Nat.reduceAdd, Nat.reduceMul]
  refine (eq_k (l := [1]) (n := 8589934592 / 2 ^ 33) true true (by decide) (by decide)).call ?_
  simp (disch := first | assumption | (apply Ap.symm; assumption) | omega | decide | (simp only [U_len, List.length_append, List.length_replicate, List.length_cons, List.length_nil, List.length_set] <;> omega) | fail) only [rep1, rep2, rep3, digs_zero, List.length_nil, ↓Xa, Xb, Xc, ↓reduceIte, Nat.reduceLT, Nat.reduceEqDiff, Nat.reduceBEq, Nat.reduceLeDiff, Nat.reduceAdd, Nat.reduceMul]
  exact k
end Go.Proofs.YtipbcjnniamcgaaDoor.Fw
