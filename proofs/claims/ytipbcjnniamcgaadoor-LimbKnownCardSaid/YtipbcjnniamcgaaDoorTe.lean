/- The law of what the document's examples name: the table of texts; the law. -/
import Derived.Test.YtipbcjnniamcgaaDoorTd
namespace Go.Proofs.YtipbcjnniamcgaaDoor.Fw
set_option linter.unusedSimpArgs false
set_option linter.unusedVariables false
open Go Go.Proofs.YtipbcjnniamcgaaDoor.Ma
set_option maxRecDepth 20000
set_option linter.constructorNameAsVariable false
set_option maxHeartbeats 4000000

theorem rep18 {x y z : AV} : repA [x, y, z] 18 = [x, y, z, x, y, z, x, y, z, x, y, z, x, y, z, x, y, z] := by simp [repA, List.range_succ]
/-- The rows of the table. -/
def kTx : Nat → List UInt8 | 0 => [48, 48, 55] | 1 => [] | 2 => [49, 120] | 3 => [45, 49] | 4 => [48] | _ => [52, 50, 57, 52, 57, 54, 55, 50, 57, 54]
def kE : Nat → Nat | 0 => 6 | 1 => 6 | 2 => 6 | 3 => 6 | _ => 0
def kA : Nat → Nat | 0 => 1 | 2 => 1 | _ => 0
def kV : Nat → Nat | 5 => 4294967296 | _ => 0
def kR (i : Nat) : List AV := [Sx (kTx i), .int .i64 ((kE i : Nat) : Int), .int .i64 ((kA i : Nat) : Int)]
def kT : List AV := kR 0 ++ (kR 1 ++ (kR 2 ++ (kR 3 ++ (kR 4 ++ kR 5))))
theorem k_tab : [AV.str ⟨#[48, 48, 55]⟩, .int .i64 ((6 : Nat) : Int), .int .i64 ((1 : Nat) : Int), .str ⟨#[]⟩, .int .i64 ((6 : Nat) : Int), .int .i64 ((0 : Nat) : Int), .str ⟨#[49, 120]⟩, .int .i64 ((6 : Nat) : Int), .int .i64 ((1 : Nat) : Int), .str ⟨#[45, 49]⟩, .int .i64 ((6 : Nat) : Int), .int .i64 ((0 : Nat) : Int), .str ⟨#[48]⟩, .int .i64 ((0 : Nat) : Int), .int .i64 ((0 : Nat) : Int), .str ⟨#[52, 50, 57, 52, 57, 54, 55, 50, 57, 54]⟩, .int .i64 ((0 : Nat) : Int), .int .i64 ((0 : Nat) : Int)] = kT := rfl
theorem k_str : AV.str ⟨#[52, 50, 57, 52, 57, 54, 55, 50, 57, 54]⟩ = Sx (kTx 5) := rfl
theorem lt6 {i : Nat} (h : i < 6) : i = 0 ∨ i = 1 ∨ i = 2 ∨ i = 3 ∨ i = 4 ∨ i = 5 := by omega
theorem kT_get {i : Nat} (h : i < 6) : 3 ≤ (kT.drop (i * 3)).length ∧ (kT.drop (i * 3)).take 3 = kR i := by
  rcases lt6 h with rfl | rfl | rfl | rfl | rfl | rfl <;> exact ⟨by decide, rfl⟩
theorem k_load {H : AHeap} {i : Nat} {K : AV → Prop} (h : i < 6) : loadW H (some 3) (.cptr (kT.drop (i * 3))) K = K (.agg (kR i)) := by
  obtain ⟨a, b⟩ := kT_get h
  simp only [loadW, cellsAt, b, a, true_and]
theorem k_idx {i : Nat} {K : AV → Prop} (h : i < 6) : idxAW 3 (.seq 6 kT true) (.int .i64 (i : Int)) K = K (.cptr (kT.drop (i * 3))) := by
  have hl : kT.length = 18 := rfl
  have h' : (i : Int) < 6 := by omega
  simp [idxAW, h', hl]
theorem k_len {K : AV → Prop} : lenW false (.seq 6 kT true) K = K (.int .i64 ((6 : Nat) : Int)) := by simp [lenW]
theorem k_txt {i : Nat} (h : i < 6) : decide (kTx i = kTx 5) = decide (i = 5) := by
  rcases lt6 h with rfl | rfl | rfl | rfl | rfl | rfl <;> decide
theorem k_read {i : Nat} (h : i < 6) : ReadR (kTx i) (.tup [LS (Ma.digs 4294967296 (kV i)) true, spot (kE i) (kA i)]) := by
  have z : Ma.digs 4294967296 0 = [] := digs_zero _
  rcases lt6 h with rfl | rfl | rfl | rfl | rfl | rfl
  · refine .inr (.inr (.inl ⟨by decide, 1, by decide, ?_, fun j hj => ?_, by rw [show kV 0 = 0 from rfl, z]; rfl⟩))
    · exact .inr (.inr ⟨by decide, by decide⟩)
    · obtain rfl : j = 0 := by omega
      rintro (h | h | h)
      · exact absurd h (by decide)
      · exact absurd h (by decide)
      · exact absurd h.1 (by decide)
  · exact .inr (.inl ⟨rfl, by rw [show kV 1 = 0 from rfl, z]; rfl⟩)
  · refine .inr (.inr (.inl ⟨by decide, 1, by decide, ?_, fun j hj => ?_, by rw [show kV 2 = 0 from rfl, z]; rfl⟩))
    · exact .inr (.inl (by decide))
    · obtain rfl : j = 0 := by omega
      rintro (h | h | h)
      · exact absurd h (by decide)
      · exact absurd h (by decide)
      · exact absurd h.1 (by decide)
  · refine .inr (.inr (.inl ⟨by decide, 0, by decide, ?_, fun j hj => by omega, by rw [show kV 3 = 0 from rfl, z]; rfl⟩))
    exact .inl (by decide)
  · refine .inr (.inr (.inr ⟨by decide, ?_, ?_⟩))
    · exact ⟨by decide, fun b hb => by rw [List.mem_singleton.1 hb]; exact ⟨by decide, by decide⟩, .inl rfl⟩
    · rw [show decV (kTx 4) = 0 by decide]; rfl
  · refine .inr (.inr (.inr ⟨by decide, ?_, ?_⟩))
    · refine ⟨by decide, fun b hb => ?_, .inr (by decide)⟩
      have : ∀ b ∈ kTx 5, isDig b := by unfold isDig; decide
      exact this b hb
    · rw [show decV (kTx 5) = 4294967296 by decide]; rfl
theorem known_d {H : AHeap} {Q : AV → AHeap → Prop} (hH : TzH H) (hq : Q (.bool true) H) : W Tryd.prog (sndC (sndC (sndC (sndC (sndC (sndC (sndC (sndC (sndC (sndC (sndC (sndC (sndC (sndC (sndC (sndC (sndC ac16))))))))))))))))) (retN rs16 Q) ⟨[], [(225, .bool false)], H⟩ := by
  rw [show (sndC (sndC (sndC (sndC (sndC (sndC (sndC (sndC (sndC (sndC (sndC (sndC (sndC (sndC (sndC (sndC (sndC ac16))))))))))))))))) = .seq (fstC (sndC (sndC (sndC (sndC (sndC (sndC (sndC (sndC (sndC (sndC (sndC (sndC (sndC (sndC (sndC (sndC (sndC ac16)))))))))))))))))) (hold (sndC (sndC (sndC (sndC (sndC (sndC (sndC (sndC (sndC (sndC (sndC (sndC (sndC (sndC (sndC (sndC (sndC (sndC ac16))))))))))))))))))) from rfl]
  simp (disch := first | assumption | (apply Ap.symm; assumption) | omega | decide | (simp only [U_len, List.length_append, List.length_replicate, List.length_cons, List.length_nil, List.length_set] <;> omega) | fail) only [fstC, sndC, ac16, rep18, ↓Xa, Xb, Xc, ↓reduceIte, Nat.reduceLT, Nat.reduceEqDiff, Nat.reduceBEq, Nat.reduceLeDiff, Nat.reduceAdd, Nat.reduceMul]
  rw [k_tab]
  simp (disch := first | assumption | (apply Ap.symm; assumption) | omega | decide | (simp only [U_len, List.length_append, List.length_replicate, List.length_cons, List.length_nil, List.length_set] <;> omega) | fail) only [k_len, ↓Xa, Xb, Xc, ↓reduceIte, Nat.reduceLT, Nat.reduceEqDiff, Nat.reduceBEq, Nat.reduceLeDiff, Nat.reduceAdd, Nat.reduceMul]
  refine W_loop (fun i : Nat => ⟨[], [(238, .seq 6 kT true), (239, .int .i64 ((6 : Nat) : Int)), (240, .int .i64 (i : Nat))], H⟩) (fun i => i ≤ 6) (fun i => 6 - i) 0 (Settle.now rfl) (by omega) ?_
  intro i hi6
  by_cases hi : i < 6
  · simp (disch := first | assumption | (apply Ap.symm; assumption) | omega | decide | (simp only [U_len, List.length_append, List.length_replicate, List.length_cons, List.length_nil, List.length_set] <;> omega) | fail) only [hi, k_idx, k_load, ↓Xa, Xb, Xc, ↓reduceIte, Nat.reduceLT, Nat.reduceEqDiff, Nat.reduceBEq, Nat.reduceLeDiff, Nat.reduceAdd, Nat.reduceMul]
    refine alloc_i fun p1 hp1 => ?_
    have n1 := hp1
    have cR : (AV.agg (kR i)).cells = some [Sx (kTx i), .int .i64 ((kE i : Nat) : Int), .int .i64 ((kA i : Nat) : Int)] := rfl
    simp (disch := first | assumption | (apply Ap.symm; assumption) | omega | decide | (simp only [U_len, List.length_append, List.length_replicate, List.length_cons, List.length_nil, List.length_set] <;> omega) | fail) only [cR, cell_Sx, ↓Xa, Xb, Xc, ↓reduceIte, Nat.reduceLT, Nat.reduceEqDiff, Nat.reduceBEq, Nat.reduceLeDiff, Nat.reduceAdd, Nat.reduceMul]
    refine (read_fn (k_read hi) (by rcases lt6 hi with rfl | rfl | rfl | rfl | rfl | rfl <;> decide)).call ?_
    simp (disch := first | assumption | (apply Ap.symm; assumption) | omega | decide | (simp only [U_len, List.length_append, List.length_replicate, List.length_cons, List.length_nil, List.length_set] <;> omega) | fail) only [↓Xa, Xb, Xc, ↓reduceIte, Nat.reduceLT, Nat.reduceEqDiff, Nat.reduceBEq, Nat.reduceLeDiff, Nat.reduceAdd, Nat.reduceMul]
    refine alloc_i fun p2 hp2 => ?_
    have n2 := hp2
    simp only [upd_none] at n2
    obtain ⟨_, n2⟩ := n2
    simp (disch := first | assumption | (apply Ap.symm; assumption) | omega | decide | (simp only [U_len, List.length_append, List.length_replicate, List.length_cons, List.length_nil, List.length_set] <;> omega) | fail) only [spot, aeq_ii, cells_i2, pr_aeq, decide_true, bne_self_eq_false, Bool.and_self, cell_Sx, ↓Xa, Xb, Xc, ↓reduceIte, Nat.reduceLT, Nat.reduceEqDiff, Nat.reduceBEq, Nat.reduceLeDiff, Nat.reduceAdd, Nat.reduceMul]
    rw [k_str]
    have ek := k_txt hi
    by_cases h5 : i = 5
    · subst h5
      simp (disch := first | assumption | (apply Ap.symm; assumption) | omega | decide | (simp only [U_len, List.length_append, List.length_replicate, List.length_cons, List.length_nil, List.length_set] <;> omega) | fail) only [eql_Sx, decide_true, rep2, ↓Xa, Xb, Xc, ↓reduceIte, Nat.reduceLT, Nat.reduceEqDiff, Nat.reduceBEq, Nat.reduceLeDiff, Nat.reduceAdd, Nat.reduceMul]
      refine (eq_k (l := [0, 1]) (n := kV 5) true true (by decide) (by decide)).call ?_
      simp (disch := first | assumption | (apply Ap.symm; assumption) | omega | decide | (simp only [U_len, List.length_append, List.length_replicate, List.length_cons, List.length_nil, List.length_set] <;> omega) | fail) only [↓Xa, Xb, Xc, ↓reduceIte, Nat.reduceLT, Nat.reduceEqDiff, Nat.reduceBEq, Nat.reduceLeDiff, Nat.reduceAdd, Nat.reduceMul]
      refine Settle.dropTo (((Le.refl H).updB n1).updB n2) (Settle.now ⟨6, by omega, by omega, rfl⟩)
    · rw [decide_eq_false h5] at ek
      simp (disch := first | assumption | (apply Ap.symm; assumption) | omega | decide | (simp only [U_len, List.length_append, List.length_replicate, List.length_cons, List.length_nil, List.length_set] <;> omega) | fail) only [eql_Sx, ek, ↓Xa, Xb, Xc, ↓reduceIte, Nat.reduceLT, Nat.reduceEqDiff, Nat.reduceBEq, Nat.reduceLeDiff, Nat.reduceAdd, Nat.reduceMul]
      refine Settle.dropTo (((Le.refl H).updB n1).updB n2) (Settle.now ⟨i + 1, by omega, by omega, rfl⟩)
  · obtain rfl : i = 6 := by omega
    simp (disch := first | assumption | (apply Ap.symm; assumption) | omega | decide | (simp only [U_len, List.length_append, List.length_replicate, List.length_cons, List.length_nil, List.length_set] <;> omega) | fail) only [↓Xa, Xb, Xc, ↓reduceIte, Nat.reduceLT, Nat.reduceEqDiff, Nat.reduceBEq, Nat.reduceLeDiff, Nat.reduceAdd, Nat.reduceMul]
    refine Settle.now ?_
    have b1 : blen (Ma.val 4294967296 [0, 1]) = 33 := by decide
    have b2 : blen (Ma.val 4294967296 []) = 0 := by decide
    have b3 : Ma.val 4294967296 [0, 1] / 2 ^ 32 % 2 = 1 := by decide
    have b4 : tz (Ma.val 4294967296 [0, 4]) = 34 := by rw [show Ma.val 4294967296 [0, 4] = 2 ^ 34 * (2 * 0 + 1) by decide, tz_eq]
    have b5 : tz (Ma.val 4294967296 []) = 0 := tz_zero
    have b6 : decT (Ma.val 4294967296 []) = [48] := rfl
    simp (disch := first | assumption | (apply Ap.symm; assumption) | omega | decide | (simp only [U_len, List.length_append, List.length_replicate, List.length_cons, List.length_nil, List.length_set] <;> omega) | fail) only [hold, sndC, ac16, rep1, rep2, rep3, digs_zero, List.length_nil, ↓Xa, Xb, Xc, ↓reduceIte, Nat.reduceLT, Nat.reduceEqDiff, Nat.reduceBEq, Nat.reduceLeDiff, Nat.reduceAdd, Nat.reduceMul]
    refine (gcd_n (a := [12]) (b := [18]) true true (nmk (l := [12]) (n := 12) (by decide)) (nmk (l := [18]) (n := 18) (by decide)) (by omega)).call ?_
    simp (disch := first | assumption | (apply Ap.symm; assumption) | omega | decide | (simp only [U_len, List.length_append, List.length_replicate, List.length_cons, List.length_nil, List.length_set] <;> omega) | fail) only [rep1, rep2, rep3, digs_zero, List.length_nil, ↓Xa, Xb, Xc, ↓reduceIte, Nat.reduceLT, Nat.reduceEqDiff, Nat.reduceBEq, Nat.reduceLeDiff, Nat.reduceAdd, Nat.reduceMul]
    refine (eq_k (l := [6]) (n := Nat.gcd 12 18) true true (by decide) (by decide)).call ?_
    simp (disch := first | assumption | (apply Ap.symm; assumption) | omega | decide | (simp only [U_len, List.length_append, List.length_replicate, List.length_cons, List.length_nil, List.length_set] <;> omega) | fail) only [rep1, rep2, rep3, digs_zero, List.length_nil, ↓Xa, Xb, Xc, ↓reduceIte, Nat.reduceLT, Nat.reduceEqDiff, Nat.reduceBEq, Nat.reduceLeDiff, Nat.reduceAdd, Nat.reduceMul]
    refine (gcd_n (a := []) (b := [5, 0]) true true (nmk (l := []) (n := 0) (by decide)) (nmk (l := [5, 0]) (n := 5) (by decide)) (by omega)).call ?_
    simp (disch := first | assumption | (apply Ap.symm; assumption) | omega | decide | (simp only [U_len, List.length_append, List.length_replicate, List.length_cons, List.length_nil, List.length_set] <;> omega) | fail) only [rep1, rep2, rep3, digs_zero, List.length_nil, ↓Xa, Xb, Xc, ↓reduceIte, Nat.reduceLT, Nat.reduceEqDiff, Nat.reduceBEq, Nat.reduceLeDiff, Nat.reduceAdd, Nat.reduceMul]
    refine (eq_k (l := [5]) (n := Nat.gcd 0 5) true true (by decide) (by decide)).call ?_
    simp (disch := first | assumption | (apply Ap.symm; assumption) | omega | decide | (simp only [U_len, List.length_append, List.length_replicate, List.length_cons, List.length_nil, List.length_set] <;> omega) | fail) only [rep1, rep2, rep3, digs_zero, List.length_nil, ↓Xa, Xb, Xc, ↓reduceIte, Nat.reduceLT, Nat.reduceEqDiff, Nat.reduceBEq, Nat.reduceLeDiff, Nat.reduceAdd, Nat.reduceMul]
    refine (gcd_n (a := []) (b := []) true true (nmk (l := []) (n := 0) (by decide)) (nmk (l := []) (n := 0) (by decide)) (by omega)).call ?_
    simp (disch := first | assumption | (apply Ap.symm; assumption) | omega | decide | (simp only [U_len, List.length_append, List.length_replicate, List.length_cons, List.length_nil, List.length_set] <;> omega) | fail) only [rep1, rep2, rep3, digs_zero, List.length_nil, Nat.gcd_self, ↓Xa, Xb, Xc, ↓reduceIte, Nat.reduceLT, Nat.reduceEqDiff, Nat.reduceBEq, Nat.reduceLeDiff, Nat.reduceAdd, Nat.reduceMul]
    refine (bits_fn (l := [0, 1]) true (nmk (l := [0, 1]) (n := 4294967296) (by decide)).lim (by decide)).call ?_
    simp (disch := first | assumption | (apply Ap.symm; assumption) | omega | decide | (simp only [U_len, List.length_append, List.length_replicate, List.length_cons, List.length_nil, List.length_set] <;> omega) | fail) only [rep1, rep2, rep3, digs_zero, List.length_nil, b1, ↓Xa, Xb, Xc, ↓reduceIte, Nat.reduceLT, Nat.reduceEqDiff, Nat.reduceBEq, Nat.reduceLeDiff, Nat.reduceAdd, Nat.reduceMul]
    refine (bits_fn (l := []) true (nmk (l := []) (n := 0) (by decide)).lim (by decide)).call ?_
    simp (disch := first | assumption | (apply Ap.symm; assumption) | omega | decide | (simp only [U_len, List.length_append, List.length_replicate, List.length_cons, List.length_nil, List.length_set] <;> omega) | fail) only [rep1, rep2, rep3, digs_zero, List.length_nil, b2, ↓Xa, Xb, Xc, ↓reduceIte, Nat.reduceLT, Nat.reduceEqDiff, Nat.reduceBEq, Nat.reduceLeDiff, Nat.reduceAdd, Nat.reduceMul]
    refine (lbit_fn (l := [0, 1]) (k := 32) true (nmk (l := [0, 1]) (n := 4294967296) (by decide)).lim (by decide) (by omega)).call ?_
    simp (disch := first | assumption | (apply Ap.symm; assumption) | omega | decide | (simp only [U_len, List.length_append, List.length_replicate, List.length_cons, List.length_nil, List.length_set] <;> omega) | fail) only [rep1, rep2, rep3, digs_zero, List.length_nil, b3, decide_true, ↓Xa, Xb, Xc, ↓reduceIte, Nat.reduceLT, Nat.reduceEqDiff, Nat.reduceBEq, Nat.reduceLeDiff, Nat.reduceAdd, Nat.reduceMul]
    refine (lbitm_fn (l := [1]) true).call ?_
    simp (disch := first | assumption | (apply Ap.symm; assumption) | omega | decide | (simp only [U_len, List.length_append, List.length_replicate, List.length_cons, List.length_nil, List.length_set] <;> omega) | fail) only [rep1, rep2, rep3, digs_zero, List.length_nil, ↓Xa, Xb, Xc, ↓reduceIte, Nat.reduceLT, Nat.reduceEqDiff, Nat.reduceBEq, Nat.reduceLeDiff, Nat.reduceAdd, Nat.reduceMul]
    refine run_call (twos_run (a := [0, 4]) hH (nmk (l := [0, 4]) (n := 17179869184) (by decide)).lim (by decide) ?_)
    simp (disch := first | assumption | (apply Ap.symm; assumption) | omega | decide | (simp only [U_len, List.length_append, List.length_replicate, List.length_cons, List.length_nil, List.length_set] <;> omega) | fail) only [rep1, rep2, rep3, digs_zero, List.length_nil, b4, ↓Xa, Xb, Xc, ↓reduceIte, Nat.reduceLT, Nat.reduceEqDiff, Nat.reduceBEq, Nat.reduceLeDiff, Nat.reduceAdd, Nat.reduceMul]
    refine run_call (twos_run (a := []) hH (nmk (l := []) (n := 0) (by decide)).lim (by decide) ?_)
    simp (disch := first | assumption | (apply Ap.symm; assumption) | omega | decide | (simp only [U_len, List.length_append, List.length_replicate, List.length_cons, List.length_nil, List.length_set] <;> omega) | fail) only [rep1, rep2, rep3, digs_zero, List.length_nil, b5, ↓Xa, Xb, Xc, ↓reduceIte, Nat.reduceLT, Nat.reduceEqDiff, Nat.reduceBEq, Nat.reduceLeDiff, Nat.reduceAdd, Nat.reduceMul]
    refine (text_fn (l := []) true (nmk (l := []) (n := 0) (by decide)).lim (by decide)).call ?_
    simp (disch := first | assumption | (apply Ap.symm; assumption) | omega | decide | (simp only [U_len, List.length_append, List.length_replicate, List.length_cons, List.length_nil, List.length_set] <;> omega) | fail) only [rep1, rep2, rep3, digs_zero, List.length_nil, b6, str_Sx, eql_Sx, decide_true, rs16, ↓Xa, Xb, Xc, ↓reduceIte, Nat.reduceLT, Nat.reduceEqDiff, Nat.reduceBEq, Nat.reduceLeDiff, Nat.reduceAdd, Nat.reduceMul]
    exact SetR.now hq

theorem limbKnown_law {H : AHeap} {Q : AV → AHeap → Prop} (hH : TzH H) (hq : Q (.bool true) H) : Run Tryd.prog 16 [] H Q :=
  known_a (known_b (known_c (known_d hH hq)))
end Go.Proofs.YtipbcjnniamcgaaDoor.Fw
