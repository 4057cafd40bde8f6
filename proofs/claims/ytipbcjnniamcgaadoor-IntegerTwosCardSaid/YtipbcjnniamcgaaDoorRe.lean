/- What the reference computes of whole numbers: digits to the base 65536. -/
import Derived.Test.YtipbcjnniamcgaaDoorIn
import Derived.Test.YtipbcjnniamcgaaDoorNa
namespace Go.Proofs.YtipbcjnniamcgaaDoor.Fw
set_option linter.unusedSimpArgs false
set_option linter.unusedVariables false
open Go Go.Proofs.YtipbcjnniamcgaaDoor.Ma
set_option maxRecDepth 20000

/-- A whole number of the reference. -/
def RefA (z : Int) (t : Bool) : AV := .agg [.bool (decide (z < 0)), LS (digs 65536 z.natAbs) t]
theorem RefA_sg (neg : Bool) (n : Nat) (t : Bool) : RefA (sg neg n) t = .agg [.bool (neg && decide (0 < (digs 65536 n).length)), LS (digs 65536 n) t] := by
  simp only [RefA, sg_abs, sg_neg, digs_pos_len (B := 65536) (n := n) (by omega)]

theorem rnorm_fn {l : List Nat} (neg t : Bool) (hl : Lim 65536 l) (hn : l.length ≤ 8796093022208) : PFn Tryd.prog 88 [.bool neg, LS l t] (RefA (sg neg (val 65536 l)) false) := by
  intro H Q hq
  rw [RefA_sg] at hq
  refine enter88 (by simp) ?_
  simp (disch := first | assumption | (apply Ap.symm; assumption) | omega | decide | (simp only [U_len, List.length_append, List.length_replicate, List.length_cons, List.length_nil, List.length_set] <;> omega) | fail) only [ac88, ↓Xa, Xb, Xc, ↓reduceIte, Nat.reduceLT, Nat.reduceEqDiff, Nat.reduceBEq, Nat.reduceLeDiff, Nat.reduceAdd, Nat.reduceMul]
  refine alloc_i fun p hp => ?_
  simp (disch := first | assumption | (apply Ap.symm; assumption) | omega | decide | (simp only [U_len, List.length_append, List.length_replicate, List.length_cons, List.length_nil, List.length_set] <;> omega) | fail) only [↓Xa, Xb, Xc, ↓reduceIte, Nat.reduceLT, Nat.reduceEqDiff, Nat.reduceBEq, Nat.reduceLeDiff, Nat.reduceAdd, Nat.reduceMul]
  refine W_loop (fun n : Nat => ⟨[], [(0, .bool neg), (1, LS l t), (4, .ptr p 2 0), (5, .int .i64 n)], H.upd p (some (.row 30 0 [.bool false, .seq 0 [] true]))⟩) (fun n => n ≤ l.length ∧ ∀ i, n ≤ i → i < l.length → l.getD i 0 = 0) id l.length (Settle.now rfl) ⟨Nat.le_refl _, fun i h1 h2 => absurd h1 (by omega)⟩ ?_
  rintro n ⟨h1, hz⟩
  have fin : ∀ ti, (n = 0 ∨ l.getD (n - 1) 0 ≠ 0) → SetR Q (.agg [.bool (neg && decide (0 < n)), LS (l.take n) ti]) (H.upd p (some (.row 30 0 [.bool (neg && decide (0 < n)), LS (l.take n) ti]))) := fun ti h => by
    have e := tr_take h1 hz h
    have e2 : n = (digs 65536 (val 65536 l)).length := by
      have := congrArg List.length e
      rw [List.length_take, Nat.min_eq_left h1, tr_digs (by omega) hl] at this; exact this
    rw [e, tr_digs (by omega) hl, e2]
    exact SetR.dropTo ((Le.refl H).upd hp) (SetR.loose (SetR.now hq))
  have last : (n = 0 ∨ l.getD (n - 1) 0 ≠ 0) → W Tryd.prog (sndC (sndC (sndC ac88))) (retN rs88 Q) ⟨[], [(0, .bool neg), (1, LS l t), (4, .ptr p 2 0), (5, .int .i64 n), (17, .bool false)], H.upd p (some (.row 30 0 [.bool false, .seq 0 [] true]))⟩ := fun h => by
    have f := fun ti => fin ti h
    cases neg
    · simp (disch := first | assumption | (apply Ap.symm; assumption) | omega | decide | (simp only [U_len, List.length_append, List.length_replicate, List.length_cons, List.length_nil, List.length_set] <;> omega) | fail) only [ac88, rs88, sndC, ↓Xa, Xb, Xc, ↓reduceIte, Nat.reduceLT, Nat.reduceEqDiff, Nat.reduceBEq, Nat.reduceLeDiff, Nat.reduceAdd, Nat.reduceMul]
      exact f _
    · simp (disch := first | assumption | (apply Ap.symm; assumption) | omega | decide | (simp only [U_len, List.length_append, List.length_replicate, List.length_cons, List.length_nil, List.length_set] <;> omega) | fail) only [ac88, rs88, sndC, ↓Xa, Xb, Xc, ↓reduceIte, Nat.reduceLT, Nat.reduceEqDiff, Nat.reduceBEq, Nat.reduceLeDiff, Nat.reduceAdd, Nat.reduceMul]
      exact f _
  by_cases h0 : 0 < n
  · by_cases h2 : l.getD (n - 1) 0 = 0
    · simp (disch := first | assumption | (apply Ap.symm; assumption) | omega | decide | (simp only [U_len, List.length_append, List.length_replicate, List.length_cons, List.length_nil, List.length_set] <;> omega) | fail) only [h0, h2, ↓Xa, Xb, Xc, ↓reduceIte, Nat.reduceLT, Nat.reduceEqDiff, Nat.reduceBEq, Nat.reduceLeDiff, Nat.reduceAdd, Nat.reduceMul]
      refine Settle.now ⟨n - 1, ?_, ⟨by omega, fun i hi hl' => ?_⟩, rfl⟩
      · show n - 1 < n; omega
      · rcases Nat.lt_or_ge i n with h | h
        · rw [show i = n - 1 by omega]; exact h2
        · exact hz i h hl'
    · simp (disch := first | assumption | (apply Ap.symm; assumption) | omega | decide | (simp only [U_len, List.length_append, List.length_replicate, List.length_cons, List.length_nil, List.length_set] <;> omega) | fail) only [h0, h2, ↓Xa, Xb, Xc, ↓reduceIte, Nat.reduceLT, Nat.reduceEqDiff, Nat.reduceBEq, Nat.reduceLeDiff, Nat.reduceAdd, Nat.reduceMul]
      exact Settle.now (last (.inr h2))
  · simp (disch := first | assumption | (apply Ap.symm; assumption) | omega | decide | (simp only [U_len, List.length_append, List.length_replicate, List.length_cons, List.length_nil, List.length_set] <;> omega) | fail) only [h0, ↓Xa, Xb, Xc, ↓reduceIte, Nat.reduceLT, Nat.reduceEqDiff, Nat.reduceBEq, Nat.reduceLeDiff, Nat.reduceAdd, Nat.reduceMul]
    exact Settle.now (last (.inl (by omega)))

theorem lss_neg {n : Int} {K : AV → Prop} : binW .lss (.int .i64 n) (.int .i64 ((0 : Nat) : Int)) K ↔ K (.bool (decide (n < 0))) := by
  simp only [binW, binInt, true_and]; exact Iff.rfl
theorem rof_fn {n : Int} (hn : -9223372036854775808 ≤ n ∧ n < 9223372036854775808) : PFn Tryd.prog 95 [.int .i64 n] (RefA n false) := by
  intro H Q hq
  refine enter95 (by simp) ?_
  rw [show ac95 = .seq (fstC ac95) (.seq (fstC (sndC ac95)) (.seq (fstC (sndC (sndC ac95))) (hold (sndC (sndC (sndC ac95)))))) from rfl]
  simp (disch := first | assumption | (apply Ap.symm; assumption) | omega | decide | (simp only [U_len, List.length_append, List.length_replicate, List.length_cons, List.length_nil, List.length_set] <;> omega) | fail) only [fstC, sndC, ac95, ↓Xa, Xb, Xc, ↓reduceIte, Nat.reduceLT, Nat.reduceEqDiff, Nat.reduceBEq, Nat.reduceLeDiff, Nat.reduceAdd, Nat.reduceMul]
  refine alloc_i fun p hp => ?_
  have tail : ∀ (u0 : Nat), u0 < 18446744073709551616 → sg (decide (n < 0)) u0 = n → W Tryd.prog (hold (sndC (sndC (sndC ac95)))) (retN rs95 Q) ⟨[], [(0, .int .i64 n), (2, .ptr p 2 0), (3, .int .u64 u0)], H.upd p (some (.row 30 0 [.bool false, .seq 0 [] true]))⟩ := by
    intro u0 hu0 hs
    simp (disch := first | assumption | (apply Ap.symm; assumption) | omega | decide | (simp only [U_len, List.length_append, List.length_replicate, List.length_cons, List.length_nil, List.length_set] <;> omega) | fail) only [ac95, sndC, hold, ↓Xa, Xb, Xc, ↓reduceIte, Nat.reduceLT, Nat.reduceEqDiff, Nat.reduceBEq, Nat.reduceLeDiff, Nat.reduceAdd, Nat.reduceMul]
    refine W_loop (fun s : Nat × List Nat × AV × AHeap => ⟨[], [(0, .int .i64 n), (2, .ptr p 2 0), (3, .int .u64 s.1), (4, s.2.2.1)], s.2.2.2⟩)
      (fun s => grow (H.upd p (some (.row 30 0 [.bool false, .seq 0 [] true]))) 45 s.2.1 s.2.2.1 s.2.2.2 ∧ Lim 65536 s.2.1 ∧ val 65536 s.2.1 + 65536 ^ s.2.1.length * s.1 = u0 ∧ s.2.1.length ≤ 4 ∧ s.1 < 65536 ^ (4 - s.2.1.length)) (fun s => s.1)
      (u0, [], _, _) (Settle.now rfl) ⟨grow_nil, Lim.nil _, by simp [val], by simp, by simpa using hu0⟩ ?_
    rintro ⟨u, done, x, H'⟩ ⟨hg, h1, h2, h3, h4⟩
    dsimp only at hg h1 h2 h3 h4 ⊢
    have hu : u < 18446744073709551616 := by
      have : (65536 : Nat) ^ (4 - done.length) ≤ 65536 ^ 4 := Nat.pow_le_pow_right (by omega) (by omega)
      omega
    by_cases h0 : 0 < u
    · have hm : u / 65536 < 18446744073709551616 := by omega
      have hr : u % 65536 < 4294967296 := by omega
      simp (disch := first | assumption | (apply Ap.symm; assumption) | omega | decide | (simp only [U_len, List.length_append, List.length_replicate, List.length_cons, List.length_nil, List.length_set] <;> omega) | fail) only [h0, ne_eq, Nat.reduceEqDiff, ↓Xa, Xb, Xc, ↓reduceIte, Nat.reduceLT, Nat.reduceEqDiff, Nat.reduceBEq, Nat.reduceLeDiff, Nat.reduceAdd, Nat.reduceMul]
      refine app_grow (m := [u % 65536]) hg rfl (by simp) (by simp; omega) fun x' H2 hg2 => ?_
      simp (disch := first | assumption | (apply Ap.symm; assumption) | omega | decide | (simp only [U_len, List.length_append, List.length_replicate, List.length_cons, List.length_nil, List.length_set] <;> omega) | fail) only [ne_eq, Nat.reduceEqDiff, ↓Xa, Xb, Xc, ↓reduceIte, Nat.reduceLT, Nat.reduceEqDiff, Nat.reduceBEq, Nat.reduceLeDiff, Nat.reduceAdd, Nat.reduceMul]
      refine Settle.now ⟨(u / 65536, _, _, _), Nat.div_lt_self h0 (by omega), ⟨hg2, lim_snoc h1 (Nat.mod_lt _ (by omega)), ?_, ?_, ?_⟩, rfl⟩
      · rw [val_snoc, List.length_append, List.length_singleton, Nat.pow_succ, Nat.add_assoc, Nat.mul_assoc, ← Nat.mul_add, Nat.mod_add_div]; exact h2
      · simp only [List.length_append, List.length_singleton]
        rcases Nat.lt_or_ge done.length 4 with e | e
        · omega
        · rw [show 4 - done.length = 0 by omega] at h4; simp at h4; omega
      · simp only [List.length_append, List.length_singleton]
        rcases Nat.lt_or_ge done.length 4 with e | e
        · rw [show 4 - done.length = 4 - (done.length + 1) + 1 by omega, Nat.pow_succ] at h4
          exact Nat.div_lt_of_lt_mul (by rw [Nat.mul_comm]; exact h4)
        · rw [show 4 - done.length = 0 by omega] at h4; simp at h4; omega
    · obtain rfl : u = 0 := by omega
      rw [Nat.mul_zero, Nat.add_zero] at h2
      simp (disch := first | assumption | (apply Ap.symm; assumption) | omega | decide | (simp only [U_len, List.length_append, List.length_replicate, List.length_cons, List.length_nil, List.length_set] <;> omega) | fail) only [h0, ↓Xa, Xb, Xc, ↓reduceIte, Nat.reduceLT, Nat.reduceEqDiff, Nat.reduceBEq, Nat.reduceLeDiff, Nat.reduceAdd, Nat.reduceMul]
      refine Settle.grown 4 rfl hg (Settle.now ?_)
      simp (disch := first | assumption | (apply Ap.symm; assumption) | omega | decide | (simp only [U_len, List.length_append, List.length_replicate, List.length_cons, List.length_nil, List.length_set] <;> omega) | fail) only [lss_neg, ↓Xa, Xb, Xc, ↓reduceIte, Nat.reduceLT, Nat.reduceEqDiff, Nat.reduceBEq, Nat.reduceLeDiff, Nat.reduceAdd, Nat.reduceMul]
      refine (rnorm_fn _ false h1 (by omega)).call ?_
      rw [h2, hs]
      simp (disch := first | assumption | (apply Ap.symm; assumption) | omega | decide | (simp only [U_len, List.length_append, List.length_replicate, List.length_cons, List.length_nil, List.length_set] <;> omega) | fail) only [rs95, RefA, ↓Xa, Xb, Xc, ↓reduceIte, Nat.reduceLT, Nat.reduceEqDiff, Nat.reduceBEq, Nat.reduceLeDiff, Nat.reduceAdd, Nat.reduceMul]
      exact SetR.dropTo ((Le.refl H).upd hp) (SetR.now hq)
  by_cases h0 : n < 0
  · obtain ⟨m, rfl⟩ : ∃ m : Nat, n = -(m : Int) := ⟨n.natAbs, by omega⟩
    have c1 : ∀ K, convW .u64 (.int .i64 (-(m : Int))) K ↔ K (.int .u64 ((18446744073709551616 - m : Nat) : Int)) := fun K => by
      simp only [convW, wmod_u64]; rw [show (-(m : Int)) % 18446744073709551616 = ((18446744073709551616 - m : Nat) : Int) by omega]
    have c2 : ∀ K, unW .neg (.int .u64 ((18446744073709551616 - m : Nat) : Int)) K ↔ K (.int .u64 (m : Int)) := fun K => by
      simp only [unW, wmod_u64]; rw [show (0 - ((18446744073709551616 - m : Nat) : Int)) % 18446744073709551616 = (m : Int) by omega]
    simp (disch := first | assumption | (apply Ap.symm; assumption) | omega | decide | (simp only [U_len, List.length_append, List.length_replicate, List.length_cons, List.length_nil, List.length_set] <;> omega) | fail) only [c1, c2, lss_neg, h0, ↓Xa, Xb, Xc, ↓reduceIte, Nat.reduceLT, Nat.reduceEqDiff, Nat.reduceBEq, Nat.reduceLeDiff, Nat.reduceAdd, Nat.reduceMul]
    exact tail m (by omega) (by simp only [sg, h0, decide_true, if_true])
  · obtain ⟨m, rfl⟩ : ∃ m : Nat, n = (m : Int) := ⟨n.natAbs, by omega⟩
    simp (disch := first | assumption | (apply Ap.symm; assumption) | omega | decide | (simp only [U_len, List.length_append, List.length_replicate, List.length_cons, List.length_nil, List.length_set] <;> omega) | fail) only [h0, ↓Xa, Xb, Xc, ↓reduceIte, Nat.reduceLT, Nat.reduceEqDiff, Nat.reduceBEq, Nat.reduceLeDiff, Nat.reduceAdd, Nat.reduceMul]
    exact tail m (by omega) (by simp only [sg, h0, decide_false, Bool.false_eq_true, if_false])

theorem rmake_fn {l : List Nat} (neg t : Bool) (hl : Lim 4294967296 l) (hn : l.length ≤ 1099511627776) : PFn Tryd.prog 83 [.bool neg, LS l t] (RefA (sg neg (val 4294967296 l)) false) := by
  intro H Q hq
  refine enter83 (by simp) ?_
  simp (disch := first | assumption | (apply Ap.symm; assumption) | omega | decide | (simp only [U_len, List.length_append, List.length_replicate, List.length_cons, List.length_nil, List.length_set] <;> omega) | fail) only [ac83, ↓Xa, Xb, Xc, ↓reduceIte, Nat.reduceLT, Nat.reduceEqDiff, Nat.reduceBEq, Nat.reduceLeDiff, Nat.reduceAdd, Nat.reduceMul]
  refine alloc_i fun p hp => ?_
  simp (disch := first | assumption | (apply Ap.symm; assumption) | omega | decide | (simp only [U_len, List.length_append, List.length_replicate, List.length_cons, List.length_nil, List.length_set] <;> omega) | fail) only [↓Xa, Xb, Xc, ↓reduceIte, Nat.reduceLT, Nat.reduceEqDiff, Nat.reduceBEq, Nat.reduceLeDiff, Nat.reduceAdd, Nat.reduceMul]
  refine W_loop (fun s : Nat × List Nat × AV × AHeap => ⟨[], [(0, .bool neg), (1, LS l t), (4, .ptr p 2 0), (5, s.2.2.1), (6, .int .i64 s.1)], s.2.2.2⟩)
    (fun s => s.1 ≤ l.length ∧ grow (H.upd p (some (.row 30 0 [.bool false, .seq 0 [] true]))) 45 s.2.1 s.2.2.1 s.2.2.2 ∧ MakeI l s.1 s.2.1) (fun s => l.length - s.1)
    (0, [], _, _) (Settle.now rfl) ⟨by simp, grow_nil, MakeI.zero l⟩ ?_
  rintro ⟨i, done, x, H'⟩ ⟨h0, hg, h1⟩
  dsimp only at h0 hg h1 ⊢
  have hd := h1.1
  by_cases hi : i < l.length
  · have hx := hl.getD (by omega) i
    simp (disch := first | assumption | (apply Ap.symm; assumption) | omega | decide | (simp only [U_len, List.length_append, List.length_replicate, List.length_cons, List.length_nil, List.length_set] <;> omega) | fail) only [hi, ne_eq, Nat.reduceEqDiff, ↓Xa, Xb, Xc, ↓reduceIte, Nat.reduceLT, Nat.reduceEqDiff, Nat.reduceBEq, Nat.reduceLeDiff, Nat.reduceAdd, Nat.reduceMul]
    refine app_grow (m := [l.getD i 0 % 65536, l.getD i 0 / 65536]) hg rfl (by simp) (by simp; omega) fun x' H2 hg2 => ?_
    simp (disch := first | assumption | (apply Ap.symm; assumption) | omega | decide | (simp only [U_len, List.length_append, List.length_replicate, List.length_cons, List.length_nil, List.length_set] <;> omega) | fail) only [↓Xa, Xb, Xc, ↓reduceIte, Nat.reduceLT, Nat.reduceEqDiff, Nat.reduceBEq, Nat.reduceLeDiff, Nat.reduceAdd, Nat.reduceMul]
    refine Settle.now ⟨(i + 1, _, _, _), by dsimp only; omega, ⟨by dsimp only; omega, hg2, h1.step hl⟩, rfl⟩
  · obtain rfl : i = l.length := by omega
    simp (disch := first | assumption | (apply Ap.symm; assumption) | omega | decide | (simp only [U_len, List.length_append, List.length_replicate, List.length_cons, List.length_nil, List.length_set] <;> omega) | fail) only [hi, ↓Xa, Xb, Xc, ↓reduceIte, Nat.reduceLT, Nat.reduceEqDiff, Nat.reduceBEq, Nat.reduceLeDiff, Nat.reduceAdd, Nat.reduceMul]
    refine Settle.grown 5 rfl hg (Settle.now ?_)
    simp (disch := first | assumption | (apply Ap.symm; assumption) | omega | decide | (simp only [U_len, List.length_append, List.length_replicate, List.length_cons, List.length_nil, List.length_set] <;> omega) | fail) only [↓Xa, Xb, Xc, ↓reduceIte, Nat.reduceLT, Nat.reduceEqDiff, Nat.reduceBEq, Nat.reduceLeDiff, Nat.reduceAdd, Nat.reduceMul]
    refine (rnorm_fn neg false h1.2.1 (by omega)).call ?_
    rw [h1.2.2, val_take_all _ _ _ (Nat.le_refl _)]
    simp (disch := first | assumption | (apply Ap.symm; assumption) | omega | decide | (simp only [U_len, List.length_append, List.length_replicate, List.length_cons, List.length_nil, List.length_set] <;> omega) | fail) only [rs83, RefA, ↓Xa, Xb, Xc, ↓reduceIte, Nat.reduceLT, Nat.reduceEqDiff, Nat.reduceBEq, Nat.reduceLeDiff, Nat.reduceAdd, Nat.reduceMul]
    exact SetR.dropTo ((Le.refl H).upd hp) (SetR.now hq)

/-- So many digits of the reference. -/
theorem Bd.rlen {k : Nat} {z : Int} (h : Bd k z) : (digs 65536 z.natAbs).length ≤ 2 * k := digs_len (by omega) _ _ (by
  unfold Bd at h; rw [Nat.pow_mul]; exact h)

theorem rlimbs_fn {z : Int} {k : Nat} (t : Bool) (hz : Bd k z) (hk : k ≤ 549755813888) : PFn Tryd.prog 87 [RefA z t] (LS (digs 4294967296 z.natAbs) false) := by
  intro H Q hq
  have hl := hz.rlen
  have hlim := lim_digs (B := 65536) (by omega) z.natAbs
  refine enter87 (by simp) ?_
  simp (disch := first | assumption | (apply Ap.symm; assumption) | omega | decide | (simp only [U_len, List.length_append, List.length_replicate, List.length_cons, List.length_nil, List.length_set] <;> omega) | fail) only [ac87, RefA, ↓Xa, Xb, Xc, ↓reduceIte, Nat.reduceLT, Nat.reduceEqDiff, Nat.reduceBEq, Nat.reduceLeDiff, Nat.reduceAdd, Nat.reduceMul]
  refine alloc_i fun p hp => ?_
  simp (disch := first | assumption | (apply Ap.symm; assumption) | omega | decide | (simp only [U_len, List.length_append, List.length_replicate, List.length_cons, List.length_nil, List.length_set] <;> omega) | fail) only [↓Xa, Xb, Xc, ↓reduceIte, Nat.reduceLT, Nat.reduceEqDiff, Nat.reduceBEq, Nat.reduceLeDiff, Nat.reduceAdd, Nat.reduceMul]
  refine W_loop (fun s : Nat × List Nat × AV × AHeap => ⟨[], [(1, .ptr p 2 0), (3, s.2.2.1), (4, .int .i64 ((2 * s.1 : Nat) : Int))], s.2.2.2⟩)
    (fun s => 2 * s.1 ≤ (digs 65536 z.natAbs).length + 1 ∧ grow (H.upd p (some (.row 30 0 [.bool (decide (z < 0)), LS (digs 65536 z.natAbs) t]))) 45 s.2.1 s.2.2.1 s.2.2.2 ∧ LimbsI (digs 65536 z.natAbs) s.1 s.2.1) (fun s => (digs 65536 z.natAbs).length + 1 - s.1)
    (0, [], _, _) (Settle.now rfl) ⟨by simp, grow_nil, LimbsI.zero _⟩ ?_
  rintro ⟨i, done, x, H'⟩ ⟨h0, hg, h1⟩
  dsimp only at h0 hg h1 ⊢
  have hold := grow_old hg (upd_same _ _ _)
  have hd := h1.1
  by_cases hi : 2 * i < (digs 65536 z.natAbs).length
  · have hx := hlim.getD (by omega) (2 * i)
    have hy := hlim.getD (by omega) (2 * i + 1)
    by_cases hj : 2 * i + 1 < (digs 65536 z.natAbs).length
    · simp (disch := first | assumption | (apply Ap.symm; assumption) | omega | decide | (simp only [U_len, List.length_append, List.length_replicate, List.length_cons, List.length_nil, List.length_set] <;> omega) | fail) only [hi, hj, hold, ↓Xa, Xb, Xc, ↓reduceIte, Nat.reduceLT, Nat.reduceEqDiff, Nat.reduceBEq, Nat.reduceLeDiff, Nat.reduceAdd, Nat.reduceMul]
      refine app_grow (m := [(digs 65536 z.natAbs).getD (2 * i) 0 + 65536 * (digs 65536 z.natAbs).getD (2 * i + 1) 0]) hg rfl (by simp) (by simp; omega) fun x' H2 hg2 => ?_
      simp (disch := first | assumption | (apply Ap.symm; assumption) | omega | decide | (simp only [U_len, List.length_append, List.length_replicate, List.length_cons, List.length_nil, List.length_set] <;> omega) | fail) only [↓Xa, Xb, Xc, ↓reduceIte, Nat.reduceLT, Nat.reduceEqDiff, Nat.reduceBEq, Nat.reduceLeDiff, Nat.reduceAdd, Nat.reduceMul]
      refine Settle.now ⟨(i + 1, _, _, _), by dsimp only; omega, ⟨by dsimp only; omega, hg2, h1.step hlim rfl⟩, rfl⟩
    · have h2 := getD_beyond (show (digs 65536 z.natAbs).length ≤ 2 * i + 1 by omega)
      simp (disch := first | assumption | (apply Ap.symm; assumption) | omega | decide | (simp only [U_len, List.length_append, List.length_replicate, List.length_cons, List.length_nil, List.length_set] <;> omega) | fail) only [hi, hj, hold, ↓Xa, Xb, Xc, ↓reduceIte, Nat.reduceLT, Nat.reduceEqDiff, Nat.reduceBEq, Nat.reduceLeDiff, Nat.reduceAdd, Nat.reduceMul]
      refine app_grow (m := [(digs 65536 z.natAbs).getD (2 * i) 0]) hg rfl (by simp) (by simp; omega) fun x' H2 hg2 => ?_
      simp (disch := first | assumption | (apply Ap.symm; assumption) | omega | decide | (simp only [U_len, List.length_append, List.length_replicate, List.length_cons, List.length_nil, List.length_set] <;> omega) | fail) only [↓Xa, Xb, Xc, ↓reduceIte, Nat.reduceLT, Nat.reduceEqDiff, Nat.reduceBEq, Nat.reduceLeDiff, Nat.reduceAdd, Nat.reduceMul]
      refine Settle.now ⟨(i + 1, _, _, _), by dsimp only; omega, ⟨by dsimp only; omega, hg2, h1.step hlim (by rw [h2]; omega)⟩, rfl⟩
  · simp (disch := first | assumption | (apply Ap.symm; assumption) | omega | decide | (simp only [U_len, List.length_append, List.length_replicate, List.length_cons, List.length_nil, List.length_set] <;> omega) | fail) only [hi, hold, ↓Xa, Xb, Xc, ↓reduceIte, Nat.reduceLT, Nat.reduceEqDiff, Nat.reduceBEq, Nat.reduceLeDiff, Nat.reduceAdd, Nat.reduceMul]
    refine Settle.grown 3 rfl hg (Settle.now ?_)
    simp (disch := first | assumption | (apply Ap.symm; assumption) | omega | decide | (simp only [U_len, List.length_append, List.length_replicate, List.length_cons, List.length_nil, List.length_set] <;> omega) | fail) only [rs87, ↓Xa, Xb, Xc, ↓reduceIte, Nat.reduceLT, Nat.reduceEqDiff, Nat.reduceBEq, Nat.reduceLeDiff, Nat.reduceAdd, Nat.reduceMul]
    rw [h1.end (by omega) h0]
    exact SetR.dropTo ((Le.refl H).upd hp) (SetR.now hq)
end Go.Proofs.YtipbcjnniamcgaaDoor.Fw
