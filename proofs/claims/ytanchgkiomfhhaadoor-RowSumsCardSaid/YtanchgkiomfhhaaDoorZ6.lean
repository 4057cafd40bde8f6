/- The texts Re Rf Rg Ri Rj Rk Rl Rm Rn Ro Io Rp Rq Rr Rs Rt Ru Rv Rw Ka Kn Kb Nb Sa Sb Sc Sd Se Sf Sh Nd Tb Ya Yb Yc Yd Ye Kf Kg Qn Qa Qb Al6 Al20 Al5 Al4, joined. -/
import Derived.Test.YtanchgkiomfhhaaDoorZ5
/- What the reference computes of whole numbers: digits to the base 65536. -/
namespace Go.Proofs.YtanchgkiomfhhaaDoor.Fw
set_option linter.unusedSimpArgs false
set_option linter.unusedVariables false
open Go Go.Proofs.YtanchgkiomfhhaaDoor.Ma
set_option maxRecDepth 20000

def RefA (z : Int) (t : Bool) : AV := .agg [.bool (decide (z < 0)), LS (digs 65536 z.natAbs) t]
theorem RefA_sg (neg : Bool) (n : Nat) (t : Bool) : RefA (sg neg n) t = .agg [.bool (neg && decide (0 < (digs 65536 n).length)), LS (digs 65536 n) t] := by
  simp only [RefA, sg_abs, sg_neg, digs_pos_len (B := 65536) (n := n) (by omega)]

theorem rnorm_fn {l : List Nat} (neg t : Bool) (hl : Lim 65536 l) (hn : l.length ≤ 8796093022208) : PFn Tryd.prog 139 [.bool neg, LS l t] (RefA (sg neg (val 65536 l)) false) := by
  intro H Q hq
  rw [RefA_sg] at hq
  refine enter139 (by simp) ?_
  simp (disch := first | assumption | (apply Ap.symm; assumption) | omega | decide | (simp only [Xd] <;> omega)) only [ac139, ↓Xa, Xb, Xc, ↓reduceIte, Nat.reduceLT, Nat.reduceEqDiff, Nat.reduceBEq, Nat.reduceLeDiff, Nat.reduceAdd, Nat.reduceMul]
  refine alloc_i fun p hp => ?_
  simp (disch := first | assumption | (apply Ap.symm; assumption) | omega | decide | (simp only [Xd] <;> omega)) only [↓Xa, Xb, Xc, ↓reduceIte, Nat.reduceLT, Nat.reduceEqDiff, Nat.reduceBEq, Nat.reduceLeDiff, Nat.reduceAdd, Nat.reduceMul]
  refine W_loop (fun n : Nat => ⟨[], [(0, .bool neg), (1, LS l t), (4, .ptr p 2 0), (5, .int .i64 n)], H.upd p (some (.row 39 0 [.bool false, .seq 0 [] true]))⟩) (fun n => n ≤ l.length ∧ ∀ i, n ≤ i → i < l.length → l.getD i 0 = 0) id l.length (Settle.now rfl) ⟨Nat.le_refl _, fun i h1 h2 => absurd h1 (by omega)⟩ ?_
  rintro n ⟨h1, hz⟩
  have fin : ∀ ti, (n = 0 ∨ l.getD (n - 1) 0 ≠ 0) → SetR Q (.agg [.bool (neg && decide (0 < n)), LS (l.take n) ti]) (H.upd p (some (.row 39 0 [.bool (neg && decide (0 < n)), LS (l.take n) ti]))) := fun ti h => by
    have e := tr_take h1 hz h
    have e2 : n = (digs 65536 (val 65536 l)).length := by
      have := congrArg List.length e
      rw [List.length_take, Nat.min_eq_left h1, tr_digs (by omega) hl] at this; exact this
    rw [e, tr_digs (by omega) hl, e2]
    exact SetR.dropTo ((Le.refl H).upd hp) (SetR.loose (SetR.now hq))
  have last : (n = 0 ∨ l.getD (n - 1) 0 ≠ 0) → W Tryd.prog (sndC (sndC (sndC ac139))) (retN rs139 Q) ⟨[], [(0, .bool neg), (1, LS l t), (4, .ptr p 2 0), (5, .int .i64 n), (17, .bool false)], H.upd p (some (.row 39 0 [.bool false, .seq 0 [] true]))⟩ := fun h => by
    have f := fun ti => fin ti h
    cases neg
    · simp (disch := first | assumption | (apply Ap.symm; assumption) | omega | decide | (simp only [Xd] <;> omega)) only [ac139, rs139, sndC, ↓Xa, Xb, Xc, ↓reduceIte, Nat.reduceLT, Nat.reduceEqDiff, Nat.reduceBEq, Nat.reduceLeDiff, Nat.reduceAdd, Nat.reduceMul]
      exact f _
    · simp (disch := first | assumption | (apply Ap.symm; assumption) | omega | decide | (simp only [Xd] <;> omega)) only [ac139, rs139, sndC, ↓Xa, Xb, Xc, ↓reduceIte, Nat.reduceLT, Nat.reduceEqDiff, Nat.reduceBEq, Nat.reduceLeDiff, Nat.reduceAdd, Nat.reduceMul]
      exact f _
  by_cases h0 : 0 < n
  · by_cases h2 : l.getD (n - 1) 0 = 0
    · simp (disch := first | assumption | (apply Ap.symm; assumption) | omega | decide | (simp only [Xd] <;> omega)) only [h0, h2, ↓Xa, Xb, Xc, ↓reduceIte, Nat.reduceLT, Nat.reduceEqDiff, Nat.reduceBEq, Nat.reduceLeDiff, Nat.reduceAdd, Nat.reduceMul]
      refine Settle.now ⟨n - 1, ?_, ⟨by omega, fun i hi hl' => ?_⟩, rfl⟩
      · show n - 1 < n; omega
      · rcases Nat.lt_or_ge i n with h | h
        · rw [show i = n - 1 by omega]; exact h2
        · exact hz i h hl'
    · simp (disch := first | assumption | (apply Ap.symm; assumption) | omega | decide | (simp only [Xd] <;> omega)) only [h0, h2, ↓Xa, Xb, Xc, ↓reduceIte, Nat.reduceLT, Nat.reduceEqDiff, Nat.reduceBEq, Nat.reduceLeDiff, Nat.reduceAdd, Nat.reduceMul]
      exact Settle.now (last (.inr h2))
  · simp (disch := first | assumption | (apply Ap.symm; assumption) | omega | decide | (simp only [Xd] <;> omega)) only [h0, ↓Xa, Xb, Xc, ↓reduceIte, Nat.reduceLT, Nat.reduceEqDiff, Nat.reduceBEq, Nat.reduceLeDiff, Nat.reduceAdd, Nat.reduceMul]
    exact Settle.now (last (.inl (by omega)))

theorem lss_neg {n : Int} {K : AV → Prop} : binW .lss (.int .i64 n) (.int .i64 ((0 : Nat) : Int)) K ↔ K (.bool (decide (n < 0))) := by
  simp only [binW, binInt, true_and]; exact Iff.rfl
theorem rof_fn {n : Int} (hn : -9223372036854775808 ≤ n ∧ n < 9223372036854775808) : PFn Tryd.prog 45 [.int .i64 n] (RefA n false) := by
  intro H Q hq
  refine enter45 (by simp) ?_
  rw [show ac45 = .seq (fstC ac45) (.seq (fstC (sndC ac45)) (.seq (fstC (sndC (sndC ac45))) (hold (sndC (sndC (sndC ac45)))))) from rfl]
  simp (disch := first | assumption | (apply Ap.symm; assumption) | omega | decide | (simp only [Xd] <;> omega)) only [fstC, sndC, ac45, ↓Xa, Xb, Xc, ↓reduceIte, Nat.reduceLT, Nat.reduceEqDiff, Nat.reduceBEq, Nat.reduceLeDiff, Nat.reduceAdd, Nat.reduceMul]
  refine alloc_i fun p hp => ?_
  have tail : ∀ (u0 : Nat), u0 < 18446744073709551616 → sg (decide (n < 0)) u0 = n → W Tryd.prog (hold (sndC (sndC (sndC ac45)))) (retN rs45 Q) ⟨[], [(0, .int .i64 n), (2, .ptr p 2 0), (3, .int .u64 u0)], H.upd p (some (.row 39 0 [.bool false, .seq 0 [] true]))⟩ := by
    intro u0 hu0 hs
    simp (disch := first | assumption | (apply Ap.symm; assumption) | omega | decide | (simp only [Xd] <;> omega)) only [ac45, sndC, hold, ↓Xa, Xb, Xc, ↓reduceIte, Nat.reduceLT, Nat.reduceEqDiff, Nat.reduceBEq, Nat.reduceLeDiff, Nat.reduceAdd, Nat.reduceMul]
    refine W_loop (fun s : Nat × List Nat × AV × AHeap => ⟨[], [(0, .int .i64 n), (2, .ptr p 2 0), (3, .int .u64 s.1), (4, s.2.2.1)], s.2.2.2⟩)
      (fun s => grow (H.upd p (some (.row 39 0 [.bool false, .seq 0 [] true]))) 172 s.2.1 s.2.2.1 s.2.2.2 ∧ Lim 65536 s.2.1 ∧ val 65536 s.2.1 + 65536 ^ s.2.1.length * s.1 = u0 ∧ s.2.1.length ≤ 4 ∧ s.1 < 65536 ^ (4 - s.2.1.length)) (fun s => s.1)
      (u0, [], _, _) (Settle.now rfl) ⟨grow_nil, Lim.nil _, by simp [val], by simp, by simpa using hu0⟩ ?_
    rintro ⟨u, done, x, H'⟩ ⟨hg, h1, h2, h3, h4⟩
    dsimp only at hg h1 h2 h3 h4 ⊢
    have hu : u < 18446744073709551616 := by
      have : (65536 : Nat) ^ (4 - done.length) ≤ 65536 ^ 4 := Nat.pow_le_pow_right (by omega) (by omega)
      omega
    by_cases h0 : 0 < u
    · have hm : u / 65536 < 18446744073709551616 := by omega
      have hr : u % 65536 < 4294967296 := by omega
      simp (disch := first | assumption | (apply Ap.symm; assumption) | omega | decide | (simp only [Xd] <;> omega)) only [h0, ne_eq, Nat.reduceEqDiff, ↓Xa, Xb, Xc, ↓reduceIte, Nat.reduceLT, Nat.reduceEqDiff, Nat.reduceBEq, Nat.reduceLeDiff, Nat.reduceAdd, Nat.reduceMul]
      refine app_grow (m := [u % 65536]) hg rfl (by simp) (by simp; omega) fun x' H2 hg2 => ?_
      simp (disch := first | assumption | (apply Ap.symm; assumption) | omega | decide | (simp only [Xd] <;> omega)) only [ne_eq, Nat.reduceEqDiff, ↓Xa, Xb, Xc, ↓reduceIte, Nat.reduceLT, Nat.reduceEqDiff, Nat.reduceBEq, Nat.reduceLeDiff, Nat.reduceAdd, Nat.reduceMul]
      refine Settle.now ⟨(u / 65536, _, _, _), Nat.div_lt_self h0 (by omega), ⟨hg2, lim_snoc h1 (Nat.mod_lt _ (by omega)), ?_, ?_, ?_⟩, rfl⟩
      · rw [val_snoc, List.length_append, List.length_singleton, Nat.pow_succ, Nat.add_assoc, Nat.mul_assoc, ← Nat.mul_add, Nat.mod_add_div]; exact h2
      · simp only [List.length_append, List.length_singleton]
        rcases Nat.lt_or_ge done.length 4 with e | e
        · omega
        · rw [show 4 - done.length = 0 by omega] at h4; simp at h4; omega
      · simp only [List.length_append, List.length_singleton]
        rcases Nat.lt_or_ge done.length 4 with e | e
        · rw [show 4 - done.length = 4 - (done.length + 1) + 1 by omega, Nat.pow_succ] at h4
          exact Nat.div_lt_of_lt_mul (by rw [Nat.mul_comm]; exact h4)
        · rw [show 4 - done.length = 0 by omega] at h4; simp at h4; omega
    · obtain rfl : u = 0 := by omega
      rw [Nat.mul_zero, Nat.add_zero] at h2
      simp (disch := first | assumption | (apply Ap.symm; assumption) | omega | decide | (simp only [Xd] <;> omega)) only [h0, ↓Xa, Xb, Xc, ↓reduceIte, Nat.reduceLT, Nat.reduceEqDiff, Nat.reduceBEq, Nat.reduceLeDiff, Nat.reduceAdd, Nat.reduceMul]
      refine Settle.grown 4 rfl hg (Settle.now ?_)
      simp (disch := first | assumption | (apply Ap.symm; assumption) | omega | decide | (simp only [Xd] <;> omega)) only [lss_neg, ↓Xa, Xb, Xc, ↓reduceIte, Nat.reduceLT, Nat.reduceEqDiff, Nat.reduceBEq, Nat.reduceLeDiff, Nat.reduceAdd, Nat.reduceMul]
      refine (rnorm_fn _ false h1 (by omega)).call ?_
      rw [h2, hs]
      simp (disch := first | assumption | (apply Ap.symm; assumption) | omega | decide | (simp only [Xd] <;> omega)) only [rs45, RefA, ↓Xa, Xb, Xc, ↓reduceIte, Nat.reduceLT, Nat.reduceEqDiff, Nat.reduceBEq, Nat.reduceLeDiff, Nat.reduceAdd, Nat.reduceMul]
      exact SetR.dropTo ((Le.refl H).upd hp) (SetR.now hq)
  by_cases h0 : n < 0
  · obtain ⟨m, rfl⟩ : ∃ m : Nat, n = -(m : Int) := ⟨n.natAbs, by omega⟩
    have c1 : ∀ K, convW .u64 (.int .i64 (-(m : Int))) K ↔ K (.int .u64 ((18446744073709551616 - m : Nat) : Int)) := fun K => by
      simp only [convW, wmod_u64]; rw [show (-(m : Int)) % 18446744073709551616 = ((18446744073709551616 - m : Nat) : Int) by omega]
    have c2 : ∀ K, unW .neg (.int .u64 ((18446744073709551616 - m : Nat) : Int)) K ↔ K (.int .u64 (m : Int)) := fun K => by
      simp only [unW, wmod_u64]; rw [show (0 - ((18446744073709551616 - m : Nat) : Int)) % 18446744073709551616 = (m : Int) by omega]
    simp (disch := first | assumption | (apply Ap.symm; assumption) | omega | decide | (simp only [Xd] <;> omega)) only [c1, c2, lss_neg, h0, ↓Xa, Xb, Xc, ↓reduceIte, Nat.reduceLT, Nat.reduceEqDiff, Nat.reduceBEq, Nat.reduceLeDiff, Nat.reduceAdd, Nat.reduceMul]
    exact tail m (by omega) (by simp only [sg, h0, decide_true, if_true])
  · obtain ⟨m, rfl⟩ : ∃ m : Nat, n = (m : Int) := ⟨n.natAbs, by omega⟩
    simp (disch := first | assumption | (apply Ap.symm; assumption) | omega | decide | (simp only [Xd] <;> omega)) only [h0, ↓Xa, Xb, Xc, ↓reduceIte, Nat.reduceLT, Nat.reduceEqDiff, Nat.reduceBEq, Nat.reduceLeDiff, Nat.reduceAdd, Nat.reduceMul]
    exact tail m (by omega) (by simp only [sg, h0, decide_false, Bool.false_eq_true, if_false])

theorem rmake_fn {l : List Nat} (neg t : Bool) (hl : Lim 4294967296 l) (hn : l.length ≤ 1099511627776) : PFn Tryd.prog 36 [.bool neg, LS l t] (RefA (sg neg (val 4294967296 l)) false) := by
  intro H Q hq
  refine enter36 (by simp) ?_
  simp (disch := first | assumption | (apply Ap.symm; assumption) | omega | decide | (simp only [Xd] <;> omega)) only [ac36, ↓Xa, Xb, Xc, ↓reduceIte, Nat.reduceLT, Nat.reduceEqDiff, Nat.reduceBEq, Nat.reduceLeDiff, Nat.reduceAdd, Nat.reduceMul]
  refine alloc_i fun p hp => ?_
  simp (disch := first | assumption | (apply Ap.symm; assumption) | omega | decide | (simp only [Xd] <;> omega)) only [↓Xa, Xb, Xc, ↓reduceIte, Nat.reduceLT, Nat.reduceEqDiff, Nat.reduceBEq, Nat.reduceLeDiff, Nat.reduceAdd, Nat.reduceMul]
  refine W_loop (fun s : Nat × List Nat × AV × AHeap => ⟨[], [(0, .bool neg), (1, LS l t), (4, .ptr p 2 0), (5, s.2.2.1), (6, .int .i64 s.1)], s.2.2.2⟩)
    (fun s => s.1 ≤ l.length ∧ grow (H.upd p (some (.row 39 0 [.bool false, .seq 0 [] true]))) 172 s.2.1 s.2.2.1 s.2.2.2 ∧ MakeI l s.1 s.2.1) (fun s => l.length - s.1)
    (0, [], _, _) (Settle.now rfl) ⟨by simp, grow_nil, MakeI.zero l⟩ ?_
  rintro ⟨i, done, x, H'⟩ ⟨h0, hg, h1⟩
  dsimp only at h0 hg h1 ⊢
  have hd := h1.1
  by_cases hi : i < l.length
  · have hx := hl.getD (by omega) i
    simp (disch := first | assumption | (apply Ap.symm; assumption) | omega | decide | (simp only [Xd] <;> omega)) only [hi, ne_eq, Nat.reduceEqDiff, ↓Xa, Xb, Xc, ↓reduceIte, Nat.reduceLT, Nat.reduceEqDiff, Nat.reduceBEq, Nat.reduceLeDiff, Nat.reduceAdd, Nat.reduceMul]
    refine app_grow (m := [l.getD i 0 % 65536, l.getD i 0 / 65536]) hg rfl (by simp) (by simp; omega) fun x' H2 hg2 => ?_
    simp (disch := first | assumption | (apply Ap.symm; assumption) | omega | decide | (simp only [Xd] <;> omega)) only [↓Xa, Xb, Xc, ↓reduceIte, Nat.reduceLT, Nat.reduceEqDiff, Nat.reduceBEq, Nat.reduceLeDiff, Nat.reduceAdd, Nat.reduceMul]
    refine Settle.now ⟨(i + 1, _, _, _), by dsimp only; omega, ⟨by dsimp only; omega, hg2, h1.step hl⟩, rfl⟩
  · obtain rfl : i = l.length := by omega
    simp (disch := first | assumption | (apply Ap.symm; assumption) | omega | decide | (simp only [Xd] <;> omega)) only [hi, ↓Xa, Xb, Xc, ↓reduceIte, Nat.reduceLT, Nat.reduceEqDiff, Nat.reduceBEq, Nat.reduceLeDiff, Nat.reduceAdd, Nat.reduceMul]
    refine Settle.grown 5 rfl hg (Settle.now ?_)
    simp (disch := first | assumption | (apply Ap.symm; assumption) | omega | decide | (simp only [Xd] <;> omega)) only [↓Xa, Xb, Xc, ↓reduceIte, Nat.reduceLT, Nat.reduceEqDiff, Nat.reduceBEq, Nat.reduceLeDiff, Nat.reduceAdd, Nat.reduceMul]
    refine (rnorm_fn neg false h1.2.1 (by omega)).call ?_
    rw [h1.2.2, val_take_all _ _ _ (Nat.le_refl _)]
    simp (disch := first | assumption | (apply Ap.symm; assumption) | omega | decide | (simp only [Xd] <;> omega)) only [rs36, RefA, ↓Xa, Xb, Xc, ↓reduceIte, Nat.reduceLT, Nat.reduceEqDiff, Nat.reduceBEq, Nat.reduceLeDiff, Nat.reduceAdd, Nat.reduceMul]
    exact SetR.dropTo ((Le.refl H).upd hp) (SetR.now hq)

theorem Bd.rlen {k : Nat} {z : Int} (h : Bd k z) : (digs 65536 z.natAbs).length ≤ 2 * k := digs_len (by omega) _ _ (by
  unfold Bd at h; rw [Nat.pow_mul]; exact h)

end Go.Proofs.YtanchgkiomfhhaaDoor.Fw

/- What the reference computes of whole numbers: signs, comparing, sums, products. -/
namespace Go.Proofs.YtanchgkiomfhhaaDoor.Fw
set_option linter.unusedSimpArgs false
set_option linter.unusedVariables false
open Go Go.Proofs.YtanchgkiomfhhaaDoor.Ma
set_option maxRecDepth 20000

theorem rsign_fn {x : Int} {k : Nat} (t : Bool) (hx : Bd k x) (hk : k ≤ 549755813888) : PFn Tryd.prog 119 [RefA x t] (.int .i64 (sgnI x)) := by
  intro H Q hq
  have hl := hx.rlen
  have h0 := digs_len0 (B := 65536) (n := x.natAbs) (by omega)
  refine enter119 (by simp) ?_
  simp (disch := first | assumption | (apply Ap.symm; assumption) | omega | decide | (simp only [Xd] <;> omega)) only [ac119, RefA, ↓Xa, Xb, Xc, ↓reduceIte, Nat.reduceLT, Nat.reduceEqDiff, Nat.reduceBEq, Nat.reduceLeDiff, Nat.reduceAdd, Nat.reduceMul]
  refine alloc_i fun p hp => ?_
  by_cases hz : x = 0
  · have h1 : (digs 65536 x.natAbs).length = 0 := by rw [h0]; omega
    simp (disch := first | assumption | (apply Ap.symm; assumption) | omega | decide | (simp only [Xd] <;> omega)) only [rs119, h1, ↓Xa, Xb, Xc, ↓reduceIte, Nat.reduceLT, Nat.reduceEqDiff, Nat.reduceBEq, Nat.reduceLeDiff, Nat.reduceAdd, Nat.reduceMul]
    refine SetR.dropTo ((Le.refl H).upd hp) (SetR.now ?_)
    simpa [sgnI, hz] using hq
  · have h1 : ((digs 65536 x.natAbs).length = 0) = False := by rw [h0]; simp; omega
    by_cases hn : x < 0
    · simp (disch := first | assumption | (apply Ap.symm; assumption) | omega | decide | (simp only [Xd] <;> omega)) only [rs119, h1, hn, ↓Xa, Xb, Xc, ↓reduceIte, Nat.reduceLT, Nat.reduceEqDiff, Nat.reduceBEq, Nat.reduceLeDiff, Nat.reduceAdd, Nat.reduceMul]
      refine SetR.dropTo ((Le.refl H).upd hp) (SetR.now ?_)
      simpa [sgnI, hz, hn] using hq
    · simp (disch := first | assumption | (apply Ap.symm; assumption) | omega | decide | (simp only [Xd] <;> omega)) only [rs119, h1, hn, ↓Xa, Xb, Xc, ↓reduceIte, Nat.reduceLT, Nat.reduceEqDiff, Nat.reduceBEq, Nat.reduceLeDiff, Nat.reduceAdd, Nat.reduceMul]
      refine SetR.dropTo ((Le.refl H).upd hp) (SetR.now ?_)
      simpa [sgnI, hz, hn] using hq

theorem size_fn (m n : Nat) (ta tb : Bool) (hm : (digs 65536 m).length ≤ 1099511627776) (hn : (digs 65536 n).length ≤ 1099511627776) : PFn Tryd.prog 194 [LS (digs 65536 m) ta, LS (digs 65536 n) tb] (.int .i64 (cmpZ m n)) := by
  intro H Q hq
  have hx := lim_digs (B := 65536) (by omega) m
  have hy := lim_digs (B := 65536) (by omega) n
  have vx := val_digs (B := 65536) (by omega) m
  have vy := val_digs (B := 65536) (by omega) n
  have lt1 := digs_lt_len (B := 65536) (a := m) (b := n) (by omega)
  have lt2 := digs_lt_len (B := 65536) (a := n) (b := m) (by omega)
  generalize digs 65536 m = x at *
  generalize digs 65536 n = y at *
  have less : m < n → SetR Q (.int .i64 (-1)) H := fun h => by
    have : cmpZ m n = -1 := by simp [cmpZ, h]
    rw [← this]; exact SetR.now hq
  have more : n < m → SetR Q (.int .i64 ((1 : Nat) : Int)) H := fun h => by
    have : cmpZ m n = ((1 : Nat) : Int) := by simp [cmpZ, h, Nat.not_lt_of_lt h]
    rw [← this]; exact SetR.now hq
  refine enter194 (by simp) ?_
  by_cases c0 : x.length = y.length
  · simp (disch := first | assumption | (apply Ap.symm; assumption) | omega | decide | (simp only [Xd] <;> omega)) only [ac194, c0, ↓Xa, Xb, Xc, ↓reduceIte, Nat.reduceLT, Nat.reduceEqDiff, Nat.reduceBEq, Nat.reduceLeDiff, Nat.reduceAdd, Nat.reduceMul]
    refine W_loop (fun k : Nat => ⟨[], [(0, LS x ta), (1, LS y tb), (5, .int .i64 (dn k))], H⟩) (fun k => k ≤ x.length ∧ x.drop k = y.drop k) id y.length (Settle.now rfl) ⟨by omega, by rw [List.drop_of_length_le (by omega), List.drop_of_length_le (by omega)]⟩ ?_
    rintro k ⟨hk, hd⟩
    cases k with
    | zero =>
      simp (disch := first | assumption | (apply Ap.symm; assumption) | omega | decide | (simp only [Xd] <;> omega)) only [↓Xa, Xb, Xc, ↓reduceIte, Nat.reduceLT, Nat.reduceEqDiff, Nat.reduceBEq, Nat.reduceLeDiff, Nat.reduceAdd, Nat.reduceMul]
      refine Settle.now ?_
      simp (disch := first | assumption | (apply Ap.symm; assumption) | omega | decide | (simp only [Xd] <;> omega)) only [rs194, ↓Xa, Xb, Xc, ↓reduceIte, Nat.reduceLT, Nat.reduceEqDiff, Nat.reduceBEq, Nat.reduceLeDiff, Nat.reduceAdd, Nat.reduceMul]
      have e : m = n := by rw [← vx, ← vy]; rw [List.drop_zero, List.drop_zero] at hd; rw [hd]
      have : cmpZ m n = ((0 : Nat) : Int) := by simp [cmpZ, e]
      rw [← this]; exact SetR.now hq
    | succ k =>
      by_cases d1 : x.getD k 0 < y.getD k 0
      · simp (disch := first | assumption | (apply Ap.symm; assumption) | omega | decide | (simp only [Xd] <;> omega)) only [d1, rs194, ↓Xa, Xb, Xc, ↓reduceIte, Nat.reduceLT, Nat.reduceEqDiff, Nat.reduceBEq, Nat.reduceLeDiff, Nat.reduceAdd, Nat.reduceMul]
        exact less (by rw [← vx, ← vy]; exact val_lt_high hx (by omega) k (by omega) c0 hd d1)
      by_cases d2 : y.getD k 0 < x.getD k 0
      · simp (disch := first | assumption | (apply Ap.symm; assumption) | omega | decide | (simp only [Xd] <;> omega)) only [d1, d2, rs194, ↓Xa, Xb, Xc, ↓reduceIte, Nat.reduceLT, Nat.reduceEqDiff, Nat.reduceBEq, Nat.reduceLeDiff, Nat.reduceAdd, Nat.reduceMul]
        exact more (by rw [← vx, ← vy]; exact val_lt_high hy (by omega) k (by omega) c0.symm hd.symm d2)
      simp (disch := first | assumption | (apply Ap.symm; assumption) | omega | decide | (simp only [Xd] <;> omega)) only [d1, d2, ↓Xa, Xb, Xc, ↓reduceIte, Nat.reduceLT, Nat.reduceEqDiff, Nat.reduceBEq, Nat.reduceLeDiff, Nat.reduceAdd, Nat.reduceMul]
      refine Settle.now ⟨k, Nat.lt_succ_self k, ⟨by omega, ?_⟩, rfl⟩
      rw [List.drop_eq_getElem_cons (by omega), List.drop_eq_getElem_cons (i := k) (l := y) (by omega), hd]
      congr 1
      have e1 : x.getD k 0 = x[k] := by simp [List.getD_eq_getElem?_getD, List.getElem?_eq_getElem (show k < x.length by omega)]
      have e2 : y.getD k 0 = y[k] := by simp [List.getD_eq_getElem?_getD, List.getElem?_eq_getElem (show k < y.length by omega)]
      omega
  · by_cases c1 : x.length < y.length
    · simp (disch := first | assumption | (apply Ap.symm; assumption) | omega | decide | (simp only [Xd] <;> omega)) only [ac194, c0, c1, rs194, ↓Xa, Xb, Xc, ↓reduceIte, Nat.reduceLT, Nat.reduceEqDiff, Nat.reduceBEq, Nat.reduceLeDiff, Nat.reduceAdd, Nat.reduceMul]
      exact less (lt1 c1)
    · simp (disch := first | assumption | (apply Ap.symm; assumption) | omega | decide | (simp only [Xd] <;> omega)) only [ac194, c0, c1, rs194, ↓Xa, Xb, Xc, ↓reduceIte, Nat.reduceLT, Nat.reduceEqDiff, Nat.reduceBEq, Nat.reduceLeDiff, Nat.reduceAdd, Nat.reduceMul]
      exact more (lt2 (by omega))

theorem rcmp_fn {x y : Int} {k k' : Nat} (tx ty : Bool) (hx : Bd k x) (hk : k ≤ 549755813888) (hy : Bd k' y) (hk' : k' ≤ 549755813888) : PFn Tryd.prog 149 [RefA x tx, RefA y ty] (.int .i64 (cmpI x y)) := by
  intro H Q hq
  have hl := hx.rlen
  have hl' := hy.rlen
  refine enter149 (by simp) ?_
  simp (disch := first | assumption | (apply Ap.symm; assumption) | omega | decide | (simp only [Xd] <;> omega)) only [ac149, RefA, ↓Xa, Xb, Xc, ↓reduceIte, Nat.reduceLT, Nat.reduceEqDiff, Nat.reduceBEq, Nat.reduceLeDiff, Nat.reduceAdd, Nat.reduceMul]
  refine alloc_i fun p hp => ?_
  simp (disch := first | assumption | (apply Ap.symm; assumption) | omega | decide | (simp only [Xd] <;> omega)) only [↓Xa, Xb, Xc, ↓reduceIte, Nat.reduceLT, Nat.reduceEqDiff, Nat.reduceBEq, Nat.reduceLeDiff, Nat.reduceAdd, Nat.reduceMul]
  refine alloc_i fun p2 hp2 => ?_
  have hne := (upd_none.1 hp2).1
  have le := (((Le.refl H).upd hp).upd hp2 (x := some (.row 39 0 [.bool (decide (y < 0)), LS (digs 65536 y.natAbs) ty])))
  simp (disch := first | assumption | (apply Ap.symm; assumption) | omega | decide | (simp only [Xd] <;> omega)) only [↓Xa, Xb, Xc, ↓reduceIte, Nat.reduceLT, Nat.reduceEqDiff, Nat.reduceBEq, Nat.reduceLeDiff, Nat.reduceAdd, Nat.reduceMul]
  refine PFn.dcall (rsign_fn tx hx hk) ?_
  simp (disch := first | assumption | (apply Ap.symm; assumption) | omega | decide | (simp only [Xd] <;> omega)) only [↓Xa, Xb, Xc, ↓reduceIte, Nat.reduceLT, Nat.reduceEqDiff, Nat.reduceBEq, Nat.reduceLeDiff, Nat.reduceAdd, Nat.reduceMul]
  refine (rsign_fn ty hy hk').call ?_
  have cneq : ∀ (a b : Int) (K : AV → Prop), binW .neq (.int .i64 a) (.int .i64 b) K ↔ K (.bool (!decide (a = b))) := fun a b K => by simp [binW, binInt]
  have clss : ∀ (a b : Int) (K : AV → Prop), binW .lss (.int .i64 a) (.int .i64 b) K ↔ K (.bool (decide (a < b))) := fun a b K => by simp [binW, binInt]
  by_cases c0 : sgnI x = sgnI y
  · by_cases c1 : sgnI y < ((0 : Nat) : Int)
    · have c1' := decide_eq_true c1
      simp (disch := first | assumption | (apply Ap.symm; assumption) | omega | decide | (simp only [Xd] <;> omega)) only [c0, c1', clss, cneq, ↓Xa, Xb, Xc, ↓reduceIte, Nat.reduceLT, Nat.reduceEqDiff, Nat.reduceBEq, Nat.reduceLeDiff, Nat.reduceAdd, Nat.reduceMul]
      refine (size_fn y.natAbs x.natAbs ty tx (by omega) (by omega)).call ?_
      have e : cmpI x y = cmpZ y.natAbs x.natAbs := by
        have a1 : x < 0 := by unfold sgnI at c0 c1; split at c1 <;> split at c0 <;> omega
        have a2 : y < 0 := by unfold sgnI at c1; split at c1 <;> omega
        unfold cmpI cmpZ; split <;> split <;> first | rfl | omega | (split <;> first | rfl | omega | (split <;> first | rfl | omega))
      simp (disch := first | assumption | (apply Ap.symm; assumption) | omega | decide | (simp only [Xd] <;> omega)) only [rs149, ↓Xa, Xb, Xc, ↓reduceIte, Nat.reduceLT, Nat.reduceEqDiff, Nat.reduceBEq, Nat.reduceLeDiff, Nat.reduceAdd, Nat.reduceMul]
      exact SetR.dropTo le (SetR.now (e ▸ hq))
    · have c1' := decide_eq_false c1
      simp (disch := first | assumption | (apply Ap.symm; assumption) | omega | decide | (simp only [Xd] <;> omega)) only [c0, c1', clss, cneq, ↓Xa, Xb, Xc, ↓reduceIte, Nat.reduceLT, Nat.reduceEqDiff, Nat.reduceBEq, Nat.reduceLeDiff, Nat.reduceAdd, Nat.reduceMul]
      refine (size_fn x.natAbs y.natAbs tx ty (by omega) (by omega)).call ?_
      have e : cmpI x y = cmpZ x.natAbs y.natAbs := by
        have a2 : 0 ≤ y := by unfold sgnI at c1; split at c1 <;> (try omega)
        have a1 : 0 ≤ x := by unfold sgnI at c0 c1; split at c0 <;> split at c0 <;> (try omega) <;> (split at c0 <;> omega)
        unfold cmpI cmpZ; split <;> split <;> first | rfl | omega | (split <;> first | rfl | omega | (split <;> first | rfl | omega))
      simp (disch := first | assumption | (apply Ap.symm; assumption) | omega | decide | (simp only [Xd] <;> omega)) only [rs149, ↓Xa, Xb, Xc, ↓reduceIte, Nat.reduceLT, Nat.reduceEqDiff, Nat.reduceBEq, Nat.reduceLeDiff, Nat.reduceAdd, Nat.reduceMul]
      exact SetR.dropTo le (SetR.now (e ▸ hq))
  · by_cases c1 : sgnI x < sgnI y
    · have e : cmpI x y = -1 := by
        unfold cmpI; rw [if_pos]; unfold sgnI at c1; split at c1 <;> split at c1 <;> (try omega) <;> (split at c1 <;> omega)
      simp (disch := first | assumption | (apply Ap.symm; assumption) | omega | decide | (simp only [Xd] <;> omega)) only [c0, c1, clss, cneq, rs149, ↓Xa, Xb, Xc, ↓reduceIte, Nat.reduceLT, Nat.reduceEqDiff, Nat.reduceBEq, Nat.reduceLeDiff, Nat.reduceAdd, Nat.reduceMul]
      exact SetR.dropTo le (SetR.now (e ▸ hq))
    · have e : cmpI x y = ((1 : Nat) : Int) := by
        have : y < x := by unfold sgnI at c0 c1; split at c0 <;> split at c0 <;> simp_all <;> (try omega) <;> (split at c0 <;> simp_all <;> omega)
        unfold cmpI; rw [if_neg (by omega), if_pos this]
      simp (disch := first | assumption | (apply Ap.symm; assumption) | omega | decide | (simp only [Xd] <;> omega)) only [c0, c1, clss, cneq, rs149, ↓Xa, Xb, Xc, ↓reduceIte, Nat.reduceLT, Nat.reduceEqDiff, Nat.reduceBEq, Nat.reduceLeDiff, Nat.reduceAdd, Nat.reduceMul]
      exact SetR.dropTo le (SetR.now (e ▸ hq))

end Go.Proofs.YtanchgkiomfhhaaDoor.Fw

/- What the reference computes of whole numbers: sums, differences, products. -/
namespace Go.Proofs.YtanchgkiomfhhaaDoor.Fw
set_option linter.unusedSimpArgs false
set_option linter.unusedVariables false
open Go Go.Proofs.YtanchgkiomfhhaaDoor.Ma
set_option maxRecDepth 20000

theorem plus_fn (m n : Nat) (ta tb : Bool) (hm : (digs 65536 m).length ≤ 1099511627776) (hn : (digs 65536 n).length ≤ 1099511627776) : PFn Tryd.prog 196 [LS (digs 65536 m) ta, LS (digs 65536 n) tb] (LS (digs 65536 (m + n)) false) := by
  intro H Q hq
  have la := lim_digs (B := 65536) (by omega) m
  have lb := lim_digs (B := 65536) (by omega) n
  refine enter196 (by simp) ?_
  simp (disch := first | assumption | (apply Ap.symm; assumption) | omega | decide | (simp only [Xd] <;> omega)) only [ac196, ↓Xa, Xb, Xc, ↓reduceIte, Nat.reduceLT, Nat.reduceEqDiff, Nat.reduceBEq, Nat.reduceLeDiff, Nat.reduceAdd, Nat.reduceMul]
  refine W_loop (fun s : Nat × Nat × List Nat × AV × AHeap => ⟨[], [(0, LS (digs 65536 m) ta), (1, LS (digs 65536 n) tb), (5, s.2.2.2.1), (6, .int .u32 s.2.1), (7, .int .i64 s.1)], s.2.2.2.2⟩)
    (fun s => s.1 ≤ max (digs 65536 m).length (digs 65536 n).length + 1 ∧ (s.1 = max (digs 65536 m).length (digs 65536 n).length + 1 → s.2.1 = 0) ∧ grow H 172 s.2.2.1 s.2.2.2.1 s.2.2.2.2 ∧ PlusI (digs 65536 m) (digs 65536 n) s.1 s.2.1 s.2.2.1) (fun s => max (digs 65536 m).length (digs 65536 n).length + 1 - s.1)
    (0, 0, [], _, _) (Settle.now rfl) ⟨by dsimp only; omega, fun _ => rfl, grow_nil, PlusI.zero _ _⟩ ?_
  rintro ⟨i, c, done, x, H'⟩ ⟨g0, g1, hg, h1⟩
  dsimp only at g0 g1 hg h1 ⊢
  have hd := h1.1
  have hc := h1.2.2.1
  have hx := la.getD (by omega) i
  have hy := lb.getD (by omega) i
  have nx : ∀ s, s = c + (digs 65536 m).getD i 0 + (digs 65536 n).getD i 0 → max (digs 65536 m).length (digs 65536 n).length ≤ i → s / 65536 = 0 := by
    intro s hs hi
    have a := getD_beyond (show (digs 65536 m).length ≤ i by omega)
    have b := getD_beyond (show (digs 65536 n).length ≤ i by omega)
    rw [hs, a, b]; omega
  by_cases hi : i < (digs 65536 m).length
  · by_cases hj : i < (digs 65536 n).length
    · simp (disch := first | assumption | (apply Ap.symm; assumption) | omega | decide | (simp only [Xd] <;> omega)) only [hi, hj, ne_eq, Nat.reduceEqDiff, ↓Xa, Xb, Xc, ↓reduceIte, Nat.reduceLT, Nat.reduceEqDiff, Nat.reduceBEq, Nat.reduceLeDiff, Nat.reduceAdd, Nat.reduceMul]
      refine app_grow (m := [(c + (digs 65536 m).getD i 0 + (digs 65536 n).getD i 0) % 65536]) hg rfl (by simp) (by simp; omega) fun x' H2 hg2 => ?_
      simp (disch := first | assumption | (apply Ap.symm; assumption) | omega | decide | (simp only [Xd] <;> omega)) only [ne_eq, Nat.reduceEqDiff, ↓Xa, Xb, Xc, ↓reduceIte, Nat.reduceLT, Nat.reduceEqDiff, Nat.reduceBEq, Nat.reduceLeDiff, Nat.reduceAdd, Nat.reduceMul]
      refine Settle.now ⟨(i + 1, _, _, _, _), by dsimp only; omega, ⟨by dsimp only; omega, fun e => nx _ rfl (by dsimp only at e; omega), hg2, h1.step (.inl hi) rfl⟩, rfl⟩
    · have b := getD_beyond (show (digs 65536 n).length ≤ i by omega)
      simp (disch := first | assumption | (apply Ap.symm; assumption) | omega | decide | (simp only [Xd] <;> omega)) only [hi, hj, ne_eq, Nat.reduceEqDiff, ↓Xa, Xb, Xc, ↓reduceIte, Nat.reduceLT, Nat.reduceEqDiff, Nat.reduceBEq, Nat.reduceLeDiff, Nat.reduceAdd, Nat.reduceMul]
      refine app_grow (m := [(c + (digs 65536 m).getD i 0) % 65536]) hg rfl (by simp) (by simp; omega) fun x' H2 hg2 => ?_
      simp (disch := first | assumption | (apply Ap.symm; assumption) | omega | decide | (simp only [Xd] <;> omega)) only [ne_eq, Nat.reduceEqDiff, ↓Xa, Xb, Xc, ↓reduceIte, Nat.reduceLT, Nat.reduceEqDiff, Nat.reduceBEq, Nat.reduceLeDiff, Nat.reduceAdd, Nat.reduceMul]
      refine Settle.now ⟨(i + 1, _, _, _, _), by dsimp only; omega, ⟨by dsimp only; omega, fun e => nx _ (by rw [b]; rfl) (by dsimp only at e; omega), hg2, h1.step (.inl hi) (by rw [b]; rfl)⟩, rfl⟩
  · have a := getD_beyond (show (digs 65536 m).length ≤ i by omega)
    by_cases hj : i < (digs 65536 n).length
    · simp (disch := first | assumption | (apply Ap.symm; assumption) | omega | decide | (simp only [Xd] <;> omega)) only [hi, hj, ne_eq, Nat.reduceEqDiff, ↓Xa, Xb, Xc, ↓reduceIte, Nat.reduceLT, Nat.reduceEqDiff, Nat.reduceBEq, Nat.reduceLeDiff, Nat.reduceAdd, Nat.reduceMul]
      refine app_grow (m := [(c + (digs 65536 n).getD i 0) % 65536]) hg rfl (by simp) (by simp; omega) fun x' H2 hg2 => ?_
      simp (disch := first | assumption | (apply Ap.symm; assumption) | omega | decide | (simp only [Xd] <;> omega)) only [ne_eq, Nat.reduceEqDiff, ↓Xa, Xb, Xc, ↓reduceIte, Nat.reduceLT, Nat.reduceEqDiff, Nat.reduceBEq, Nat.reduceLeDiff, Nat.reduceAdd, Nat.reduceMul]
      refine Settle.now ⟨(i + 1, _, _, _, _), by dsimp only; omega, ⟨by dsimp only; omega, fun e => nx _ (by rw [a]; rfl) (by dsimp only at e; omega), hg2, h1.step (.inr (.inl hj)) (by rw [a]; rfl)⟩, rfl⟩
    · have b := getD_beyond (show (digs 65536 n).length ≤ i by omega)
      by_cases h0 : 0 < c
      · simp (disch := first | assumption | (apply Ap.symm; assumption) | omega | decide | (simp only [Xd] <;> omega)) only [hi, hj, h0, ne_eq, Nat.reduceEqDiff, ↓Xa, Xb, Xc, ↓reduceIte, Nat.reduceLT, Nat.reduceEqDiff, Nat.reduceBEq, Nat.reduceLeDiff, Nat.reduceAdd, Nat.reduceMul]
        refine app_grow (m := [c % 65536]) hg rfl (by simp) (by simp; omega) fun x' H2 hg2 => ?_
        simp (disch := first | assumption | (apply Ap.symm; assumption) | omega | decide | (simp only [Xd] <;> omega)) only [ne_eq, Nat.reduceEqDiff, ↓Xa, Xb, Xc, ↓reduceIte, Nat.reduceLT, Nat.reduceEqDiff, Nat.reduceBEq, Nat.reduceLeDiff, Nat.reduceAdd, Nat.reduceMul]
        have : i ≠ max (digs 65536 m).length (digs 65536 n).length + 1 := fun e => by have := g1 e; omega
        refine Settle.now ⟨(i + 1, _, _, _, _), by dsimp only; omega, ⟨by dsimp only; omega, fun e => nx _ (by rw [a, b]; rfl) (by dsimp only at e; omega), hg2, h1.step (.inr (.inr h0)) (by rw [a, b]; rfl)⟩, rfl⟩
      · obtain rfl : c = 0 := by omega
        simp (disch := first | assumption | (apply Ap.symm; assumption) | omega | decide | (simp only [Xd] <;> omega)) only [hi, hj, h0, ↓Xa, Xb, Xc, ↓reduceIte, Nat.reduceLT, Nat.reduceEqDiff, Nat.reduceBEq, Nat.reduceLeDiff, Nat.reduceAdd, Nat.reduceMul]
        refine Settle.grown 5 rfl hg (Settle.now ?_)
        simp (disch := first | assumption | (apply Ap.symm; assumption) | omega | decide | (simp only [Xd] <;> omega)) only [rs196, ↓Xa, Xb, Xc, ↓reduceIte, Nat.reduceLT, Nat.reduceEqDiff, Nat.reduceBEq, Nat.reduceLeDiff, Nat.reduceAdd, Nat.reduceMul]
        rw [h1.end (by omega) (by omega)]
        exact SetR.now hq

theorem minus_fn (m n : Nat) (ta tb : Bool) (hmn : n ≤ m) (hm : (digs 65536 m).length ≤ 1099511627776) : PFn Tryd.prog 195 [LS (digs 65536 m) ta, LS (digs 65536 n) tb] (LS (pad 65536 (m - n) (digs 65536 m).length) false) := by
  intro H Q hq
  have la := lim_digs (B := 65536) (by omega) m
  have lb := lim_digs (B := 65536) (by omega) n
  have va := val_digs (B := 65536) (by omega) m
  have vb := val_digs (B := 65536) (by omega) n
  have hlb : (digs 65536 n).length ≤ (digs 65536 m).length := by
    rcases Nat.lt_or_ge (digs 65536 m).length (digs 65536 n).length with h | h
    · have := digs_lt_len (by omega) h; omega
    · exact h
  refine enter195 (by simp) ?_
  simp (disch := first | assumption | (apply Ap.symm; assumption) | omega | decide | (simp only [Xd] <;> omega)) only [ac195, ↓Xa, Xb, Xc, ↓reduceIte, Nat.reduceLT, Nat.reduceEqDiff, Nat.reduceBEq, Nat.reduceLeDiff, Nat.reduceAdd, Nat.reduceMul]
  refine W_loop (fun s : Nat × Nat × List Nat × AV × AHeap => ⟨[], [(0, LS (digs 65536 m) ta), (1, LS (digs 65536 n) tb), (5, s.2.2.2.1), (6, .int .u32 s.2.1), (7, .int .i64 s.1)], s.2.2.2.2⟩)
    (fun s => s.1 ≤ (digs 65536 m).length ∧ grow H 172 s.2.2.1 s.2.2.2.1 s.2.2.2.2 ∧ MinI (digs 65536 m) (digs 65536 n) s.1 s.2.1 s.2.2.1) (fun s => (digs 65536 m).length - s.1)
    (0, 0, [], _, _) (Settle.now rfl) ⟨by simp, grow_nil, MinI.zero _ _⟩ ?_
  rintro ⟨i, c, done, x, H'⟩ ⟨g0, hg, h1⟩
  dsimp only at g0 hg h1 ⊢
  have hd := h1.1
  have hc := h1.2.2.1
  have hx := la.getD (by omega) i
  have hy := lb.getD (by omega) i
  by_cases hi : i < (digs 65536 m).length
  · by_cases hj : i < (digs 65536 n).length
    · by_cases hv : (digs 65536 m).getD i 0 < c + (digs 65536 n).getD i 0
      · simp (disch := first | assumption | (apply Ap.symm; assumption) | omega | decide | (simp only [Xd] <;> omega)) only [hi, hj, hv, ↓Xa, Xb, Xc, ↓reduceIte, Nat.reduceLT, Nat.reduceEqDiff, Nat.reduceBEq, Nat.reduceLeDiff, Nat.reduceAdd, Nat.reduceMul]
        refine app_grow (m := [(digs 65536 m).getD i 0 + 65536 - (c + (digs 65536 n).getD i 0)]) hg rfl (by simp) (by simp; omega) fun x' H2 hg2 => ?_
        simp (disch := first | assumption | (apply Ap.symm; assumption) | omega | decide | (simp only [Xd] <;> omega)) only [↓Xa, Xb, Xc, ↓reduceIte, Nat.reduceLT, Nat.reduceEqDiff, Nat.reduceBEq, Nat.reduceLeDiff, Nat.reduceAdd, Nat.reduceMul]
        refine Settle.now ⟨(i + 1, 1, _, _, _), by dsimp only; omega, ⟨by dsimp only; omega, hg2, h1.step (c' := 1) (by omega) rfl (by omega) (by omega)⟩, rfl⟩
      · simp (disch := first | assumption | (apply Ap.symm; assumption) | omega | decide | (simp only [Xd] <;> omega)) only [hi, hj, hv, ↓Xa, Xb, Xc, ↓reduceIte, Nat.reduceLT, Nat.reduceEqDiff, Nat.reduceBEq, Nat.reduceLeDiff, Nat.reduceAdd, Nat.reduceMul]
        refine app_grow (m := [(digs 65536 m).getD i 0 - (c + (digs 65536 n).getD i 0)]) hg rfl (by simp) (by simp; omega) fun x' H2 hg2 => ?_
        simp (disch := first | assumption | (apply Ap.symm; assumption) | omega | decide | (simp only [Xd] <;> omega)) only [↓Xa, Xb, Xc, ↓reduceIte, Nat.reduceLT, Nat.reduceEqDiff, Nat.reduceBEq, Nat.reduceLeDiff, Nat.reduceAdd, Nat.reduceMul]
        refine Settle.now ⟨(i + 1, 0, _, _, _), by dsimp only; omega, ⟨by dsimp only; omega, hg2, h1.step (c' := 0) (by omega) rfl (by omega) (by omega)⟩, rfl⟩
    · have b := getD_beyond (show (digs 65536 n).length ≤ i by omega)
      by_cases hv : (digs 65536 m).getD i 0 < c
      · simp (disch := first | assumption | (apply Ap.symm; assumption) | omega | decide | (simp only [Xd] <;> omega)) only [hi, hj, hv, ↓Xa, Xb, Xc, ↓reduceIte, Nat.reduceLT, Nat.reduceEqDiff, Nat.reduceBEq, Nat.reduceLeDiff, Nat.reduceAdd, Nat.reduceMul]
        refine app_grow (m := [(digs 65536 m).getD i 0 + 65536 - c]) hg rfl (by simp) (by simp; omega) fun x' H2 hg2 => ?_
        simp (disch := first | assumption | (apply Ap.symm; assumption) | omega | decide | (simp only [Xd] <;> omega)) only [↓Xa, Xb, Xc, ↓reduceIte, Nat.reduceLT, Nat.reduceEqDiff, Nat.reduceBEq, Nat.reduceLeDiff, Nat.reduceAdd, Nat.reduceMul]
        refine Settle.now ⟨(i + 1, 1, _, _, _), by dsimp only; omega, ⟨by dsimp only; omega, hg2, h1.step (c' := 1) (by omega) rfl (by omega) (by omega)⟩, rfl⟩
      · simp (disch := first | assumption | (apply Ap.symm; assumption) | omega | decide | (simp only [Xd] <;> omega)) only [hi, hj, hv, ↓Xa, Xb, Xc, ↓reduceIte, Nat.reduceLT, Nat.reduceEqDiff, Nat.reduceBEq, Nat.reduceLeDiff, Nat.reduceAdd, Nat.reduceMul]
        refine app_grow (m := [(digs 65536 m).getD i 0 - c]) hg rfl (by simp) (by simp; omega) fun x' H2 hg2 => ?_
        simp (disch := first | assumption | (apply Ap.symm; assumption) | omega | decide | (simp only [Xd] <;> omega)) only [↓Xa, Xb, Xc, ↓reduceIte, Nat.reduceLT, Nat.reduceEqDiff, Nat.reduceBEq, Nat.reduceLeDiff, Nat.reduceAdd, Nat.reduceMul]
        refine Settle.now ⟨(i + 1, 0, _, _, _), by dsimp only; omega, ⟨by dsimp only; omega, hg2, h1.step (c' := 0) (by omega) rfl (by omega) (by omega)⟩, rfl⟩
  · obtain rfl : i = (digs 65536 m).length := by omega
    simp (disch := first | assumption | (apply Ap.symm; assumption) | omega | decide | (simp only [Xd] <;> omega)) only [hi, ↓Xa, Xb, Xc, ↓reduceIte, Nat.reduceLT, Nat.reduceEqDiff, Nat.reduceBEq, Nat.reduceLeDiff, Nat.reduceAdd, Nat.reduceMul]
    refine Settle.grown 5 rfl hg (Settle.now ?_)
    simp (disch := first | assumption | (apply Ap.symm; assumption) | omega | decide | (simp only [Xd] <;> omega)) only [rs195, ↓Xa, Xb, Xc, ↓reduceIte, Nat.reduceLT, Nat.reduceEqDiff, Nat.reduceBEq, Nat.reduceLeDiff, Nat.reduceAdd, Nat.reduceMul]
    have e := h1.end la hlb (by omega)
    rw [va, vb] at e
    rw [e]
    exact SetR.now hq

theorem raddi_fn {x y : Int} {k k' : Nat} (tx ty : Bool) (hx : Bd k x) (hk : k ≤ 274877906944) (hy : Bd k' y) (hk' : k' ≤ 274877906944) : PFn Tryd.prog 136 [RefA x tx, RefA y ty] (RefA (x + y) false) := by
  intro H Q hq
  have hl := hx.rlen
  have hl' := hy.rlen
  have hxm := hx.mono (Nat.le_max_left k k')
  have hym := hy.mono (Nat.le_max_right k k')
  refine enter136 (by simp) ?_
  simp (disch := first | assumption | (apply Ap.symm; assumption) | omega | decide | (simp only [Xd] <;> omega)) only [ac136, RefA, ↓Xa, Xb, Xc, ↓reduceIte, Nat.reduceLT, Nat.reduceEqDiff, Nat.reduceBEq, Nat.reduceLeDiff, Nat.reduceAdd, Nat.reduceMul]
  refine alloc_i fun p hp => ?_
  simp (disch := first | assumption | (apply Ap.symm; assumption) | omega | decide | (simp only [Xd] <;> omega)) only [↓Xa, Xb, Xc, ↓reduceIte, Nat.reduceLT, Nat.reduceEqDiff, Nat.reduceBEq, Nat.reduceLeDiff, Nat.reduceAdd, Nat.reduceMul]
  refine alloc_i fun p2 hp2 => ?_
  simp (disch := first | assumption | (apply Ap.symm; assumption) | omega | decide | (simp only [Xd] <;> omega)) only [↓Xa, Xb, Xc, ↓reduceIte, Nat.reduceLT, Nat.reduceEqDiff, Nat.reduceBEq, Nat.reduceLeDiff, Nat.reduceAdd, Nat.reduceMul]
  refine alloc_i fun p3 hp3 => ?_
  have hne := (upd_none.1 hp2).1
  have hne3 := (upd_none.1 hp3).1
  have hne4 := (upd_none.1 (upd_none.1 hp3).2).1
  by_cases hs : decide (x < 0) = decide (y < 0)
  · have hsb : (decide (x < 0) == decide (y < 0)) = true := by rw [hs]; simp
    simp (disch := first | assumption | (apply Ap.symm; assumption) | omega | decide | (simp only [Xd] <;> omega)) only [hsb, ↓Xa, Xb, Xc, ↓reduceIte, Nat.reduceLT, Nat.reduceEqDiff, Nat.reduceBEq, Nat.reduceLeDiff, Nat.reduceAdd, Nat.reduceMul]
    refine PFn.dcall (plus_fn _ _ tx ty (by omega) (by omega)) ?_
    simp (disch := first | assumption | (apply Ap.symm; assumption) | omega | decide | (simp only [Xd] <;> omega)) only [↓Xa, Xb, Xc, ↓reduceIte, Nat.reduceLT, Nat.reduceEqDiff, Nat.reduceBEq, Nat.reduceLeDiff, Nat.reduceAdd, Nat.reduceMul]
    have hb : Bd (max k k' + 1) (sg (decide (x < 0)) (x.natAbs + y.natAbs)) := Bd.sgn (by unfold Bd at hxm hym; rw [Nat.pow_succ]; omega)
    have hb' := hb.rlen
    rw [sg_abs] at hb'
    refine (rnorm_fn _ false (lim_digs (by omega) _) (by omega)).call ?_
    rw [val_digs (by omega)]
    have e : x + y = sg (decide (x < 0)) (x.natAbs + y.natAbs) := by
      have := decide_eq_decide.1 hs
      unfold sg; by_cases h : x < 0 <;> simp [h] <;> omega
    rw [e] at hq
    simp (disch := first | assumption | (apply Ap.symm; assumption) | omega | decide | (simp only [Xd] <;> omega)) only [rs136, RefA, ↓Xa, Xb, Xc, ↓reduceIte, Nat.reduceLT, Nat.reduceEqDiff, Nat.reduceBEq, Nat.reduceLeDiff, Nat.reduceAdd, Nat.reduceMul]
    exact SetR.dropTo ((((Le.refl H).upd hp).upd hp2).upd hp3) (SetR.now hq)
  · have hsb : (decide (x < 0) == decide (y < 0)) = false := by simpa using hs
    have hs' : ¬ ((x < 0) ↔ (y < 0)) := fun h => hs (decide_eq_decide.2 h)
    simp (disch := first | assumption | (apply Ap.symm; assumption) | omega | decide | (simp only [Xd] <;> omega)) only [hsb, ↓Xa, Xb, Xc, ↓reduceIte, Nat.reduceLT, Nat.reduceEqDiff, Nat.reduceBEq, Nat.reduceLeDiff, Nat.reduceAdd, Nat.reduceMul]
    refine (size_fn _ _ tx ty (by omega) (by omega)).call ?_
    by_cases hc : x.natAbs < y.natAbs
    · have c3 : ∀ K, binW .geq (.int .i64 (cmpZ x.natAbs y.natAbs)) (.int .i64 ((0 : Nat) : Int)) K ↔ K (.bool false) := fun K => by
        simp [binW, binInt, cmpZ, hc]
      simp (disch := first | assumption | (apply Ap.symm; assumption) | omega | decide | (simp only [Xd] <;> omega)) only [c3, ↓Xa, Xb, Xc, ↓reduceIte, Nat.reduceLT, Nat.reduceEqDiff, Nat.reduceBEq, Nat.reduceLeDiff, Nat.reduceAdd, Nat.reduceMul]
      refine PFn.dcall (minus_fn y.natAbs x.natAbs ty tx (by omega) (by omega)) ?_
      simp (disch := first | assumption | (apply Ap.symm; assumption) | omega | decide | (simp only [Xd] <;> omega)) only [↓Xa, Xb, Xc, ↓reduceIte, Nat.reduceLT, Nat.reduceEqDiff, Nat.reduceBEq, Nat.reduceLeDiff, Nat.reduceAdd, Nat.reduceMul]
      have hle : (digs 65536 (y.natAbs - x.natAbs)).length ≤ (digs 65536 y.natAbs).length := digs_len (by omega) _ _ (by
        have := val_lt (lim_digs (B := 65536) (by omega) y.natAbs); rw [val_digs (by omega)] at this; omega)
      refine (rnorm_fn _ false (pad_lim (by omega)) (by rw [pad_len hle]; omega)).call ?_
      rw [pad_val (by omega)]
      have e : x + y = sg (decide (y < 0)) (y.natAbs - x.natAbs) := by
        unfold sg; by_cases h : y < 0 <;> simp [h] <;> omega
      rw [e] at hq
      simp (disch := first | assumption | (apply Ap.symm; assumption) | omega | decide | (simp only [Xd] <;> omega)) only [rs136, RefA, ↓Xa, Xb, Xc, ↓reduceIte, Nat.reduceLT, Nat.reduceEqDiff, Nat.reduceBEq, Nat.reduceLeDiff, Nat.reduceAdd, Nat.reduceMul]
      exact SetR.dropTo ((((Le.refl H).upd hp).upd hp2).upd hp3) (SetR.now hq)
    · have c3 : ∀ K, binW .geq (.int .i64 (cmpZ x.natAbs y.natAbs)) (.int .i64 ((0 : Nat) : Int)) K ↔ K (.bool true) := fun K => by
        have : (0 : Int) ≤ cmpZ x.natAbs y.natAbs := by unfold cmpZ; rw [if_neg hc]; split <;> omega
        simp [binW, binInt]; rw [decide_eq_true this]
      simp (disch := first | assumption | (apply Ap.symm; assumption) | omega | decide | (simp only [Xd] <;> omega)) only [c3, ↓Xa, Xb, Xc, ↓reduceIte, Nat.reduceLT, Nat.reduceEqDiff, Nat.reduceBEq, Nat.reduceLeDiff, Nat.reduceAdd, Nat.reduceMul]
      refine PFn.dcall (minus_fn x.natAbs y.natAbs tx ty (by omega) (by omega)) ?_
      simp (disch := first | assumption | (apply Ap.symm; assumption) | omega | decide | (simp only [Xd] <;> omega)) only [↓Xa, Xb, Xc, ↓reduceIte, Nat.reduceLT, Nat.reduceEqDiff, Nat.reduceBEq, Nat.reduceLeDiff, Nat.reduceAdd, Nat.reduceMul]
      have hle : (digs 65536 (x.natAbs - y.natAbs)).length ≤ (digs 65536 x.natAbs).length := digs_len (by omega) _ _ (by
        have := val_lt (lim_digs (B := 65536) (by omega) x.natAbs); rw [val_digs (by omega)] at this; omega)
      refine (rnorm_fn _ false (pad_lim (by omega)) (by rw [pad_len hle]; omega)).call ?_
      rw [pad_val (by omega)]
      have e : x + y = sg (decide (x < 0)) (x.natAbs - y.natAbs) := by
        unfold sg; by_cases h : x < 0 <;> simp [h] <;> omega
      rw [e] at hq
      simp (disch := first | assumption | (apply Ap.symm; assumption) | omega | decide | (simp only [Xd] <;> omega)) only [rs136, RefA, ↓Xa, Xb, Xc, ↓reduceIte, Nat.reduceLT, Nat.reduceEqDiff, Nat.reduceBEq, Nat.reduceLeDiff, Nat.reduceAdd, Nat.reduceMul]
      exact SetR.dropTo ((((Le.refl H).upd hp).upd hp2).upd hp3) (SetR.now hq)

theorem rmuli_fn {x y : Int} {k k' : Nat} (tx ty : Bool) (hx : Bd k x) (hk : k ≤ 274877906944) (hy : Bd k' y) (hk' : k' ≤ 274877906944) : PFn Tryd.prog 134 [RefA x tx, RefA y ty] (RefA (x * y) false) := by
  intro H Q hq
  have hl := hx.rlen
  have hl' := hy.rlen
  have vx0 := val_digs (B := 65536) (by omega) x.natAbs
  have vy0 := val_digs (B := 65536) (by omega) y.natAbs
  have lx := lim_digs (B := 65536) (by omega) x.natAbs
  have ly := lim_digs (B := 65536) (by omega) y.natAbs
  refine enter134 (by simp) ?_
  simp (disch := first | assumption | (apply Ap.symm; assumption) | omega | decide | (simp only [Xd] <;> omega)) only [ac134, RefA, ↓Xa, Xb, Xc, ↓reduceIte, Nat.reduceLT, Nat.reduceEqDiff, Nat.reduceBEq, Nat.reduceLeDiff, Nat.reduceAdd, Nat.reduceMul]
  refine alloc_i fun p hp => ?_
  simp (disch := first | assumption | (apply Ap.symm; assumption) | omega | decide | (simp only [Xd] <;> omega)) only [↓Xa, Xb, Xc, ↓reduceIte, Nat.reduceLT, Nat.reduceEqDiff, Nat.reduceBEq, Nat.reduceLeDiff, Nat.reduceAdd, Nat.reduceMul]
  refine alloc_i fun p2 hp2 => ?_
  simp (disch := first | assumption | (apply Ap.symm; assumption) | omega | decide | (simp only [Xd] <;> omega)) only [↓Xa, Xb, Xc, ↓reduceIte, Nat.reduceLT, Nat.reduceEqDiff, Nat.reduceBEq, Nat.reduceLeDiff, Nat.reduceAdd, Nat.reduceMul]
  refine alloc_i fun p3 hp3 => ?_
  have hne := (upd_none.1 hp2).1
  have hne3 := (upd_none.1 hp3).1
  have hne4 := (upd_none.1 (upd_none.1 hp3).2).1
  simp (disch := first | assumption | (apply Ap.symm; assumption) | omega | decide | (simp only [Xd] <;> omega)) only [↓Xa, Xb, Xc, ↓reduceIte, Nat.reduceLT, Nat.reduceEqDiff, Nat.reduceBEq, Nat.reduceLeDiff, Nat.reduceAdd, Nat.reduceMul]
  refine newU_i fun o ho => ?_
  have n1 := (upd_none.1 ho).1
  have n2 := (upd_none.1 (upd_none.1 ho).2).1
  have n3 := (upd_none.1 (upd_none.1 (upd_none.1 ho).2).2).1
  simp (disch := first | assumption | (apply Ap.symm; assumption) | omega | decide | (simp only [Xd] <;> omega)) only [↓Xa, Xb, Xc, ↓reduceIte, Nat.reduceLT, Nat.reduceEqDiff, Nat.reduceBEq, Nat.reduceLeDiff, Nat.reduceAdd, Nat.reduceMul]
  generalize hX : digs 65536 x.natAbs = X at *
  generalize hY : digs 65536 y.natAbs = Y at *
  refine W_loop (fun s : Nat × List Nat => ⟨[], [(2, .ptr p 2 0), (3, .ptr p2 2 0), (4, .ptr p3 2 0), (5, .own o (X.length + Y.length + 1) 0 (X.length + Y.length + 1) true), (6, .int .i64 s.1)],
      (((H.upd p (some (.row 39 0 [.bool (decide (x < 0)), LS X tx]))).upd p2 (some (.row 39 0 [.bool (decide (y < 0)), LS Y ty]))).upd p3 (some (.row 39 0 [.bool false, .seq 0 [] true]))).upd o (some (.row 172 1 (U s.2)))⟩)
    (fun s => s.1 ≤ X.length ∧ MulJ X Y s.1 s.2) (fun s => X.length - s.1) (0, List.replicate (X.length + Y.length + 1) 0) (Settle.now rfl) ⟨by simp, MulJ.zero X Y⟩ ?_
  rintro ⟨i, out⟩ ⟨h1, h2⟩
  dsimp only at h1 h2 ⊢
  have hol := h2.1
  by_cases hi : i < X.length
  · simp (disch := first | assumption | (apply Ap.symm; assumption) | omega | decide | (simp only [Xd] <;> omega)) only [hi, ↓Xa, Xb, Xc, ↓reduceIte, Nat.reduceLT, Nat.reduceEqDiff, Nat.reduceBEq, Nat.reduceLeDiff, Nat.reduceAdd, Nat.reduceMul]
    refine W_loop (fun s : Nat × Nat × List Nat => ⟨[], [(2, .ptr p 2 0), (3, .ptr p2 2 0), (4, .ptr p3 2 0), (5, .own o (X.length + Y.length + 1) 0 (X.length + Y.length + 1) true), (6, .int .i64 i), (7, .int .u64 s.2.1), (8, .int .i64 s.1)],
      (((H.upd p (some (.row 39 0 [.bool (decide (x < 0)), LS X tx]))).upd p2 (some (.row 39 0 [.bool (decide (y < 0)), LS Y ty]))).upd p3 (some (.row 39 0 [.bool false, .seq 0 [] true]))).upd o (some (.row 172 1 (U s.2.2)))⟩)
      (fun s => (s.1 ≤ Y.length ∧ MulH X Y i s.1 s.2.1 s.2.2) ∨ (s.1 = Y.length + 1 ∧ s.2.1 = 0 ∧ MulJ X Y (i + 1) s.2.2)) (fun s => Y.length + 1 - s.1) (0, 0, out) (Settle.now rfl) (.inl ⟨by simp, MulH.start h2⟩) ?_
    rintro ⟨j, c, out⟩ hinv
    dsimp only at hinv ⊢
    have fin : c = 0 → Y.length ≤ j → MulJ X Y (i + 1) out := by
      intro hc hj
      rcases hinv with ⟨g1, g2⟩ | ⟨g1, g2, g3⟩
      · obtain rfl : j = Y.length := by omega
        subst hc
        have := g2.end hi
        have e : out.set (i + Y.length) 0 = out := by
          have hz := g2.2.2.2.2 (i + Y.length) (Nat.le_refl _)
          have hlt : i + Y.length < out.length := by rw [g2.1]; omega
          rw [List.getD_eq_getElem?_getD, List.getElem?_eq_getElem hlt, Option.getD_some] at hz
          rw [← hz]; exact List.set_getElem_self hlt
        rwa [e] at this
      · exact g3
    by_cases hj : j < Y.length
    · rcases hinv with ⟨g1, g2⟩ | ⟨g1, g2, g3⟩
      · have gol := g2.1
        have gc := g2.2.2.1
        have ax := lx.getD (by omega) i
        have ay := ly.getD (by omega) j
        have ao := g2.2.1.getD (by omega) (i + j)
        have hm : X.getD i 0 * Y.getD j 0 ≤ 65535 * 65535 := Nat.mul_le_mul (by omega) (by omega)
        have es : c + out.getD (i + j) 0 + X.getD i 0 * Y.getD j 0 = c + (X.getD i 0 * Y.getD j 0 + out.getD (i + j) 0) := by omega
        have em : ((c + (X.getD i 0 * Y.getD j 0 + out.getD (i + j) 0)) % 65536) < 4294967296 := by omega
        simp (disch := first | assumption | (apply Ap.symm; assumption) | omega | decide | (simp only [Xd] <;> omega)) only [hj, es, ne_eq, Nat.reduceEqDiff, ↓Xa, Xb, Xc, ↓reduceIte, Nat.reduceLT, Nat.reduceEqDiff, Nat.reduceBEq, Nat.reduceLeDiff, Nat.reduceAdd, Nat.reduceMul]
        refine Settle.now ⟨(j + 1, _, _), by dsimp only; omega, .inl ⟨by dsimp only; omega, g2.step hi hj lx ly rfl⟩, rfl⟩
      · omega
    · by_cases hc : 0 < c
      · rcases hinv with ⟨g1, g2⟩ | ⟨g1, g2, g3⟩
        · obtain rfl : j = Y.length := by omega
          have gol := g2.1
          have gc := g2.2.2.1
          have ao := g2.2.2.2.2 (i + Y.length) (Nat.le_refl _)
          have em : c % 65536 = c := by omega
          have ed : c / 65536 = 0 := by omega
          simp (disch := first | assumption | (apply Ap.symm; assumption) | omega | decide | (simp only [Xd] <;> omega)) only [hj, hc, ao, em, ed, ne_eq, Nat.reduceEqDiff, ↓Xa, Xb, Xc, ↓reduceIte, Nat.reduceLT, Nat.reduceEqDiff, Nat.reduceBEq, Nat.reduceLeDiff, Nat.reduceAdd, Nat.reduceMul]
          refine Settle.now ⟨(Y.length + 1, 0, _), by dsimp only; omega, .inr ⟨rfl, rfl, g2.end hi⟩, rfl⟩
        · omega
      · obtain rfl : c = 0 := by omega
        simp (disch := first | assumption | (apply Ap.symm; assumption) | omega | decide | (simp only [Xd] <;> omega)) only [hj, hc, ↓Xa, Xb, Xc, ↓reduceIte, Nat.reduceLT, Nat.reduceEqDiff, Nat.reduceBEq, Nat.reduceLeDiff, Nat.reduceAdd, Nat.reduceMul]
        refine Settle.now ?_
        simp (disch := first | assumption | (apply Ap.symm; assumption) | omega | decide | (simp only [Xd] <;> omega)) only [↓Xa, Xb, Xc, ↓reduceIte, Nat.reduceLT, Nat.reduceEqDiff, Nat.reduceBEq, Nat.reduceLeDiff, Nat.reduceAdd, Nat.reduceMul]
        exact Settle.now ⟨(i + 1, out), by dsimp only; omega, ⟨by dsimp only; omega, fin rfl (by omega)⟩, rfl⟩
  · obtain rfl : i = X.length := by omega
    simp (disch := first | assumption | (apply Ap.symm; assumption) | omega | decide | (simp only [Xd] <;> omega)) only [hi, ↓Xa, Xb, Xc, ↓reduceIte, Nat.reduceLT, Nat.reduceEqDiff, Nat.reduceBEq, Nat.reduceLeDiff, Nat.reduceAdd, Nat.reduceMul]
    refine Settle.freeze 5 rfl (upd_same _ _ _) (by simp [hol]) (.inr (by simp)) ?_
    have e1 : AV.seq (X.length + Y.length + 1) (((U out).drop 0).take ((X.length + Y.length + 1) * 1)) true = LS out true := by
      rw [List.drop_zero, Nat.mul_one, ← hol, List.take_of_length_le (by simp)]; rfl
    rw [e1, upd_upd, upd_back _ ho]
    refine Settle.now ?_
    simp (disch := first | assumption | (apply Ap.symm; assumption) | omega | decide | (simp only [Xd] <;> omega)) only [↓Xa, Xb, Xc, ↓reduceIte, Nat.reduceLT, Nat.reduceEqDiff, Nat.reduceBEq, Nat.reduceLeDiff, Nat.reduceAdd, Nat.reduceMul]
    refine (rnorm_fn _ true h2.2.1 (by omega)).call ?_
    have e2 : sg (!(decide (x < 0) == decide (y < 0))) (val 65536 out) = x * y := by
      rw [h2.2.2.1, val_take_all _ _ _ (Nat.le_refl _), vx0, vy0, ← Int.natAbs_mul]
      unfold sg
      by_cases h : x < 0 <;> by_cases h' : y < 0 <;> simp [h, h']
      · rw [abs_nn (Int.mul_nonneg_of_nonpos_of_nonpos (by omega) (by omega))]
      · rw [abs_np (Int.mul_nonpos_of_nonpos_of_nonneg (by omega) (by omega))]
      · rw [abs_np (Int.mul_nonpos_of_nonneg_of_nonpos (by omega) (by omega))]
      · rw [abs_nn (Int.mul_nonneg (by omega) (by omega))]
    rw [e2]
    simp (disch := first | assumption | (apply Ap.symm; assumption) | omega | decide | (simp only [Xd] <;> omega)) only [rs134, RefA, ↓Xa, Xb, Xc, ↓reduceIte, Nat.reduceLT, Nat.reduceEqDiff, Nat.reduceBEq, Nat.reduceLeDiff, Nat.reduceAdd, Nat.reduceMul]
    exact SetR.dropTo ((((Le.refl H).upd hp).upd hp2).updB (upd_none.1 (upd_none.1 hp3).2).2) (SetR.now hq)
end Go.Proofs.YtanchgkiomfhhaaDoor.Fw

/- The laws' own helpers: one number in both, numbers that are too long, one answer that is fixed. -/
namespace Go.Proofs.YtanchgkiomfhhaaDoor.Fw
set_option linter.unusedSimpArgs false
set_option linter.unusedVariables false
open Go Go.Proofs.YtanchgkiomfhhaaDoor.Ma
set_option maxRecDepth 20000

def NumA (q : Bool × List Nat × Bool) : AV := .agg [.bool q.1, LS q.2.1 q.2.2]
def NumC : List (Bool × List Nat × Bool) → List AV
  | [] => []
  | q :: r => .bool q.1 :: LS q.2.1 q.2.2 :: NumC r
def fits (x : Int) : Bool := decide (-9223372036854775808 ≤ x ∧ x < 9223372036854775808)
def smallV (x : Int) : Int := if fits x then x else ((0 : Nat) : Int)
end Go.Proofs.YtanchgkiomfhhaaDoor.Fw

/- The law of sums, as what its code computes: true. -/
namespace Go.Proofs.YtanchgkiomfhhaaDoor.Fw
set_option linter.unusedSimpArgs false
set_option linter.unusedVariables false
open Go Go.Proofs.YtanchgkiomfhhaaDoor.Ma
set_option maxRecDepth 20000

theorem rep24 {x y : AV} : repA [x, y] 4 = [x, y, x, y] := by simp [repA, List.range_succ]
theorem eql_self {k : IntKind} {n : Int} {K : AV → Prop} : binW .eql (.int k n) (.int k n) K ↔ K (.bool true) := by simp [binW, binInt]

end Go.Proofs.YtanchgkiomfhhaaDoor.Fw

/- Sums and products of rows of whole numbers. -/
namespace Go.Proofs.YtanchgkiomfhhaaDoor.Fw
set_option linter.unusedSimpArgs false
set_option linter.unusedVariables false
open Go Go.Proofs.YtanchgkiomfhhaaDoor.Ma
set_option maxRecDepth 20000

def IntC : List Int → List AV
  | [] => []
  | z :: r => .bool (decide (z < 0)) :: LS (digs 4294967296 z.natAbs) true :: IntC r
theorem IntC_len : ∀ l, (IntC l).length = l.length * 2
  | [] => rfl
  | q :: r => by simp [IntC, IntC_len r]; omega
theorem IntC_drop : ∀ (l : List Int) (i : Nat) (h : i < l.length), ((IntC l).drop (i * 2)).take 2 = [.bool (decide (l[i] < 0)), LS (digs 4294967296 (l[i]).natAbs) true]
  | q :: r, 0, _ => by simp [IntC]
  | q :: r, i + 1, h => by
    have := IntC_drop r i (by simpa using h)
    rw [show (i + 1) * 2 = i * 2 + 1 + 1 by omega]
    simpa [IntC] using this
section
variable {l : List Int} {t : Bool} {H : AHeap} {K : AV → Prop}
theorem len_IntC (h : l.length < 2 ^ 63) : lenW false (.seq l.length (IntC l) t) K = K (.int .i64 ((l.length : Nat) : Int)) := by simp [lenW, h]
theorem idx_IntC {i : Nat} (h : i < l.length) : idxAW 2 (.seq l.length (IntC l) t) (.int .i64 (i : Int)) K = K (.cptr ((IntC l).drop (i * 2))) := by simp [idxAW, IntC_len, h]
theorem load_IntC {i : Nat} (h : i < l.length) : loadW H (some 2) (.cptr ((IntC l).drop (i * 2))) K = K (IntA (l[i])) := by
  have : 2 ≤ (IntC l).length - i * 2 := by rw [IntC_len]; omega
  simp [loadW, cellsAt, IntC_drop l i h, IntA, this]
end
theorem sumi_fn (l : List Int) (t : Bool) {k : Nat} (hl : l.length < 1000000) (hb : ∀ z, z ∈ l → Bd k z) (hk : k ≤ 274877906944) : PFn Tryd.prog 143 [.seq l.length (IntC l) t] (IntA (l.foldl (· + ·) 0)) := by
  intro H Q hq
  refine enter143 (by simp) ?_
  simp (disch := first | assumption | (apply Ap.symm; assumption) | omega | decide | (simp only [Xd] <;> omega)) only [ac143, ↓Xa, Xb, Xc, ↓reduceIte, Nat.reduceLT, Nat.reduceEqDiff, Nat.reduceBEq, Nat.reduceLeDiff, Nat.reduceAdd, Nat.reduceMul]
  refine alloc_i fun p hp => ?_
  simp (disch := first | assumption | (apply Ap.symm; assumption) | omega | decide | (simp only [Xd] <;> omega)) only [↓Xa, Xb, Xc, ↓reduceIte, Nat.reduceLT, Nat.reduceEqDiff, Nat.reduceBEq, Nat.reduceLeDiff, Nat.reduceAdd, Nat.reduceMul]
  refine alloc_i fun p2 hp2 => ?_
  have hne := (upd_none.1 hp2).1
  have n2 := (upd_none.1 hp2).2
  simp (disch := first | assumption | (apply Ap.symm; assumption) | omega | decide | (simp only [Xd] <;> omega)) only [len_IntC, ↓Xa, Xb, Xc, ↓reduceIte, Nat.reduceLT, Nat.reduceEqDiff, Nat.reduceBEq, Nat.reduceLeDiff, Nat.reduceAdd, Nat.reduceMul]
  refine W_loop (fun s : Nat × Int => ⟨[], [(2, .ptr p 2 0), (3, .ptr p2 2 0), (6, .seq l.length (IntC l) t), (7, .int .i64 l.length), (8, .int .i64 s.1)],
      (H.upd p (some (.row 28 0 [.bool false, .seq 0 [] true]))).upd p2 (some (.row 28 0 [.bool (decide (s.2 < 0)), LS (digs 4294967296 s.2.natAbs) true]))⟩)
    (fun s => s.1 ≤ l.length ∧ s.2 = (l.take s.1).foldl (· + ·) 0 ∧ Bd (k + s.1) s.2) (fun s => l.length - s.1) (0, 0) (Settle.now (by simp [digs_zero, LS, U])) ⟨by simp, by simp, Bd.zero _⟩ ?_
  rintro ⟨i, s⟩ ⟨h1, h2, h3⟩
  dsimp only at h1 h2 h3 ⊢
  by_cases hi : i < l.length
  · simp (disch := first | assumption | (apply Ap.symm; assumption) | omega | decide | (simp only [Xd] <;> omega)) only [hi, idx_IntC, load_IntC, ↓Xa, Xb, Xc, ↓reduceIte, Nat.reduceLT, Nat.reduceEqDiff, Nat.reduceBEq, Nat.reduceLeDiff, Nat.reduceAdd, Nat.reduceMul]
    refine alloc_i fun p3 hp3 => ?_
    have n3 := hp3
    simp only [upd_none] at n3
    obtain ⟨n31, n32, n33⟩ := n3
    have hz := hb _ (List.getElem_mem hi)
    simp (disch := first | assumption | (apply Ap.symm; assumption) | omega | decide | (simp only [Xd] <;> omega)) only [IntA, ↓Xa, Xb, Xc, ↓reduceIte, Nat.reduceLT, Nat.reduceEqDiff, Nat.reduceBEq, Nat.reduceLeDiff, Nat.reduceAdd, Nat.reduceMul]
    refine (addi_fn h3 (by omega) hz (by omega)).call ?_
    simp (disch := first | assumption | (apply Ap.symm; assumption) | omega | decide | (simp only [Xd] <;> omega)) only [IntA, ↓Xa, Xb, Xc, ↓reduceIte, Nat.reduceLT, Nat.reduceEqDiff, Nat.reduceBEq, Nat.reduceLeDiff, Nat.reduceAdd, Nat.reduceMul]
    refine Settle.dropTo (Le.updB (Le.refl _) (upd_none.2 ⟨n31, upd_none.2 ⟨n32, n33⟩⟩)) ?_
    refine Settle.now ⟨(i + 1, s + l[i]), by dsimp only; omega, ⟨by dsimp only; omega, ?_, ?_⟩, rfl⟩
    · dsimp only
      rw [List.take_add_one, List.getElem?_eq_getElem hi, List.foldl_append, ← h2]; rfl
    · exact (h3.add (hz.mono (by omega))).mono (by dsimp only; omega)
  · simp (disch := first | assumption | (apply Ap.symm; assumption) | omega | decide | (simp only [Xd] <;> omega)) only [hi, ↓Xa, Xb, Xc, ↓reduceIte, Nat.reduceLT, Nat.reduceEqDiff, Nat.reduceBEq, Nat.reduceLeDiff, Nat.reduceAdd, Nat.reduceMul]
    refine Settle.now ?_
    have e : s = l.foldl (· + ·) 0 := by rw [h2, List.take_of_length_le (by omega)]
    simp (disch := first | assumption | (apply Ap.symm; assumption) | omega | decide | (simp only [Xd] <;> omega)) only [rs143, ↓Xa, Xb, Xc, ↓reduceIte, Nat.reduceLT, Nat.reduceEqDiff, Nat.reduceBEq, Nat.reduceLeDiff, Nat.reduceAdd, Nat.reduceMul]
    subst e
    exact SetR.dropTo (((Le.refl H).updB hp).updB n2) (SetR.now hq)

end Go.Proofs.YtanchgkiomfhhaaDoor.Fw

/- The ring's law, as what its code computes: true. -/
namespace Go.Proofs.YtanchgkiomfhhaaDoor.Fw
set_option linter.unusedSimpArgs false
set_option linter.unusedVariables false
open Go Go.Proofs.YtanchgkiomfhhaaDoor.Ma
set_option maxRecDepth 20000

end Go.Proofs.YtanchgkiomfhhaaDoor.Fw

/- Binary digits; powers. -/
namespace Go.Proofs.YtanchgkiomfhhaaDoor.Fw
set_option linter.unusedSimpArgs false
set_option linter.unusedVariables false
open Go Go.Proofs.YtanchgkiomfhhaaDoor.Ma
set_option maxRecDepth 20000

end Go.Proofs.YtanchgkiomfhhaaDoor.Fw

/- Powers, as the program and the reference have them. -/
namespace Go.Proofs.YtanchgkiomfhhaaDoor.Fw
set_option linter.unusedSimpArgs false
set_option linter.unusedVariables false
open Go Go.Proofs.YtanchgkiomfhhaaDoor.Ma
set_option maxRecDepth 20000

end Go.Proofs.YtanchgkiomfhhaaDoor.Fw

/- The law of powers, as what its code computes: true. -/
namespace Go.Proofs.YtanchgkiomfhhaaDoor.Fw
set_option linter.unusedSimpArgs false
set_option linter.unusedVariables false
open Go Go.Proofs.YtanchgkiomfhhaaDoor.Ma
set_option maxRecDepth 20000

def RefB (z : Int) : AV := .bool (decide (z < 0))
def RefD (z : Int) : AV := LS (digs 65536 z.natAbs) false
theorem cells_RefA {z : Int} : (RefA z false).cells = some [RefB z, RefD z] := id rfl
theorem fold_RefA {z : Int} : AV.agg [RefB z, RefD z] = RefA z false := id rfl

theorem Bd.blen {z : Int} {k : Nat} (h : Bd k z) : Ma.blen z.natAbs ≤ 32 * k := by rw [blen_le, Nat.pow_mul]; exact h
end Go.Proofs.YtanchgkiomfhhaaDoor.Fw

/- Quotients and remainders of whole numbers, as the program has them. -/
namespace Go.Proofs.YtanchgkiomfhhaaDoor.Fw
set_option linter.unusedSimpArgs false
set_option linter.unusedVariables false
open Go Go.Proofs.YtanchgkiomfhhaaDoor.Ma
set_option maxRecDepth 20000

end Go.Proofs.YtanchgkiomfhhaaDoor.Fw

/- What the reference computes on rows of one's own: comparing, taking away, striking high noughts. -/
namespace Go.Proofs.YtanchgkiomfhhaaDoor.Fw
set_option linter.unusedSimpArgs false
set_option linter.unusedVariables false
open Go Go.Proofs.YtanchgkiomfhhaaDoor.Ma
set_option maxRecDepth 20000

end Go.Proofs.YtanchgkiomfhhaaDoor.Fw

/- The reference's division: a bit of a number; division by one digit. -/
namespace Go.Proofs.YtanchgkiomfhhaaDoor.Fw
set_option linter.unusedSimpArgs false
set_option linter.unusedVariables false
open Go Go.Proofs.YtanchgkiomfhhaaDoor.Ma
set_option maxRecDepth 20000

end Go.Proofs.YtanchgkiomfhhaaDoor.Fw

/- The reference's division, bit by bit. -/
namespace Go.Proofs.YtanchgkiomfhhaaDoor.Fw
set_option linter.unusedSimpArgs false
set_option linter.unusedVariables false
open Go Go.Proofs.YtanchgkiomfhhaaDoor.Ma
set_option maxRecDepth 20000

structure LongK (A V M : Nat) (ql : List Nat) : Prop where
  hM : M ≤ blen A
  qlen : ql.length = (digs 65536 A).length
  qlim : Lim 65536 ql
  qval : val 65536 ql = A / 2 ^ M / V * 2 ^ M

end Go.Proofs.YtanchgkiomfhhaaDoor.Fw

/- Quotients and remainders of whole numbers, as the reference has them. -/
namespace Go.Proofs.YtanchgkiomfhhaaDoor.Fw
set_option linter.unusedSimpArgs false
set_option linter.unusedVariables false
open Go Go.Proofs.YtanchgkiomfhhaaDoor.Ma
set_option maxRecDepth 20000

end Go.Proofs.YtanchgkiomfhhaaDoor.Fw

/- The law of quotients, as what its code computes: true. -/
namespace Go.Proofs.YtanchgkiomfhhaaDoor.Fw
set_option linter.unusedSimpArgs false
set_option linter.unusedVariables false
open Go Go.Proofs.YtanchgkiomfhhaaDoor.Ma
set_option maxRecDepth 20000

end Go.Proofs.YtanchgkiomfhhaaDoor.Fw

/- The greatest common divisor, as the reference and as the program have it. -/
namespace Go.Proofs.YtanchgkiomfhhaaDoor.Fw
set_option linter.unusedSimpArgs false
set_option linter.unusedVariables false
open Go Go.Proofs.YtanchgkiomfhhaaDoor.Ma
set_option maxRecDepth 20000

end Go.Proofs.YtanchgkiomfhhaaDoor.Fw

/- How the greatest common divisor is put together, as the program finds it. -/
namespace Go.Proofs.YtanchgkiomfhhaaDoor.Fw
set_option linter.unusedSimpArgs false
set_option linter.unusedVariables false
open Go Go.Proofs.YtanchgkiomfhhaaDoor.Ma
set_option maxRecDepth 20000

theorem Bd.le {x y : Int} {k : Nat} (h : Bd k y) (hl : x.natAbs ≤ y.natAbs) : Bd k x := Nat.lt_of_le_of_lt hl h
theorem Bd.ediv {x y : Int} {k : Nat} (h : Bd k x) : Bd k (x / y) := h.le (Int.natAbs_ediv_le_natAbs x y)
end Go.Proofs.YtanchgkiomfhhaaDoor.Fw

/- The law of the greatest common divisor, as what its code computes: true. -/
namespace Go.Proofs.YtanchgkiomfhhaaDoor.Fw
set_option linter.unusedSimpArgs false
set_option linter.unusedVariables false
open Go Go.Proofs.YtanchgkiomfhhaaDoor.Ma
set_option maxRecDepth 20000

def BezF (x y u v : Int) : Prop := u * x + v * y = (Int.gcd x y : Int) ∧ (y = 0 → u = sgnI x ∧ v = 0) ∧ (y ≠ 0 → 0 ≤ u ∧ u < (y.natAbs : Int) / (Int.gcd x y : Int))
theorem cmp_eql0 {x y : Int} {K : AV → Prop} : binW .eql (.int .i64 (cmpI x y)) (.int .i64 ((0 : Nat) : Int)) K ↔ K (.bool (decide (x = y))) := by
  have : (cmpI x y = ((0 : Nat) : Int)) ↔ x = y := by unfold cmpI; (repeat' split) <;> omega
  simp only [binW, binInt, true_and, this]
end Go.Proofs.YtanchgkiomfhhaaDoor.Fw

/- Rows of whole numbers: frozen or owned, read alike. -/
namespace Go.Proofs.YtanchgkiomfhhaaDoor.Fw
set_option linter.unusedSimpArgs false
set_option linter.unusedVariables false
open Go Go.Proofs.YtanchgkiomfhhaaDoor.Ma
set_option maxRecDepth 20000

def IC (zs : List Int) : List AV := zs.flatMap fun z => [IntB z, IntD z]
theorem IC_len (zs : List Int) : (IC zs).length = zs.length * 2 := by
  induction zs with
  | nil => rfl
  | cons a l ih => simp only [IC, List.flatMap_cons, List.length_append, List.length_cons, List.length_nil] at *; omega
theorem IC_snoc (zs : List Int) (z : Int) : IC (zs ++ [z]) = IC zs ++ [IntB z, IntD z] := by simp [IC, List.flatMap_append]
theorem IC_drop : ∀ (l : List Int) (i : Nat) (h : i < l.length), (IC l).drop (i * 2) = IntB (l[i]) :: IntD (l[i]) :: (IC l).drop (i * 2 + 2)
  | a :: l, 0, _ => rfl
  | a :: l, i + 1, h => by
    have := IC_drop l i (by simpa using h)
    rw [show (i + 1) * 2 = i * 2 + 2 by omega]
    show ((IntB a :: IntD a :: IC l).drop (i * 2 + 2)) = _
    simp only [List.drop_succ_cons, List.getElem_cons_succ]
    rw [this]
    show _ = _ :: _ :: ((IntB a :: IntD a :: IC l).drop (i * 2 + 2 + 2))
    simp only [List.drop_succ_cons]
def RowI (H : AHeap) (x : AV) (zs : List Int) : Prop :=
  (∃ t, x = .seq zs.length (IC zs) t) ∨ ∃ b ty t, x = .own b (zs.length * 2) 0 zs.length t ∧ H b = some (.row ty 2 (IC zs))
theorem RowI.le {H H' : AHeap} {x : AV} {zs : List Int} (h : RowI H x zs) (hl : Le H H') : RowI H' x zs := by
  rcases h with h | ⟨b, ty, t, e, hb⟩
  · exact .inl h
  · exact .inr ⟨b, ty, t, e, hl b _ hb⟩
theorem RowI.nil {H : AHeap} : RowI H (.seq 0 [] true) [] := .inl ⟨true, rfl⟩
theorem RowI.grown {H0 H : AHeap} {ty : TypeId} {x : AV} {zs : List Int} (h : growC H0 ty 2 zs.length (IC zs) x H) : RowI H x zs := by
  rcases h with ⟨h1, h2, rfl, rfl⟩ | ⟨h1, h2, b, hb, rfl, rfl⟩
  · have : zs = [] := List.length_eq_zero_iff.1 h1
    subst this; exact RowI.nil
  · exact .inr ⟨b, ty, false, rfl, upd_same _ _ _⟩
theorem RowI.len {H : AHeap} {x : AV} {zs : List Int} (h : RowI H x zs) (hn : zs.length < 9223372036854775808) {K : AV → Prop} : lenW false x K = K (.int .i64 ((zs.length : Nat) : Int)) := by
  rcases h with ⟨t, rfl⟩ | ⟨b, ty, t, rfl, hb⟩ <;> simp [lenW, hn]
theorem RowI.get {H : AHeap} {x : AV} {zs : List Int} (h : RowI H x zs) {i : Nat} (hi : i < zs.length) : ∃ p, (∀ {k : IntKind} {K : AV → Prop}, (liveS H x ∧ idxAW 2 x (.int k (i : Int)) K) ↔ K p) ∧ ∀ {K : AV → Prop}, loadW H (some 2) p K ↔ K (IntA (zs[i])) := by
  rcases h with ⟨t, rfl⟩ | ⟨b, ty, t, rfl, hb⟩
  · refine ⟨.cptr ((IC zs).drop (i * 2)), fun {k K} => ?_, fun {K} => ?_⟩
    · simp [liveS, idxAW, IC_len, hi]
    · simp only [loadW, cellsAt, IC_drop zs i hi]; simp [IntA_eq]
  · have hl := IC_len zs
    refine ⟨.ptr b (zs.length * 2) (i * 2), fun {k K} => ?_, fun {K} => ?_⟩
    · simp [liveS, idxAW, hb, hl, hi]
    · simp only [loadW, cellsAt, hb, IC_drop zs i hi]
      simp [IntA_eq, hl]
      omega
end Go.Proofs.YtanchgkiomfhhaaDoor.Fw

/- Rows of whole numbers: plain laws. -/
namespace Go.Proofs.YtanchgkiomfhhaaDoor.Fw
set_option linter.unusedSimpArgs false
set_option linter.unusedVariables false
open Go Go.Proofs.YtanchgkiomfhhaaDoor.Ma

def cmpL : List Int → List Int → Int
  | x :: xs, y :: ys => if cmpI x y = 0 then cmpL xs ys else cmpI x y
  | _, _ => 0
def cmpR (zs ws : List Int) : Int := if zs.length < ws.length then -1 else if ws.length < zs.length then ((1 : Nat) : Int) else cmpL zs ws
def widS (w x : Int) : Int := if w < (x.natAbs : Int) then (x.natAbs : Int) else w
def widF (w : Int) (zs : List Int) : Int := zs.foldl widS w
theorem Bd.widS {k : Nat} {w x : Int} (hw : Bd k w) (hx : Bd k x) : Bd k (widS w x) := by
  unfold Fw.widS
  split
  · exact hx.abs
  · exact hw
theorem Bd.widF {k : Nat} : ∀ {zs : List Int} {w : Int}, Bd k w → (∀ z, z ∈ zs → Bd k z) → Bd k (widF w zs)
  | [], _, h, _ => h
  | z :: zs, w, h, h2 => Bd.widF (zs := zs) (h.widS (h2 z (by simp))) fun y hy => h2 y (by simp [hy])
def gcdF (g : Nat) (zs : List Int) : Nat := zs.foldl (fun g x => Int.gcd (g : Int) x) g
def contN (zs : List Int) : Nat := gcdF 0 zs
theorem Bd.gcdF {k : Nat} : ∀ {zs : List Int} {g : Nat}, Bd k (g : Int) → (∀ z, z ∈ zs → Bd k z) → Bd k ((gcdF g zs : Nat) : Int)
  | [], _, h, _ => h
  | z :: zs, g, h, h2 => by
    refine Bd.gcdF (zs := zs) (g := Int.gcd (g : Int) z) ?_ fun y hy => h2 y (by simp [hy])
    have hz := h2 z (by simp)
    unfold Bd at *
    by_cases hg : g = 0
    · subst hg
      rw [show Int.gcd ((0 : Nat) : Int) z = z.natAbs by simp [Int.gcd]]
      simpa using hz
    · have : Int.gcd (g : Int) z ≤ g := Nat.le_of_dvd (by omega) (Int.ofNat_dvd.1 (Int.gcd_dvd_left (g : Int) z))
      simp only [Int.natAbs_natCast] at h ⊢
      omega
def primG (zs : List Int) : Int := match zs.find? (fun z => decide (z ≠ 0)) with
  | some z => if z < 0 then -((contN zs : Nat) : Int) else ((contN zs : Nat) : Int)
  | none => 0
def primR (zs : List Int) : List Int := zs.map (· / primG zs)
def zipI (f : Int → Int → Int) (zs ws : List Int) : List Int := List.zipWith f zs ws
def dotF (s : Int) (zs ws : List Int) : Int := (zipI (· * ·) zs ws).foldl (· + ·) s
end Go.Proofs.YtanchgkiomfhhaaDoor.Fw

/- Rows of whole numbers: what package row's functions answer. -/
namespace Go.Proofs.YtanchgkiomfhhaaDoor.Fw
set_option linter.unusedSimpArgs false
set_option linter.unusedVariables false
open Go Go.Proofs.YtanchgkiomfhhaaDoor.Ma
set_option maxRecDepth 20000

end Go.Proofs.YtanchgkiomfhhaaDoor.Fw

/- Decimal digits as bytes; a number's text, nine digits at a time. -/
namespace Go.Proofs.YtanchgkiomfhhaaDoor.Ma
set_option linter.unusedSimpArgs false
set_option linter.unusedVariables false

def chr (d : Nat) : UInt8 := UInt8.ofNat (48 + d)
theorem chr_nat {d : Nat} (h : d < 10) : (chr d).toNat = 48 + d := by unfold chr; rw [UInt8.toNat_ofNat']; omega
def dec (n : Nat) : List UInt8 := (digs 10 n).reverse.map chr
def wide (k n : Nat) : List UInt8 := (pad 10 n k).reverse.map chr
theorem dec_zero : dec 0 = [] := by simp [dec, digs_zero]
theorem wide_len {k n : Nat} (h : n < 10 ^ k) : (wide k n).length = k := by
  simp only [wide, List.length_map, List.length_reverse]
  exact pad_len (digs_len (by omega) k n h)
theorem dec_len {k n : Nat} (h : n < 10 ^ k) : (dec n).length ≤ k := by
  simp only [dec, List.length_map, List.length_reverse]
  exact digs_len (by omega) k n h
theorem last_append {l m : List Nat} (h : m ≠ []) : (l ++ m).getD ((l ++ m).length - 1) 0 = m.getD (m.length - 1) 0 := by
  have : 0 < m.length := List.length_pos_iff.2 h
  rw [List.getD_eq_getElem?_getD, List.getD_eq_getElem?_getD, List.length_append, List.getElem?_append_right (by omega)]
  congr 2; omega
theorem dec_app {k p m : Nat} (hp : p < 10 ^ k) (hm : 0 < m) : dec (p + 10 ^ k * m) = dec m ++ wide k p := by
  have hne : digs 10 m ≠ [] := fun e => by have := (digs_nil (B := 10) (by omega)).1 e; omega
  have hlen := pad_len (digs_len (B := 10) (by omega) k p hp)
  have e : digs 10 (p + 10 ^ k * m) = pad 10 p k ++ digs 10 m := by
    have h1 : Lim 10 (pad 10 p k ++ digs 10 m) := (pad_lim (by omega)).append (lim_digs (by omega) m)
    have h2 := digs_of (B := 10) (by omega) h1 (.inr (by rw [last_append hne]; exact digs_last (by omega) hm))
    rw [h2, val_append, pad_val (by omega), val_digs (by omega), hlen]
  simp only [dec, e, wide, List.reverse_append, List.map_append]
theorem wide_succ {j q : Nat} (h : q < 10 ^ (j + 1)) : wide (j + 1) q = chr (q / 10 ^ j) :: wide j (q % 10 ^ j) := by
  have hp : 0 < 10 ^ j := Nat.pow_pos (by omega)
  have hlt : q % 10 ^ j < 10 ^ j := Nat.mod_lt _ hp
  have hd : q / 10 ^ j < 10 := Nat.div_lt_of_lt_mul (by rw [Nat.pow_succ] at h; omega)
  have hlen := pad_len (digs_len (B := 10) (by omega) j _ hlt)
  have e : pad 10 q (j + 1) = pad 10 (q % 10 ^ j) j ++ [q / 10 ^ j] := by
    have h1 : Lim 10 (pad 10 (q % 10 ^ j) j ++ [q / 10 ^ j]) := (pad_lim (by omega)).append (Lim.one hd)
    have h2 := pad_of (B := 10) (by omega) h1
    rw [val_append, pad_val (by omega), hlen, val_one, List.length_append, hlen, Nat.mod_add_div] at h2
    exact h2.symm
  simp only [wide, e, List.reverse_append, List.map_append, List.reverse_singleton, List.map_cons, List.map_nil, List.singleton_append]
theorem wide_step {j p : Nat} : wide (j + 1) (p % 10 ^ (j + 1)) = chr (p / 10 ^ j % 10) :: wide j (p % 10 ^ j) := by
  have hp : 0 < 10 ^ (j + 1) := Nat.pow_pos (by omega)
  rw [wide_succ (Nat.mod_lt _ hp)]
  have e1 : p % 10 ^ (j + 1) / 10 ^ j = p / 10 ^ j % 10 := by rw [Nat.pow_succ, Nat.mod_mul_right_div_self]
  have e2 : p % 10 ^ (j + 1) % 10 ^ j = p % 10 ^ j := by rw [Nat.pow_succ]; exact Nat.mod_mod_of_dvd _ (Nat.dvd_mul_right _ _)
  rw [e1, e2]
theorem chr_48 {d : Nat} (h : d < 10) : (chr d = 48) ↔ d = 0 := by
  constructor
  · intro e
    have := congrArg UInt8.toNat e
    rw [chr_nat h] at this
    simp at this; omega
  · rintro rfl; rfl
theorem wide_trim {k p : Nat} : (wide k p).dropWhile (· == 48) = dec p := by
  have e : wide k p = List.replicate (k - (digs 10 p).length) 48 ++ dec p := by
    simp only [wide, pad, dec, List.reverse_append, List.map_append, List.reverse_replicate, List.map_replicate]
    rfl
  rw [e]
  have h : ∀ n (l : List UInt8), (List.replicate n 48 ++ l).dropWhile (· == 48) = l.dropWhile (· == 48) := by
    intro n
    induction n with
    | zero => intro l; simp
    | succ n ih => intro l; rw [List.replicate_succ, List.cons_append, List.dropWhile_cons]; simp [ih]
  rw [h]
  rcases Nat.eq_zero_or_pos p with hp | hp
  · subst hp; rw [dec_zero]; rfl
  · have hl := digs_last (B := 10) (by omega) hp
    have hne : digs 10 p ≠ [] := fun e => by have := (digs_nil (B := 10) (by omega)).1 e; omega
    obtain ⟨l, x, hx⟩ : ∃ l x, digs 10 p = l ++ [x] := ⟨_, _, (List.dropLast_concat_getLast hne).symm⟩
    have hx0 : x ≠ 0 := by
      rw [hx, last_append (by simp)] at hl
      simpa using hl
    have hx10 : x < 10 := lim_digs (B := 10) (by omega) p x (by rw [hx]; simp)
    have hd : dec p = chr x :: l.reverse.map chr := by simp [dec, hx]
    rw [hd, List.dropWhile_cons]
    have : (chr x == 48) = false := by
      rw [beq_eq_false_iff_ne]; exact fun h => hx0 ((chr_48 hx10).1 h)
    rw [this]; rfl

/-! ### a number, nine digits at a time -/
theorem digs_drop_pos {B n k : Nat} (hB : 2 ≤ B) (hk : k < (digs B n).length) : 0 < val B ((digs B n).drop k) := by
  have hn : 0 < n := by
    rcases Nat.eq_zero_or_pos n with h | h
    · subst h; rw [digs_zero] at hk; simp at hk
    · exact h
  have hl := digs_last hB hn
  have h1 : Lim B ((digs B n).drop k) := (lim_digs hB n).drop k
  have h2 : ((digs B n).drop k).getD (((digs B n).drop k).length - 1) 0 ≠ 0 := by
    rw [List.length_drop, List.getD_eq_getElem?_getD, List.getElem?_drop, ← List.getD_eq_getElem?_getD]
    have : k + ((digs B n).length - k - 1) = (digs B n).length - 1 := by omega
    rw [this]; exact hl
  have h3 := digs_of hB h1 (.inr h2)
  rcases Nat.eq_zero_or_pos (val B ((digs B n).drop k)) with h | h
  · rw [h, digs_zero] at h3
    have := congrArg List.length h3
    simp at this; omega
  · exact h
def decT (n : Nat) : List UInt8 := if n = 0 then [48] else dec n
theorem dec_pos {n : Nat} (h : 0 < n) : dec n ≠ [] := by
  intro e
  have : (digs 10 n) = [] := by simpa [dec] using e
  have := (digs_nil (B := 10) (by omega)).1 this
  omega
theorem piece_step {n k p : Nat} (hk : k < (digs 1000000000 n).length) (hp : p = (digs 1000000000 n).getD k 0) :
    p < 1000000000 ∧ dec (val 1000000000 ((digs 1000000000 n).drop k)) = dec (val 1000000000 ((digs 1000000000 n).drop (k + 1))) ++ (if k + 1 = (digs 1000000000 n).length then dec p else wide 9 p) := by
  have hlt : p < 1000000000 := hp ▸ (lim_digs (B := 1000000000) (by omega) n).getD (by omega) k
  refine ⟨hlt, ?_⟩
  rw [val_drop 1000000000 hk, ← hp]
  by_cases h : k + 1 = (digs 1000000000 n).length
  · rw [if_pos h, List.drop_of_length_le (by omega)]
    simp [val, dec_zero]
  · rw [if_neg h]
    have := digs_drop_pos (B := 1000000000) (n := n) (k := k + 1) (by omega) (by omega)
    exact dec_app (k := 9) hlt this
end Go.Proofs.YtanchgkiomfhhaaDoor.Ma

/- Slices held equal; strings without noughts ahead; the builder of strings. -/
namespace Go.Proofs.YtanchgkiomfhhaaDoor.Fw
set_option linter.unusedSimpArgs false
set_option linter.unusedVariables false
open Go Go.Proofs.YtanchgkiomfhhaaDoor.Ma
set_option maxRecDepth 20000

end Go.Proofs.YtanchgkiomfhhaaDoor.Fw

/- Strings: as lists of bytes; without noughts ahead; the builder of strings. -/
namespace Go.Proofs.YtanchgkiomfhhaaDoor.Fw
set_option linter.unusedSimpArgs false
set_option linter.unusedVariables false
open Go Go.Proofs.YtanchgkiomfhhaaDoor.Ma
set_option maxRecDepth 20000

def Sx (l : List UInt8) : AV := .str ⟨l.toArray⟩
theorem str_Sx {l : List UInt8} : AV.str ⟨l.toArray⟩ = Sx l := id rfl
theorem size_Sx {l : List UInt8} : (⟨l.toArray⟩ : ByteArray).size = l.length := by simp [ByteArray.size]
section
variable {K : AV → Prop} {K2 : AV → AHeap → Prop} {KD : AV → List Nat → Option (Nat × ABlk) → Prop} {l m : List UInt8} {k k' : IntKind} {H : AHeap}
theorem len_Sx : lenW true (Sx l) K = K (.int .i64 ((l.length : Nat) : Int)) := by simp only [Sx, lenW, size_Sx]
theorem idx_Sx {i : Nat} (h : i < l.length) : idxSW (Sx l) (.int k (i : Int)) K = K (.int .u8 (((l.getD i 0).toNat : Nat) : Int)) := by
  simp [Sx, idxSW, byteAt, size_Sx, h]
theorem extract_Sx {a b : Nat} : (⟨l.toArray⟩ : ByteArray).extract a b = ⟨((l.drop a).take (b - a)).toArray⟩ := by
  apply ByteArray.ext
  rw [ByteArray.data_extract]
  simp [List.extract_toArray]
theorem slc_SxL {a : Nat} (hb : a ≤ l.length) : slcSW (Sx l) (some (.int k (a : Int))) none K = K (Sx (l.drop a)) := by
  have h1 : (0 : Int) ≤ (a : Int) ∧ (a : Int) ≤ ((l.length : Nat) : Int) := by omega
  have e : (l.drop a).take (l.length - a) = l.drop a := List.take_of_length_le (by simp)
  simp [Sx, slcSW, optI, size_Sx, h1, extract_Sx, e]
theorem beq_dec {a b : List UInt8} : (a == b) = decide (a = b) := by by_cases h : a = b <;> simp [h]
theorem eql_Sx : binW .eql (Sx l) (Sx m) K = K (.bool (decide (l = m))) := by
  simp only [Sx, binW, binStr, ByteArray.toList_eq, List.toList_toArray, beq_dec]
theorem add_Sx (h : l.length + m.length ≤ 9223372036854775807) : binW .add (Sx l) (Sx m) K = K (Sx (l ++ m)) := by
  have e : (⟨l.toArray⟩ : ByteArray) ++ ⟨m.toArray⟩ = ⟨(l ++ m).toArray⟩ := by
    apply ByteArray.ext; simp
  have h' : (l.length : Int) + (m.length : Int) ≤ 9223372036854775807 := by omega
  simp [Sx, binW, binStr, size_Sx, e, h']
  intro _; exact h
theorem cells_Sx : (Sx l).cells = some [Sx l] := id rfl
theorem app_S0 {ty : Nat} (h0 : 0 < l.length) (hb : l.length ≤ 70368744177664) (kk : ∀ b, H b = none → K2 (.own b l.length 0 l.length false) (H.upd b (some (.row ty 1 (Bt l))))) : appV H ty 1 1 (.seq 0 [] true) (Sx l) K2 := .inl <| by
  have hal : (Bt l).all AV.cell = true := by
    rw [List.all_eq_true]; intro x hx
    obtain ⟨b, _, rfl⟩ := List.mem_map.1 hx; rfl
  refine ⟨rfl, ?_⟩
  show (bytesA ⟨l.toArray⟩).all AV.cell = true ∧ _
  rw [bytesA_eq, size_Sx]
  refine ⟨hal, rfl, rfl, by omega, by omega, fun e => by omega, fun _ b hb' => ?_⟩
  simpa using kk b hb'
theorem app_S1 {ty b : Nat} {t : Bool} {o : List UInt8} (hH : H b = some (.row ty 1 (Bt o))) (hb : o.length + l.length ≤ 70368744177664) (kk : K2 (.own b (o ++ l).length 0 (o ++ l).length false) (H.upd b (some (.row ty 1 (Bt (o ++ l)))))) : appV H ty 1 1 (.own b o.length 0 o.length t) (Sx l) K2 := .inl <| by
  have hal : (Bt l).all AV.cell = true := by
    rw [List.all_eq_true]; intro x hx
    obtain ⟨b, _, rfl⟩ := List.mem_map.1 hx; rfl
  refine ⟨rfl, ?_⟩
  show (bytesA ⟨l.toArray⟩).all AV.cell = true ∧ _
  rw [bytesA_eq, size_Sx]
  refine ⟨hal, ?_⟩
  dsimp only
  rw [hH]
  refine ⟨Bt_len, rfl, by omega, rfl, rfl, by omega, by omega, ?_⟩
  have e : Bt o ++ Bt l = Bt (o ++ l) := by simp [Bt]
  rw [List.length_append] at kk
  rw [Nat.mul_one, e]
  exact kk
end
theorem trimB_fn {l : List UInt8} {c : UInt8} (hl : l.length < 9223372036854775808) : PFn Tryd.prog 223 [Sx l, .int .u8 ((c.toNat : Nat) : Int)] (Sx (l.dropWhile (· == c))) := by
  intro H Q hq
  refine enter223 (by simp) ?_
  simp (disch := first | assumption | (apply Ap.symm; assumption) | omega | decide | (simp only [Xd] <;> omega)) only [ac223, ↓Xa, Xb, Xc, ↓reduceIte, Nat.reduceLT, Nat.reduceEqDiff, Nat.reduceBEq, Nat.reduceLeDiff, Nat.reduceAdd, Nat.reduceMul]
  refine W_loop (fun m : List UInt8 => ⟨[], [(0, Sx m), (1, .int .u8 ((c.toNat : Nat) : Int))], _⟩) (fun m => m.length ≤ l.length ∧ m.dropWhile (· == c) = l.dropWhile (· == c)) (fun m => m.length) l (Settle.now rfl) ⟨Nat.le_refl _, rfl⟩ ?_
  rintro m ⟨hm, h1⟩
  cases m with
  | nil =>
    simp (disch := first | assumption | (apply Ap.symm; assumption) | omega | decide | (simp only [Xd] <;> omega)) only [len_Sx, List.length_nil, ↓Xa, Xb, Xc, ↓reduceIte, Nat.reduceLT, Nat.reduceEqDiff, Nat.reduceBEq, Nat.reduceLeDiff, Nat.reduceAdd, Nat.reduceMul]
    refine Settle.now ?_
    simp (disch := first | assumption | (apply Ap.symm; assumption) | omega | decide | (simp only [Xd] <;> omega)) only [rs223, ↓Xa, Xb, Xc, ↓reduceIte, Nat.reduceLT, Nat.reduceEqDiff, Nat.reduceBEq, Nat.reduceLeDiff, Nat.reduceAdd, Nat.reduceMul]
    rw [← h1] at hq
    exact SetR.now hq
  | cons x m =>
    have hpos : 0 < m.length + 1 := Nat.succ_pos _
    have e : (x :: m).getD 0 0 = x := rfl
    have hm' : m.length + 1 ≤ l.length := hm
    rw [List.dropWhile_cons] at h1
    by_cases hx : x = c
    · have hb : (x == c) = true := by simp [hx]
      have hx' : x.toNat = c.toNat := by rw [hx]
      rw [if_pos hb] at h1
      simp (disch := first | assumption | (apply Ap.symm; assumption) | omega | decide | (simp only [Xd] <;> omega)) only [len_Sx, hpos, idx_Sx, e, hx', slc_SxL, List.drop_succ_cons, List.drop_zero, ↓Xa, Xb, Xc, ↓reduceIte, Nat.reduceLT, Nat.reduceEqDiff, Nat.reduceBEq, Nat.reduceLeDiff, Nat.reduceAdd, Nat.reduceMul]
      exact Settle.now ⟨m, by simp, ⟨by omega, h1⟩, rfl⟩
    · have hb : ¬ (x == c) = true := by simp [hx]
      have hx' : ¬ x.toNat = c.toNat := fun h => hx (UInt8.toNat_inj.1 h)
      rw [if_neg hb] at h1
      simp (disch := first | assumption | (apply Ap.symm; assumption) | omega | decide | (simp only [Xd] <;> omega)) only [len_Sx, hpos, idx_Sx, e, hx', ↓Xa, Xb, Xc, ↓reduceIte, Nat.reduceLT, Nat.reduceEqDiff, Nat.reduceBEq, Nat.reduceLeDiff, Nat.reduceAdd, Nat.reduceMul]
      refine Settle.now ?_
      simp (disch := first | assumption | (apply Ap.symm; assumption) | omega | decide | (simp only [Xd] <;> omega)) only [rs223, ↓Xa, Xb, Xc, ↓reduceIte, Nat.reduceLT, Nat.reduceEqDiff, Nat.reduceBEq, Nat.reduceLeDiff, Nat.reduceAdd, Nat.reduceMul]
      rw [← h1] at hq
      exact SetR.now hq
theorem trimL_fn {l : List UInt8} {c : UInt8} (hl : l.length < 9223372036854775808) (hc : c.toNat < 128) : PFn Tryd.prog 213 [Sx l, Sx [c]] (Sx (l.dropWhile (· == c))) := by
  intro H Q hq
  refine enter213 (by simp) ?_
  have e : ([c] : List UInt8).getD 0 0 = c := rfl
  have h1 : ([c] = ([] : List UInt8)) = False := by simp
  have h2 : 0 < ([c] : List UInt8).length := by simp
  cases l with
  | nil =>
    simp (disch := first | assumption | (apply Ap.symm; assumption) | omega | decide | (simp only [Xd] <;> omega)) only [ac213, str_Sx, eql_Sx, rs213, ↓Xa, Xb, Xc, ↓reduceIte, Nat.reduceLT, Nat.reduceEqDiff, Nat.reduceBEq, Nat.reduceLeDiff, Nat.reduceAdd, Nat.reduceMul]
    exact SetR.now hq
  | cons x l =>
    have h3 : (x :: l = ([] : List UInt8)) = False := by simp
    simp (disch := first | assumption | (apply Ap.symm; assumption) | omega | decide | (simp only [Xd] <;> omega)) only [ac213, str_Sx, eql_Sx, h1, h3, len_Sx, idx_Sx, h2, e, hc, ↓Xa, Xb, Xc, ↓reduceIte, Nat.reduceLT, Nat.reduceEqDiff, Nat.reduceBEq, Nat.reduceLeDiff, Nat.reduceAdd, Nat.reduceMul]
    refine (trimB_fn hl).call ?_
    simp (disch := first | assumption | (apply Ap.symm; assumption) | omega | decide | (simp only [Xd] <;> omega)) only [rs213, ↓Xa, Xb, Xc, ↓reduceIte, Nat.reduceLT, Nat.reduceEqDiff, Nat.reduceBEq, Nat.reduceLeDiff, Nat.reduceAdd, Nat.reduceMul]
    exact SetR.now hq
end Go.Proofs.YtanchgkiomfhhaaDoor.Fw

/- The builder of strings. -/
namespace Go.Proofs.YtanchgkiomfhhaaDoor.Fw
set_option linter.unusedSimpArgs false
set_option linter.unusedVariables false
open Go Go.Proofs.YtanchgkiomfhhaaDoor.Ma
set_option maxRecDepth 20000

theorem check_new {H : AHeap} {p : Nat} {v : AV} {K : AV → AHeap → Prop} (hH : H p = some (.row 234 0 [.nilP, v])) (k : K (.tup []) (H.upd p (some (.row 234 0 [.ptr p 2 0, v])))) : Run Tryd.prog 215 [.ptr p 2 0] H K := by
  refine enter215 (by simp) ?_
  simp (disch := first | assumption | (apply Ap.symm; assumption) | omega | decide | (simp only [Xd] <;> omega)) only [ac215, hH, rs215, ↓Xa, Xb, Xc, ↓reduceIte, Nat.reduceLT, Nat.reduceEqDiff, Nat.reduceBEq, Nat.reduceLeDiff, Nat.reduceAdd, Nat.reduceMul]
  exact SetR.now k
theorem check_used {H : AHeap} {p : Nat} {v : AV} {K : AV → AHeap → Prop} (hH : H p = some (.row 234 0 [.ptr p 2 0, v])) (k : K (.tup []) H) : Run Tryd.prog 215 [.ptr p 2 0] H K := by
  refine enter215 (by simp) ?_
  simp (disch := first | assumption | (apply Ap.symm; assumption) | omega | decide | (simp only [Xd] <;> omega)) only [ac215, hH, rs215, ↓Xa, Xb, Xc, ↓reduceIte, Nat.reduceLT, Nat.reduceEqDiff, Nat.reduceBEq, Nat.reduceLeDiff, Nat.reduceAdd, Nat.reduceMul]
  exact SetR.now k
def bld (p : Nat) (l : List UInt8) (H0 H : AHeap) : Prop :=
  (l = [] ∧ (H = H0.upd p (some (.row 234 0 [.nilP, .seq 0 [] true])) ∨ H = H0.upd p (some (.row 234 0 [.ptr p 2 0, .seq 0 [] true])))) ∨
  (l ≠ [] ∧ ∃ bb, H0 bb = none ∧ Ap bb p ∧ H = (H0.upd p (some (.row 234 0 [.ptr p 2 0, .own bb l.length 0 l.length false]))).upd bb (some (.row 5 1 (Bt l))))
theorem bld_new {p : Nat} {H : AHeap} : bld p [] H (H.upd p (some (.row 234 0 [.nilP, .seq 0 [] true]))) := .inl ⟨rfl, .inl rfl⟩
theorem bld_upd {p q : Nat} {l : List UInt8} {H0 H : AHeap} {x : ABlk} (h : bld p l H0 H) (hq : H q = none) : Ap q p ∧ H0 q = none ∧ bld p l (H0.upd q (some x)) (H.upd q (some x)) := by
  rcases h with ⟨rfl, rfl | rfl⟩ | ⟨h0, bb, hbb, hap, rfl⟩
  · obtain ⟨a, b⟩ := upd_none.1 hq
    exact ⟨a, b, .inl ⟨rfl, .inl (upd_comm _ _ _ (Ap.symm a))⟩⟩
  · obtain ⟨a, b⟩ := upd_none.1 hq
    exact ⟨a, b, .inl ⟨rfl, .inr (upd_comm _ _ _ (Ap.symm a))⟩⟩
  · obtain ⟨a1, a2, b⟩ : Ap q bb ∧ Ap q p ∧ H0 q = none := by simpa only [upd_none] using hq
    refine ⟨a2, b, .inr ⟨h0, bb, ?_, hap, ?_⟩⟩
    · rw [upd_otherA (Ap.symm a1)]; exact hbb
    · rw [upd_comm _ _ _ (Ap.symm a1), upd_comm (b := p) (b' := q) _ _ _ (Ap.symm a2)]
theorem wstr_run {p : Nat} {l m : List UInt8} {H0 H : AHeap} {K : AV → AHeap → Prop} (hb : bld p l H0 H) (hl : l.length + m.length ≤ 70368744177664) (hm : 0 < m.length)
    (k : ∀ H', bld p (l ++ m) H0 H' → K (.tup [.int .i64 ((m.length : Nat) : Int), .nilI]) H') : Run Tryd.prog 204 [.ptr p 2 0, Sx m] H K := by
  refine enter204 (by simp) ?_
  simp (disch := first | assumption | (apply Ap.symm; assumption) | omega | decide | (simp only [Xd] <;> omega)) only [ac204, ↓Xa, Xb, Xc, ↓reduceIte, Nat.reduceLT, Nat.reduceEqDiff, Nat.reduceBEq, Nat.reduceLeDiff, Nat.reduceAdd, Nat.reduceMul]
  have hne : ∀ {x : List UInt8}, x ++ m ≠ [] := fun {x} e => by have := congrArg List.length e; rw [List.length_append, List.length_nil] at this; omega
  have first : ∀ {M : AHeap}, M = H0.upd p (some (.row 234 0 [.ptr p 2 0, .seq 0 [] true])) → l = [] →
      W Tryd.prog (sndC (sndC ac204)) (retN rs204 K) ⟨[], [(0, .ptr p 2 0), (1, Sx m)], M⟩ := by
    rintro M rfl rfl
    simp (disch := first | assumption | (apply Ap.symm; assumption) | omega | decide | (simp only [Xd] <;> omega)) only [sndC, ac204, ↓Xa, Xb, Xc, ↓reduceIte, Nat.reduceLT, Nat.reduceEqDiff, Nat.reduceBEq, Nat.reduceLeDiff, Nat.reduceAdd, Nat.reduceMul]
    refine app_S0 hm (by simp at hl; omega) fun b hb => ?_
    obtain ⟨a1, a2⟩ := upd_none.1 hb
    simp (disch := first | assumption | (apply Ap.symm; assumption) | omega | decide | (simp only [Xd] <;> omega)) only [len_Sx, rs204, ↓Xa, Xb, Xc, ↓reduceIte, Nat.reduceLT, Nat.reduceEqDiff, Nat.reduceBEq, Nat.reduceLeDiff, Nat.reduceAdd, Nat.reduceMul]
    refine SetR.now (k _ (.inr ⟨by simpa using hne (x := []), b, a2, a1, ?_⟩))
    simp only [List.nil_append]
  rcases hb with ⟨rfl, rfl | rfl⟩ | ⟨h0, bb, hbb, hap, rfl⟩
  · refine run_call (check_new (upd_same _ _ _) ?_)
    have f := first rfl rfl
    simp (disch := first | assumption | (apply Ap.symm; assumption) | omega | decide | (simp only [Xd] <;> omega)) only [sndC, ac204, ↓Xa, Xb, Xc, ↓reduceIte, Nat.reduceLT, Nat.reduceEqDiff, Nat.reduceBEq, Nat.reduceLeDiff, Nat.reduceAdd, Nat.reduceMul] at f
    simp (disch := first | assumption | (apply Ap.symm; assumption) | omega | decide | (simp only [Xd] <;> omega)) only [↓Xa, Xb, Xc, ↓reduceIte, Nat.reduceLT, Nat.reduceEqDiff, Nat.reduceBEq, Nat.reduceLeDiff, Nat.reduceAdd, Nat.reduceMul]
    exact f
  · refine run_call (check_used (upd_same _ _ _) ?_)
    have f := first rfl rfl
    simp (disch := first | assumption | (apply Ap.symm; assumption) | omega | decide | (simp only [Xd] <;> omega)) only [sndC, ac204, ↓Xa, Xb, Xc, ↓reduceIte, Nat.reduceLT, Nat.reduceEqDiff, Nat.reduceBEq, Nat.reduceLeDiff, Nat.reduceAdd, Nat.reduceMul] at f
    simp (disch := first | assumption | (apply Ap.symm; assumption) | omega | decide | (simp only [Xd] <;> omega)) only [↓Xa, Xb, Xc, ↓reduceIte, Nat.reduceLT, Nat.reduceEqDiff, Nat.reduceBEq, Nat.reduceLeDiff, Nat.reduceAdd, Nat.reduceMul]
    exact f
  · refine run_call (check_used (v := .own bb l.length 0 l.length false) (by rw [upd_otherA (Ap.symm hap), upd_same]) ?_)
    simp (disch := first | assumption | (apply Ap.symm; assumption) | omega | decide | (simp only [Xd] <;> omega)) only [↓Xa, Xb, Xc, ↓reduceIte, Nat.reduceLT, Nat.reduceEqDiff, Nat.reduceBEq, Nat.reduceLeDiff, Nat.reduceAdd, Nat.reduceMul]
    refine app_S1 (upd_same _ _ _) hl ?_
    simp (disch := first | assumption | (apply Ap.symm; assumption) | omega | decide | (simp only [Xd] <;> omega)) only [len_Sx, rs204, ↓Xa, Xb, Xc, ↓reduceIte, Nat.reduceLT, Nat.reduceEqDiff, Nat.reduceBEq, Nat.reduceLeDiff, Nat.reduceAdd, Nat.reduceMul]
    refine SetR.now (k _ (.inr ⟨hne, bb, hbb, hap, ?_⟩))
    simp only [List.length_append]
theorem bstr_run {p : Nat} {l : List UInt8} {H0 H : AHeap} {K : AV → AHeap → Prop} (hb : bld p l H0 H) (hp : H0 p = none) (hl : l.length ≤ 70368744177664) (h0 : 0 < l.length) (k : ∀ H', Le H0 H' → K (Sx l) H') : Run Tryd.prog 205 [.ptr p 2 0] H K := by
  refine enter205 (by simp) ?_
  rcases hb with ⟨rfl, _⟩ | ⟨h1, bb, hbb, hap, rfl⟩
  · simp at h0
  · have hbl : (Bt l).length = l.length := Bt_len
    simp (disch := first | assumption | (apply Ap.symm; assumption) | omega | decide | (simp only [Xd] <;> omega)) only [ac205, h0, rs205, ↓Xa, Xb, Xc, ↓reduceIte, Nat.reduceLT, Nat.reduceEqDiff, Nat.reduceBEq, Nat.reduceLeDiff, Nat.reduceAdd, Nat.reduceMul]
    exact SetR.now (k _ (((Le.refl H0).updB hp).updB hbb))
end Go.Proofs.YtanchgkiomfhhaaDoor.Fw

/- A number's decimal text, as package limb writes it. -/
namespace Go.Proofs.YtanchgkiomfhhaaDoor.Fw
set_option linter.unusedSimpArgs false
set_option linter.unusedVariables false
open Go Go.Proofs.YtanchgkiomfhhaaDoor.Ma
set_option maxRecDepth 20000

theorem bld_drop {p q : Nat} {l : List UInt8} {H0 H : AHeap} {x : ABlk} (h : bld p l (H0.upd q (some x)) H) (hqp : Ap q p) (hq : H0 q = none) : ∃ H', bld p l H0 H' ∧ Le H' H := by
  have up : ∀ {M : AHeap} {r : Option ABlk}, M = (H0.upd q (some x)).upd p r → Le (H0.upd p r) M := fun {M r} e => by
    rw [e, upd_comm _ _ _ hqp]
    exact (Le.refl _).updB (by rw [upd_otherA hqp]; exact hq)
  rcases h with ⟨rfl, rfl | rfl⟩ | ⟨h0, bb, hbb, hap, rfl⟩
  · exact ⟨_, .inl ⟨rfl, .inl rfl⟩, up rfl⟩
  · exact ⟨_, .inl ⟨rfl, .inr rfl⟩, up rfl⟩
  · obtain ⟨a1, a2⟩ := upd_none.1 hbb
    refine ⟨_, .inr ⟨h0, bb, a2, hap, rfl⟩, ?_⟩
    rw [upd_comm _ _ _ hqp, upd_comm (b := q) (b' := bb) _ _ _ (Ap.symm a1)]
    exact (Le.refl _).updB (by rw [upd_otherA (Ap.symm a1), upd_otherA hqp]; exact hq)
theorem stP_Bt {H : AHeap} {K2 : AV → AHeap → Prop} {b L off ty es c : Nat} {l : List UInt8} (hL : l.length = L) (h : off < L) (hc : c < 256) : stP H 1 b L off K2 (some [.int .u8 (c : Int)]) (some (.row ty es (Bt l))) = K2 .bot (H.upd b (some (.row ty es (Bt (l.set off (UInt8.ofNat c)))))) := by
  subst hL
  have h1 : off + 1 ≤ l.length := h
  have e : splice (Bt l) off [.int .u8 (c : Int)] = Bt (l.set off (UInt8.ofNat c)) := by
    have e2 : (AV.int .u8 (c : Int)) = .int .u8 (((UInt8.ofNat c).toNat : Nat) : Int) := by
      rw [UInt8.toNat_ofNat', Nat.mod_eq_of_lt hc]
    rw [e2]
    unfold splice Bt
    rw [List.map_set, List.set_eq_take_append_cons_drop]
    simp [h]
  simp [stP, Bt_len, h1, e]
def TxI (p j : Nat) (cells : List UInt8) (x : Nat) : Prop := j ≤ 9 ∧ cells = List.replicate j 0 ++ wide (9 - j) (p % 10 ^ (9 - j)) ∧ x = p / 10 ^ (9 - j)
theorem TxI.len {p j x : Nat} {cells : List UInt8} (h : TxI p j cells x) : cells.length = 9 := by
  obtain ⟨h1, rfl, _⟩ := h
  rw [List.length_append, List.length_replicate, wide_len (Nat.mod_lt _ (Nat.pow_pos (by omega)))]; omega
theorem TxI.step {p j x : Nat} {cells : List UInt8} (h : TxI p (j + 1) cells x) : TxI p j (cells.set j (UInt8.ofNat (48 + x % 10))) (x / 10) := by
  obtain ⟨h1, rfl, rfl⟩ := h
  have e9 : 9 - j = (9 - (j + 1)) + 1 := by omega
  refine ⟨by omega, ?_, ?_⟩
  · rw [e9, wide_step]
    rw [List.replicate_succ', List.append_assoc, List.set_append_right _ _ (by simp)]
    simp [chr]
  · rw [e9, Nat.pow_succ, Nat.div_div_eq_div_mul]

theorem text_fn {l : List Nat} (t : Bool) (hl : Lim 4294967296 l) (hn : l.length ≤ 1099511627776) : PFn Tryd.prog 190 [LS l t] (Sx (decT (val 4294967296 l))) := by
  intro H Q hq
  have hP : (2 : Nat) ≤ 1000000000 := by omega
  refine enter190 (by simp) ?_
  simp (disch := first | assumption | (apply Ap.symm; assumption) | omega | decide | (simp only [Xd] <;> omega)) only [ac190, str_Sx, ↓Xa, Xb, Xc, ↓reduceIte, Nat.reduceLT, Nat.reduceEqDiff, Nat.reduceBEq, Nat.reduceLeDiff, Nat.reduceAdd, Nat.reduceMul]
  refine (norm_fn t (by omega)).call ?_
  rw [tr_digs (by omega) hl]
  have hN : val 4294967296 l < 4294967296 ^ l.length := val_lt hl
  have hp2 : (digs 1000000000 (val 4294967296 l)).length ≤ 2 * l.length := digs_len hP _ _ (Nat.lt_of_lt_of_le hN (by rw [Nat.pow_mul]; exact Nat.pow_le_pow_left (by omega) _))
  have hdl : (dec (val 4294967296 l)).length ≤ 10 * l.length := dec_len (Nat.lt_of_lt_of_le hN (by rw [Nat.pow_mul]; exact Nat.pow_le_pow_left (by omega) _))
  generalize hNe : val 4294967296 l = N at *
  simp (disch := first | assumption | (apply Ap.symm; assumption) | omega | decide | (simp only [Xd] <;> omega)) only [↓Xa, Xb, Xc, ↓reduceIte, Nat.reduceLT, Nat.reduceEqDiff, Nat.reduceBEq, Nat.reduceLeDiff, Nat.reduceAdd, Nat.reduceMul]
  refine W_loop (fun s : List Nat × AV × AHeap × Nat => ⟨[], [(3, s.2.1), (4, LS (digs 4294967296 s.2.2.2) true)], s.2.2.1⟩) (fun s => grow H 172 s.1 s.2.1 s.2.2.1 ∧ digs 1000000000 N = s.1 ++ digs 1000000000 s.2.2.2 ∧ s.2.2.2 ≤ N) (fun s => s.2.2.2)
    ([], .seq 0 [] true, H, N) (Settle.now rfl) ⟨grow_nil, rfl, Nat.le_refl _⟩ ?_
  rintro ⟨done, x, G, n⟩ ⟨hg, he, hle⟩
  dsimp only at hg he hle ⊢
  have hdn : (digs 4294967296 n).length ≤ l.length := digs_len (by omega) _ _ (Nat.lt_of_le_of_lt hle (hNe ▸ hN))
  have hz := digs_len0 (B := 4294967296) (n := n) (by omega)
  by_cases hn0 : n = 0
  · have h1 : (digs 4294967296 n).length = 0 := by rw [hz]; exact hn0
    simp (disch := first | assumption | (apply Ap.symm; assumption) | omega | decide | (simp only [Xd] <;> omega)) only [h1, ↓Xa, Xb, Xc, ↓reduceIte, Nat.reduceLT, Nat.reduceEqDiff, Nat.reduceBEq, Nat.reduceLeDiff, Nat.reduceAdd, Nat.reduceMul]
    refine Settle.grown 3 rfl hg (Settle.now ?_)
    rw [hn0, digs_zero, List.append_nil] at he
    subst he
    have hlim := lim_digs hP N
    have hdig := fun k p => piece_step (n := N) (k := k) (p := p)
    have hv : val 1000000000 (digs 1000000000 N) = N := val_digs hP N
    have hlast := digs_last (B := 1000000000) (n := N) hP
    have hnil := digs_len0 (B := 1000000000) (n := N) hP
    generalize digs 1000000000 N = ps at *
    by_cases hp0 : ps.length = 0
    · rw [hnil] at hp0
      have hL : ps.length = 0 := by rw [hnil]; exact hp0
      simp (disch := first | assumption | (apply Ap.symm; assumption) | omega | decide | (simp only [Xd] <;> omega)) only [hL, str_Sx, rs190, ↓Xa, Xb, Xc, ↓reduceIte, Nat.reduceLT, Nat.reduceEqDiff, Nat.reduceBEq, Nat.reduceLeDiff, Nat.reduceAdd, Nat.reduceMul]
      have e : decT N = [48] := by rw [hp0]; rfl
      rw [e] at hq
      exact SetR.now hq
    · have hN0 : 0 < N := by rcases Nat.eq_zero_or_pos N with h | h
                             · exact absurd (hnil ▸ h) hp0
                             · exact h
      have eT : decT N = dec N := by unfold decT; rw [if_neg (by omega)]
      rw [eT] at hq
      obtain ⟨L, hL⟩ : ∃ L, ps.length = L + 1 := ⟨ps.length - 1, by omega⟩
      have hLp : (0 < L + 1) = True := by simp
      have hL0 : (L + 1 = 0) = False := by simp
      simp (disch := first | assumption | (apply Ap.symm; assumption) | omega | decide | (simp only [Xd] <;> omega)) only [hL, hL0, ↓Xa, Xb, Xc, ↓reduceIte, Nat.reduceLT, Nat.reduceEqDiff, Nat.reduceBEq, Nat.reduceLeDiff, Nat.reduceAdd, Nat.reduceMul]
      refine alloc_i fun p hp => ?_
      simp (disch := first | assumption | (apply Ap.symm; assumption) | omega | decide | (simp only [Xd] <;> omega)) only [hL, dn_succ, ↓Xa, Xb, Xc, ↓reduceIte, Nat.reduceLT, Nat.reduceEqDiff, Nat.reduceBEq, Nat.reduceLeDiff, Nat.reduceAdd, Nat.reduceMul]
      refine W_atH fun M0 hM0 => ?_
      refine W_loop (fun s : Nat × AHeap => ⟨[], [(3, LS ps false), (8, .ptr p 2 0), (9, .int .i64 (dn s.1))], s.2⟩) (fun s => s.1 ≤ ps.length ∧ bld p (dec (val 1000000000 (ps.drop s.1))) H s.2) (fun s => s.1) (L + 1, M0) (Settle.now rfl) ⟨by dsimp only; omega, ?_⟩ ?_
      · dsimp only
        rw [List.drop_of_length_le (by omega), show val 1000000000 [] = 0 from rfl, dec_zero, hM0]
        exact bld_new
      rintro ⟨k, M⟩ ⟨hk, hb⟩
      dsimp only at hk hb ⊢
      cases k with
      | zero =>
        simp (disch := first | assumption | (apply Ap.symm; assumption) | omega | decide | (simp only [Xd] <;> omega)) only [dn_zero, ↓Xa, Xb, Xc, ↓reduceIte, Nat.reduceLT, Nat.reduceEqDiff, Nat.reduceBEq, Nat.reduceLeDiff, Nat.reduceAdd, Nat.reduceMul]
        refine Settle.now ?_
        rw [List.drop_zero, hv] at hb
        simp (disch := first | assumption | (apply Ap.symm; assumption) | omega | decide | (simp only [Xd] <;> omega)) only [↓Xa, Xb, Xc, ↓reduceIte, Nat.reduceLT, Nat.reduceEqDiff, Nat.reduceBEq, Nat.reduceLeDiff, Nat.reduceAdd, Nat.reduceMul]
        have hd0 : 0 < (dec N).length := List.length_pos_iff.2 (dec_pos hN0)
        refine run_call (bstr_run hb hp (by omega) hd0 fun H' hH' => ?_)
        simp (disch := first | assumption | (apply Ap.symm; assumption) | omega | decide | (simp only [Xd] <;> omega)) only [rs190, ↓Xa, Xb, Xc, ↓reduceIte, Nat.reduceLT, Nat.reduceEqDiff, Nat.reduceBEq, Nat.reduceLeDiff, Nat.reduceAdd, Nat.reduceMul]
        exact SetR.dropTo hH' (SetR.now hq)
      | succ k =>
        obtain ⟨hlt, hstep⟩ := hdig k _ (by omega) rfl
        have hlt2 : ps.getD k 0 < 1000000000 := hlt
        simp (disch := first | assumption | (apply Ap.symm; assumption) | omega | decide | (simp only [Xd] <;> omega)) only [dn_succ, hL, ↓Xa, Xb, Xc, ↓reduceIte, Nat.reduceLT, Nat.reduceEqDiff, Nat.reduceBEq, Nat.reduceLeDiff, Nat.reduceAdd, Nat.reduceMul]
        refine alloc_i fun q hq' => ?_
        generalize hpk : ps.getD k 0 = pk at *
        simp (disch := first | assumption | (apply Ap.symm; assumption) | omega | decide | (simp only [Xd] <;> omega)) only [hpk, dn_succ, hL, ↓Xa, Xb, Xc, ↓reduceIte, Nat.reduceLT, Nat.reduceEqDiff, Nat.reduceBEq, Nat.reduceLeDiff, Nat.reduceAdd, Nat.reduceMul]
        refine W_loop (fun s : Nat × List UInt8 × Nat => ⟨[], [(3, LS ps false), (8, .ptr p 2 0), (9, .int .i64 (k : Nat)), (10, .ptr q 9 0), (11, .int .u32 (s.2.2 : Nat)), (12, .int .i64 (dn s.1))], M.upd q (some (.row 248 1 (Bt s.2.1)))⟩)
          (fun s => TxI pk s.1 s.2.1 s.2.2) (fun s => s.1) (9, List.replicate 9 0, pk) (Settle.now rfl) ⟨Nat.le_refl _, by simp [wide, pad, digs_zero, Nat.mod_one], by simp⟩ ?_
        rintro ⟨j, cells, x⟩ hx
        dsimp only at hx ⊢
        have hcl := hx.len
        have hx32 : x < 4294967296 := by
          have := hx.2.2
          have := Nat.div_le_self pk (10 ^ (9 - j))
          omega
        cases j with
        | zero =>
          have ecells : cells = wide 9 pk := by
            rw [hx.2.1]; simp [Nat.mod_eq_of_lt hlt2]
          have htk : (Bt cells).take 9 = Bt cells := List.take_of_length_le (by rw [Bt_len]; omega)
          have hbl : (Bt cells).length = 9 := by rw [Bt_len]; exact hcl
          simp (disch := first | assumption | (apply Ap.symm; assumption) | omega | decide | (simp only [Xd] <;> omega)) only [dn_zero, ↓Xa, Xb, Xc, ↓reduceIte, Nat.reduceLT, Nat.reduceEqDiff, Nat.reduceBEq, Nat.reduceLeDiff, Nat.reduceAdd, Nat.reduceMul]
          refine Settle.now ?_
          simp (disch := first | assumption | (apply Ap.symm; assumption) | omega | decide | (simp only [Xd] <;> omega)) only [htk, str_Sx, hL, dn_succ, ↓Xa, Xb, Xc, ↓reduceIte, Nat.reduceLT, Nat.reduceEqDiff, Nat.reduceBEq, Nat.reduceLeDiff, Nat.reduceAdd, Nat.reduceMul]
          refine ⟨by decide, ?_⟩
          obtain ⟨a1, a2, w0⟩ := bld_upd (x := .row 248 1 (Bt cells)) hb hq'
          have fin : ∀ (m : List UInt8) (M' : AHeap), bld p (dec (val 1000000000 (ps.drop (k + 1))) ++ m) (H.upd q (some (.row 248 1 (Bt cells)))) M' → dec (val 1000000000 (ps.drop k)) = dec (val 1000000000 (ps.drop (k + 1))) ++ m →
              Settle (fun s' => ∃ x' : Nat × AHeap, x'.1 < k + 1 ∧ (x'.1 ≤ L + 1 ∧ bld p (dec (val 1000000000 (ps.drop x'.1))) H x'.2) ∧ s' = ⟨[], [(3, LS ps false), (8, .ptr p 2 0), (9, .int .i64 (dn x'.1))], x'.2⟩) ⟨[], [(3, LS ps false), (8, .ptr p 2 0), (9, .int .i64 (dn k))], M'⟩ := fun m M' hb' e => by
            obtain ⟨M'', h1, h2⟩ := bld_drop hb' a1 a2
            exact Settle.dropTo h2 (Settle.now ⟨(k, M''), Nat.lt_succ_self k, ⟨by dsimp only; omega, by dsimp only; rw [e]; exact h1⟩, rfl⟩)
          have hbd : (dec (val 1000000000 (ps.drop (k + 1)))).length ≤ 9 * ps.length := by
            refine dec_len (Nat.lt_of_lt_of_le (val_lt (hlim.drop (k + 1))) ?_)
            rw [show (1000000000 : Nat) = 10 ^ 9 from rfl, ← Nat.pow_mul]
            exact Nat.pow_le_pow_right (by omega) (Nat.mul_le_mul_left _ (by simp))
          by_cases hkL : k = L
          · rw [if_pos (by omega)] at hstep
            have hpk0 : pk ≠ 0 := by
              have := hlast hN0
              rwa [hL, Nat.add_sub_cancel, ← hkL, hpk] at this
            have hm0 : 0 < (dec pk).length := List.length_pos_iff.2 (dec_pos (by omega))
            have hm9 : (dec pk).length ≤ 9 := dec_len (k := 9) hlt2
            have hd1 : decide (k = L + 1 - 1) = true := by simp [hkL]
            simp (disch := first | assumption | (apply Ap.symm; assumption) | omega | decide | (simp only [Xd] <;> omega)) only [hd1, ↓Xa, Xb, Xc, ↓reduceIte, Nat.reduceLT, Nat.reduceEqDiff, Nat.reduceBEq, Nat.reduceLeDiff, Nat.reduceAdd, Nat.reduceMul]
            refine (trimL_fn (c := 48) (l := cells) (by omega) (by decide)).call ?_
            rw [ecells, wide_trim, ← ecells]
            simp (disch := first | assumption | (apply Ap.symm; assumption) | omega | decide | (simp only [Xd] <;> omega)) only [↓Xa, Xb, Xc, ↓reduceIte, Nat.reduceLT, Nat.reduceEqDiff, Nat.reduceBEq, Nat.reduceLeDiff, Nat.reduceAdd, Nat.reduceMul]
            refine run_call (wstr_run w0 (by omega) hm0 fun M' hM' => ?_)
            simp (disch := first | assumption | (apply Ap.symm; assumption) | omega | decide | (simp only [Xd] <;> omega)) only [↓Xa, Xb, Xc, ↓reduceIte, Nat.reduceLT, Nat.reduceEqDiff, Nat.reduceBEq, Nat.reduceLeDiff, Nat.reduceAdd, Nat.reduceMul]
            exact fin _ _ hM' hstep
          · rw [if_neg (by omega)] at hstep
            rw [← ecells] at hstep
            have hd1 : decide (k = L + 1 - 1) = false := by simp [hkL]
            simp (disch := first | assumption | (apply Ap.symm; assumption) | omega | decide | (simp only [Xd] <;> omega)) only [hd1, ↓Xa, Xb, Xc, ↓reduceIte, Nat.reduceLT, Nat.reduceEqDiff, Nat.reduceBEq, Nat.reduceLeDiff, Nat.reduceAdd, Nat.reduceMul]
            refine run_call (wstr_run w0 (by omega) (by omega) fun M' hM' => ?_)
            simp (disch := first | assumption | (apply Ap.symm; assumption) | omega | decide | (simp only [Xd] <;> omega)) only [↓Xa, Xb, Xc, ↓reduceIte, Nat.reduceLT, Nat.reduceEqDiff, Nat.reduceBEq, Nat.reduceLeDiff, Nat.reduceAdd, Nat.reduceMul]
            exact fin _ _ hM' hstep
        | succ j =>
          have hj : j < 9 := by have := hx.1; omega
          have hbl : (Bt cells).length = 9 := by rw [Bt_len]; exact hcl
          have hd : x % 10 < 10 := Nat.mod_lt _ (by omega)
          simp (disch := first | assumption | (apply Ap.symm; assumption) | omega | decide | (simp only [Xd] <;> omega)) only [dn_succ, stP_Bt, ↓Xa, Xb, Xc, ↓reduceIte, Nat.reduceLT, Nat.reduceEqDiff, Nat.reduceBEq, Nat.reduceLeDiff, Nat.reduceAdd, Nat.reduceMul]
          exact ⟨by omega, by omega, Settle.now ⟨(j, _, x / 10), Nat.lt_succ_self j, hx.step, rfl⟩⟩
  · have h1 : 0 < (digs 4294967296 n).length := by
      have : ¬ (digs 4294967296 n).length = 0 := by rw [hz]; exact hn0
      omega
    simp (disch := first | assumption | (apply Ap.symm; assumption) | omega | decide | (simp only [Xd] <;> omega)) only [h1, ↓Xa, Xb, Xc, ↓reduceIte, Nat.reduceLT, Nat.reduceEqDiff, Nat.reduceBEq, Nat.reduceLeDiff, Nat.reduceAdd, Nat.reduceMul]
    refine (divsmall_fn (d := 1000000000) true (lim_digs (by omega) n) (by omega) (by omega) (by omega)).call ?_
    rw [val_digs (by omega)]
    simp (disch := first | assumption | (apply Ap.symm; assumption) | omega | decide | (simp only [Xd] <;> omega)) only [↓Xa, Xb, Xc, ↓reduceIte, Nat.reduceLT, Nat.reduceEqDiff, Nat.reduceBEq, Nat.reduceLeDiff, Nat.reduceAdd, Nat.reduceMul]
    have hlen := congrArg List.length he
    rw [List.length_append] at hlen
    refine app_grow (m := [n % 1000000000]) hg rfl (by simp) (by simp; omega) fun x' H2 hg2 => ?_
    simp (disch := first | assumption | (apply Ap.symm; assumption) | omega | decide | (simp only [Xd] <;> omega)) only [↓Xa, Xb, Xc, ↓reduceIte, Nat.reduceLT, Nat.reduceEqDiff, Nat.reduceBEq, Nat.reduceLeDiff, Nat.reduceAdd, Nat.reduceMul]
    refine Settle.now ⟨(done ++ [n % 1000000000], x', H2, n / 1000000000), Nat.div_lt_self (by omega) (by omega), ⟨hg2, ?_, Nat.le_trans (Nat.div_le_self _ _) hle⟩, rfl⟩
    dsimp only
    rw [he, digs_pos hP (show 0 < n by omega), List.append_assoc]; rfl
end Go.Proofs.YtanchgkiomfhhaaDoor.Fw

/- The laws' first question: are numbers added, multiplied, divided, told? -/
namespace Go.Proofs.YtanchgkiomfhhaaDoor.Fw
set_option linter.unusedSimpArgs false
set_option linter.unusedVariables false
open Go Go.Proofs.YtanchgkiomfhhaaDoor.Ma
set_option maxRecDepth 20000

end Go.Proofs.YtanchgkiomfhhaaDoor.Fw

/- What package limb computes, in terms of numbers. -/
namespace Go.Proofs.YtanchgkiomfhhaaDoor.Fw
set_option linter.unusedSimpArgs false
set_option linter.unusedVariables false
open Go Go.Proofs.YtanchgkiomfhhaaDoor.Ma
set_option maxRecDepth 20000

structure Nm (l : List Nat) (n k : Nat) : Prop where
  lim : Lim 4294967296 l
  val : val 4294967296 l = n
  len : l.length ≤ k
theorem Nm.lt {l : List Nat} {n k : Nat} (h : Nm l n k) : n < 4294967296 ^ k := by
  rw [← h.val]; exact Nat.lt_of_lt_of_le (val_lt h.lim) (Nat.pow_le_pow_right (by omega) h.len)
theorem Nm.digs {n k : Nat} (h : n < 4294967296 ^ k) : Nm (digs 4294967296 n) n k := ⟨lim_digs (by omega) n, val_digs (by omega) n, digs_len (by omega) k n h⟩
theorem Nm.raw {l : List Nat} {k : Nat} (h : Lim 4294967296 l) (hk : l.length ≤ k) : Nm l (Ma.val 4294967296 l) k := ⟨h, rfl, hk⟩
theorem Nm.mono {l : List Nat} {n k k' : Nat} (h : Nm l n k) (hk : k ≤ k') : Nm l n k' := ⟨h.lim, h.val, Nat.le_trans h.len hk⟩
end Go.Proofs.YtanchgkiomfhhaaDoor.Fw

/- The law of quotients and remainders of limbs, without the reference, as what its code computes: true. -/
namespace Go.Proofs.YtanchgkiomfhhaaDoor.Fw
set_option linter.unusedSimpArgs false
set_option linter.unusedVariables false
open Go Go.Proofs.YtanchgkiomfhhaaDoor.Ma
set_option maxRecDepth 20000

theorem Nm.one {c : Nat} (h : c < 4294967296) : Nm [c] c 1 := ⟨Lim.one h, val_one _ _, Nat.le_refl _⟩
theorem Nm.two {c : Nat} (h : c < 4294967296) : Nm [c, 0] c 2 := ⟨Lim.cons h (Lim.one (by omega)), by simp [Ma.val], Nat.le_refl _⟩
end Go.Proofs.YtanchgkiomfhhaaDoor.Fw

/- The number of a decimal text, and back. -/
namespace Go.Proofs.YtanchgkiomfhhaaDoor.Ma
set_option linter.unusedSimpArgs false
set_option linter.unusedVariables false

def decF (v : Nat) (l : List UInt8) : Nat := l.foldl (fun v b => 10 * v + (b.toNat - 48)) v
def decV (l : List UInt8) : Nat := decF 0 l
def isDig (b : UInt8) : Prop := 48 ≤ b.toNat ∧ b.toNat ≤ 57
def Good (l : List UInt8) : Prop := l ≠ [] ∧ (∀ b, b ∈ l → isDig b) ∧ (l.length = 1 ∨ (l.getD 0 0).toNat ≠ 48)
theorem good_decT (n : Nat) : Good (decT n) := by
  unfold decT
  split
  · exact ⟨by simp, by simp [isDig], .inl rfl⟩
  · rename_i h
    have hn : 0 < n := by omega
    refine ⟨dec_pos hn, fun b hb => ?_, .inr ?_⟩
    · unfold dec at hb
      obtain ⟨x, hx, rfl⟩ := List.mem_map.1 hb
      have := lim_digs (B := 10) (by omega) n x (List.mem_reverse.1 hx)
      unfold isDig; rw [chr_nat this]; omega
    · have hl := digs_last (B := 10) (by omega) hn
      have hne : digs 10 n ≠ [] := fun e => by have := (digs_nil (B := 10) (by omega)).1 e; omega
      obtain ⟨l, x, hx⟩ : ∃ l x, digs 10 n = l ++ [x] := ⟨_, _, (List.dropLast_concat_getLast hne).symm⟩
      have hx0 : x ≠ 0 := by
        rw [hx, last_append (by simp)] at hl
        simpa using hl
      have hx10 : x < 10 := lim_digs (B := 10) (by omega) n x (by rw [hx]; simp)
      have : dec n = chr x :: l.reverse.map chr := by simp [dec, hx]
      rw [this]
      show (chr x).toNat ≠ 48
      rw [chr_nat hx10]; omega
def badAt (l : List UInt8) (i : Nat) : Prop := (l.getD i 0).toNat < 48 ∨ 57 < (l.getD i 0).toNat ∨ (0 < i ∧ (l.getD 0 0).toNat = 48)
end Go.Proofs.YtanchgkiomfhhaaDoor.Ma

/- A text read, as package limb reads it. -/
namespace Go.Proofs.YtanchgkiomfhhaaDoor.Fw
set_option linter.unusedSimpArgs false
set_option linter.unusedVariables false
open Go Go.Proofs.YtanchgkiomfhhaaDoor.Ma
set_option maxRecDepth 20000

def spot (e a : Nat) : AV := .agg [.int .i64 (e : Int), .int .i64 (a : Int)]
theorem rng_Sx {H : AHeap} {l : List UInt8} {K : AV → AHeap → Prop} : rngW H (Sx l) K = rngS H ⟨l.toArray⟩ K := id rfl
theorem byte_Sx {l : List UInt8} {i : Nat} : byteAt ⟨l.toArray⟩ i = (l.getD i 0).toNat := by simp [byteAt]
theorem nxt_Sl {H : AHeap} {b pos : Nat} {l : List UInt8} {K : AV → AHeap → Prop} (h : pos < l.length) (hb : (l.getD pos 0).toNat < 128) : nxtP H b K (some (.raw (.stringIter ⟨l.toArray⟩ pos))) = K (.tup [.bool true, .int .i64 (pos : Int), .int .i32 (((l.getD pos 0).toNat : Nat) : Int)]) (H.upd b (some (.raw (.stringIter ⟨l.toArray⟩ (pos + 1))))) := by
  rw [nxt_lt (by rw [size_Sx]; exact h) (by rw [byte_Sx]; exact hb), byte_Sx]
theorem nxt_Sg {H : AHeap} {b pos : Nat} {l : List UInt8} {K : AV → AHeap → Prop} (h : l.length ≤ pos) : nxtP H b K (some (.raw (.stringIter ⟨l.toArray⟩ pos))) = K (.tup [.bool false]) H := nxt_ge (by rw [size_Sx]; exact h)
theorem wn_i32 {n : Nat} (h : n < 2147483648) : IntKind.i32.wrap (n : Int) = (n : Int) := by
  unfold IntKind.wrap; simp only [IntKind.bits, IntKind.signed, Bool.true_and, decide_eq_true_eq, ge_iff_le]; split <;> omega
def ReadR (l : List UInt8) (r : AV) : Prop :=
  (65536 < l.length ∧ r = .tup [LS [] true, spot 3 65536]) ∨ (l = [] ∧ r = .tup [LS [] true, spot 6 0]) ∨
  (l.length ≤ 65536 ∧ ∃ i, i < l.length ∧ badAt l i ∧ (∀ j, j < i → ¬ badAt l j) ∧ r = .tup [LS [] true, spot 6 i]) ∨
  (l.length ≤ 65536 ∧ Good l ∧ r = .tup [LS (Ma.digs 4294967296 (decV l)) true, spot 0 0])
end Go.Proofs.YtanchgkiomfhhaaDoor.Fw

/- A number's digits gone over, as package limb tells them. -/
namespace Go.Proofs.YtanchgkiomfhhaaDoor.Fw
set_option linter.unusedSimpArgs false
set_option linter.unusedVariables false
open Go Go.Proofs.YtanchgkiomfhhaaDoor.Ma
set_option maxRecDepth 20000

theorem cW_y {P : Program} {b : Nat} {args : List AV} {H : AHeap} {K : AV → AHeap → Prop} : callW P (.yld b) args H K = YieldW P b args H K := id rfl
theorem load_cS {H : AHeap} {l : List UInt8} {K : AV → Prop} : loadW H none (.cptr [Sx l]) K = K (Sx l) := by simp [loadW, cellsAt, Sx]
theorem digits1_iter {l : List UInt8} (hg : ∀ b, b ∈ l → isDig b) (hl : l.length < 4611686018427387904) : IterW Tryd.prog 191 [.cptr [Sx l]] (fun d : Nat => [.int .i64 (d : Int)]) (l.map fun b => b.toNat - 48) := by
  intro b J Jx hy A B hd h0
  refine enter191 (by simp) ?_
  simp (disch := first | assumption | (apply Ap.symm; assumption) | omega | decide | (simp only [Xd] <;> omega)) only [ac191, rng_Sx, load_cS, ↓Xa, Xb, Xc, ↓reduceIte, Nat.reduceLT, Nat.reduceEqDiff, Nat.reduceBEq, Nat.reduceLeDiff, Nat.reduceAdd, Nat.reduceMul]
  refine rng_i fun q hq => ?_
  obtain ⟨qa, qb⟩ := un_none.1 hq
  simp (disch := first | assumption | (apply Ap.symm; assumption) | omega | decide | (simp only [Xd] <;> omega)) only [↓Xa, Xb, Xc, ↓reduceIte, Nat.reduceLT, Nat.reduceEqDiff, Nat.reduceBEq, Nat.reduceLeDiff, Nat.reduceAdd, Nat.reduceMul]
  refine W_loop (fun s : Nat × AHeap => ⟨[], [(0, .yld b), (6, .ptr q 0 0)], (Un s.2 B).upd q (some (.raw (.stringIter ⟨l.toArray⟩ s.1)))⟩) (fun s => s.1 ≤ l.length ∧ Dj s.2 B ∧ s.2 q = none ∧ J ((l.map fun b => b.toNat - 48).take s.1) s.2) (fun s => l.length - s.1) (0, A) (Settle.now rfl) ⟨Nat.zero_le _, hd, qa, by simpa using h0⟩ ?_
  rintro ⟨i, A1⟩ ⟨hi, hd1, hq1, hj⟩
  dsimp only at hi hd1 hq1 hj ⊢
  by_cases h : i < l.length
  · have hdg := hg _ (List.getElem_mem h)
    have eg : l.getD i 0 = l[i] := by rw [List.getD_eq_getElem?_getD, List.getElem?_eq_getElem h, Option.getD_some]
    rw [← eg] at hdg
    unfold isDig at hdg
    have h128 : (l.getD i 0).toNat < 128 := by omega
    have hx : (l.map fun b => b.toNat - 48) = (l.map fun b => b.toNat - 48).take i ++ ((l.getD i 0).toNat - 48) :: (l.map fun b => b.toNat - 48).drop (i + 1) := by
      conv => lhs; rw [← List.take_append_drop i (l.map fun b => b.toNat - 48)]
      rw [List.drop_eq_getElem_cons (by simpa using h), List.getElem_map, eg]
    have hx2 : (l.map fun b => b.toNat - 48).take (i + 1) = (l.map fun b => b.toNat - 48).take i ++ [(l.getD i 0).toNat - 48] := by
      rw [List.take_add_one, List.getElem?_map, List.getElem?_eq_getElem h, eg]; rfl
    simp (disch := first | assumption | (apply Ap.symm; assumption) | omega | decide | (simp only [Xd] <;> omega)) only [nxt_Sl, wn_i32, cW_y, ↓Xa, Xb, Xc, ↓reduceIte, Nat.reduceLT, Nat.reduceEqDiff, Nat.reduceBEq, Nat.reduceLeDiff, Nat.reduceAdd, Nat.reduceMul]
    rw [← un_updR hq1]
    refine (hy _ _ _ A1 (B.upd q (some (.raw (.stringIter ⟨l.toArray⟩ (i + 1))))) hx (dj_updR hd1 hq1) hj).mono ?_
    rintro r H' ⟨A2, hd2, rfl, (⟨rfl, hj2⟩ | ⟨rfl, hj2⟩)⟩
    · have hq2 : A2 q = none := dj_atR hd2 (upd_same _ _ _)
      rw [un_updR hq2]
      simp (disch := first | assumption | (apply Ap.symm; assumption) | omega | decide | (simp only [Xd] <;> omega)) only [↓Xa, Xb, Xc, ↓reduceIte, Nat.reduceLT, Nat.reduceEqDiff, Nat.reduceBEq, Nat.reduceLeDiff, Nat.reduceAdd, Nat.reduceMul]
      refine Settle.keep [0, 6] ⟨(i + 1, A2), by dsimp only; omega, ⟨by dsimp only; omega, ?_, hq2, by dsimp only; rw [hx2]; exact hj2⟩, rfl⟩
      intro k
      by_cases e : k = q
      · subst e; exact .inl hq2
      · have := hd2 k
        rwa [upd_other _ _ e] at this
    · have hq2 : A2 q = none := dj_atR hd2 (upd_same _ _ _)
      have hd3 : Dj A2 B := fun k => by
        by_cases e : k = q
        · subst e; exact .inl hq2
        · have := hd2 k
          rwa [upd_other _ _ e] at this
      rw [un_updR hq2]
      simp (disch := first | assumption | (apply Ap.symm; assumption) | omega | decide | (simp only [Xd] <;> omega)) only [rs191, ↓Xa, Xb, Xc, ↓reduceIte, Nat.reduceLT, Nat.reduceEqDiff, Nat.reduceBEq, Nat.reduceLeDiff, Nat.reduceAdd, Nat.reduceMul]
      refine SetR.dropTo ((Le.refl _).upd (un_none.2 ⟨hq2, qb⟩)) (SetR.now ⟨A2, hd3, rfl, .inr hj2⟩)
  · obtain rfl : i = l.length := by omega
    simp (disch := first | assumption | (apply Ap.symm; assumption) | omega | decide | (simp only [Xd] <;> omega)) only [nxt_Sg, ↓Xa, Xb, Xc, ↓reduceIte, Nat.reduceLT, Nat.reduceEqDiff, Nat.reduceBEq, Nat.reduceLeDiff, Nat.reduceAdd, Nat.reduceMul]
    refine Settle.now ?_
    simp (disch := first | assumption | (apply Ap.symm; assumption) | omega | decide | (simp only [Xd] <;> omega)) only [rs191, ↓Xa, Xb, Xc, ↓reduceIte, Nat.reduceLT, Nat.reduceEqDiff, Nat.reduceBEq, Nat.reduceLeDiff, Nat.reduceAdd, Nat.reduceMul]
    rw [List.take_of_length_le (by simp)] at hj
    refine SetR.dropTo ((Le.refl _).upd (un_none.2 ⟨hq1, qb⟩)) (SetR.now ⟨A1, hd1, rfl, .inl hj⟩)
theorem digits_fn {l : List Nat} (t : Bool) (hl : Lim 4294967296 l) (hn : l.length ≤ 1099511627776) : PFn Tryd.prog 132 [LS l t] (.fn (.func 191) [] [.cptr [Sx (decT (val 4294967296 l))]]) := by
  intro H Q hq
  refine enter132 (by simp) ?_
  simp (disch := first | assumption | (apply Ap.symm; assumption) | omega | decide | (simp only [Xd] <;> omega)) only [ac132, ↓Xa, Xb, Xc, ↓reduceIte, Nat.reduceLT, Nat.reduceEqDiff, Nat.reduceBEq, Nat.reduceLeDiff, Nat.reduceAdd, Nat.reduceMul]
  refine (text_fn t hl hn).call ?_
  simp (disch := first | assumption | (apply Ap.symm; assumption) | omega | decide | (simp only [Xd] <;> omega)) only [↓Xa, Xb, Xc, ↓reduceIte, Nat.reduceLT, Nat.reduceEqDiff, Nat.reduceBEq, Nat.reduceLeDiff, Nat.reduceAdd, Nat.reduceMul]
  refine alloc_i fun p1 hp1 => ?_
  have n1 := hp1
  simp (disch := first | assumption | (apply Ap.symm; assumption) | omega | decide | (simp only [Xd] <;> omega)) only [cells_Sx, rs132, ↓Xa, Xb, Xc, ↓reduceIte, Nat.reduceLT, Nat.reduceEqDiff, Nat.reduceBEq, Nat.reduceLeDiff, Nat.reduceAdd, Nat.reduceMul]
  refine SetR.frzP p1 (upd_same _ _ _) ?_
  rw [upd_upd, upd_back _ n1]
  simp [frzP, frzP1]
  exact SetR.now hq
end Go.Proofs.YtanchgkiomfhhaaDoor.Fw

/- A whole number's text, as package integer tells it. -/
namespace Go.Proofs.YtanchgkiomfhhaaDoor.Fw
set_option linter.unusedSimpArgs false
set_option linter.unusedVariables false
open Go Go.Proofs.YtanchgkiomfhhaaDoor.Ma
set_option maxRecDepth 20000

def iText (z : Int) : List UInt8 := (if z < 0 then [45] else []) ++ decT z.natAbs
theorem Bt_app (l m : List UInt8) : Bt (l ++ m) = Bt l ++ Bt m := by simp [Bt]
theorem Bt_one {n : Nat} (h : n < 256) : [AV.int .u8 (n : Int)] = Bt [UInt8.ofNat n] := by
  simp only [Bt, List.map_cons, List.map_nil]
  rw [UInt8.toNat_ofNat', Nat.mod_eq_of_lt (by omega)]
theorem decT_len {n k : Nat} (h : n < 10 ^ k) (hk : 0 < k) : (decT n).length ≤ k := by
  unfold decT; split
  · simp; omega
  · exact dec_len h
theorem decT_bd {x : Int} {k : Nat} (hx : Bd k x) : (decT x.natAbs).length ≤ 10 * k + 1 := by
  refine decT_len (Nat.lt_of_lt_of_le hx ?_) (by omega)
  calc 4294967296 ^ k ≤ (10 ^ 10) ^ k := Nat.pow_le_pow_left (by omega) k
    _ = 10 ^ (10 * k) := by rw [Nat.pow_mul]
    _ ≤ 10 ^ (10 * k + 1) := Nat.pow_le_pow_right (by omega) (by omega)
theorem wn_u8' {n : Nat} (h : n < 256) : IntKind.u8.wrap (n : Int) = (n : Int) := by
  unfold IntKind.wrap; simp only [IntKind.bits, IntKind.signed, Bool.false_and, Bool.false_eq_true, if_false]; omega
theorem isDig_chr {b : UInt8} (h : isDig b) : UInt8.ofNat (48 + (b.toNat - 48)) = b := by
  unfold isDig at h
  rw [show 48 + (b.toNat - 48) = b.toNat by omega]; exact UInt8.ofNat_toNat
theorem b2s_B {H0 H : AHeap} {p tb ty : Nat} {l : List UInt8} (h : growB H0 p tb ty 1 l.length (Bt l) H) : ∃ x, H p = some (.row tb 0 [x]) ∧ AV.cells x = some [x] ∧ ∀ H' K, Le H H' → K (Sx l) → b2sW H' x K := by
  obtain ⟨x, hx, hc, _⟩ := growB_get h
  refine ⟨x, hx, ?_, ?_⟩
  · rcases hc with ⟨rfl, _, _⟩ | ⟨_, _, b, rfl, _⟩ <;> rfl
  · intro H' K hle k
    rcases hc with ⟨rfl, h0, hc⟩ | ⟨hn, hl, b, rfl, hb⟩
    · have : l = [] := List.eq_nil_of_length_eq_zero h0
      subst this
      exact ⟨rfl, k⟩
    · rw [Nat.mul_one, b2s_own, hle _ _ hb]
      refine ⟨by simp [Bt_len], rfl, by omega, ?_⟩
      rw [List.drop_zero, List.take_of_length_le (by simp [Bt_len]), bytesOf_Bt]
      exact k
def chD (d : Nat) : UInt8 := UInt8.ofNat (48 + d)
theorem chD_back : ∀ {l : List UInt8}, (∀ b, b ∈ l → isDig b) → (l.map fun b => b.toNat - 48).map chD = l := by
  intro l h
  rw [List.map_map]
  conv => rhs; rw [← List.map_id l]
  exact List.map_congr_left fun b hb => isDig_chr (h b hb)
theorem itext_fn {x : Int} {k : Nat} (hx : Bd k x) (hk : k ≤ 1000000) : PFn Tryd.prog 28 [IntA x] (Sx (iText x)) := by
  intro H Q hq
  have hdl := hx.len
  have hdt := decT_bd hx
  have hgd := good_decT x.natAbs
  refine enter28 (by simp) ?_
  simp (disch := first | assumption | (apply Ap.symm; assumption) | omega | decide | (simp only [Xd] <;> omega)) only [ac28, IntA, ↓Xa, Xb, Xc, ↓reduceIte, Nat.reduceLT, Nat.reduceEqDiff, Nat.reduceBEq, Nat.reduceLeDiff, Nat.reduceAdd, Nat.reduceMul]
  refine alloc_i fun p1 hp1 => ?_
  have n1 := hp1
  simp (disch := first | assumption | (apply Ap.symm; assumption) | omega | decide | (simp only [Xd] <;> omega)) only [↓Xa, Xb, Xc, ↓reduceIte, Nat.reduceLT, Nat.reduceEqDiff, Nat.reduceBEq, Nat.reduceLeDiff, Nat.reduceAdd, Nat.reduceMul]
  refine alloc_i fun p2 hp2 => ?_
  have n2 := hp2
  simp only [upd_none] at n2
  obtain ⟨_, n2⟩ := n2
  obtain ⟨neg, hneg⟩ : ∃ b, b = decide (x < 0) := ⟨_, rfl⟩
  rw [← hneg] at hp2 ⊢
  have tail : ∀ (pre : List UInt8) (H2 : AHeap) (v : Env), (v = [] ∨ v = [(6, .bool false)]) → pre.length ≤ 1 → pre ++ decT x.natAbs = iText x → growB (H.upd p1 (some (.row 28 0 [.bool neg, LS (digs 4294967296 x.natAbs) true]))) p2 103 5 1 pre.length (Bt pre) H2 →
      W Tryd.prog (sndC (sndC (sndC ac28))) (retN rs28 Q) ⟨[], [(1, .ptr p1 2 0), (2, Sx []), (3, .ptr p2 1 0)] ++ v, H2⟩ := by
    intro pre H2 v hv hp1 hpre hg
    have h1 : H2 p1 = some (.row 28 0 [.bool neg, LS (digs 4294967296 x.natAbs) true]) := by
      obtain ⟨_, _, _, hle⟩ := growB_get hg
      exact hle _ _ (upd_same _ _ _)
    rcases hv with rfl | rfl
    all_goals
     simp (disch := first | assumption | (apply Ap.symm; assumption) | omega | decide | (simp only [Xd] <;> omega)) only [sndC, ac28, h1, ↓Xa, Xb, Xc, ↓reduceIte, Nat.reduceLT, Nat.reduceEqDiff, Nat.reduceBEq, Nat.reduceLeDiff, Nat.reduceAdd, Nat.reduceMul]
     refine (digits_fn true (lim_digs (by omega) _) (by omega)).call ?_
     rw [val_digs (by omega)]
     simp (disch := first | assumption | (apply Ap.symm; assumption) | omega | decide | (simp only [Xd] <;> omega)) only [↓Xa, Xb, Xc, ↓reduceIte, Nat.reduceLT, Nat.reduceEqDiff, Nat.reduceBEq, Nat.reduceLeDiff, Nat.reduceAdd, Nat.reduceMul]
     obtain ⟨A, hd, rfl, hgA⟩ := growB_nu hg
     have hle : Le H (H.upd p1 (some (.row 28 0 [.bool neg, LS (digs 4294967296 x.natAbs) true]))) := (Le.refl H).upd n1
     refine rfn_iter (digits1_iter (fun b hb => hgd.2.1 b hb) (by omega)) (fun _ => rfl) (fun ds A => growB nilH p2 103 5 1 (pre ++ ds.map chD).length (Bt (pre ++ ds.map chD)) A) (fun _ _ => False) A _ hd rfl (by simpa using hgA) ?_ ?_ (fun _ _ _ _ _ _ h => h.elim)
     · intro ds d rest A B hds hdj hj R1 k1
       have hlen := congrArg List.length hds
       have hd10 : d < 10 := by
         have : d ∈ ((decT x.natAbs).map fun b => b.toNat - 48) := by rw [hds]; simp
         obtain ⟨b, hb, rfl⟩ := List.mem_map.1 this
         have := hgd.2.1 b hb
         unfold isDig at this; omega
       simp (disch := first | assumption | (apply Ap.symm; assumption) | omega | decide | (simp only [Xd] <;> omega)) only [setps, ↓Xa, Xb, Xc, ↓reduceIte, Nat.reduceLT, Nat.reduceEqDiff, Nat.reduceBEq, Nat.reduceLeDiff, Nat.reduceAdd, Nat.reduceMul]
       refine k1 _ A hdj fun R2 B1 k2 hd1 => ?_
       obtain ⟨y, hy, happ⟩ := growB_app (m := 1) (bytes := 1) (growB_un hj hd1)
       have e1 : IntKind.i64.wrap ((48 : Nat) + (d : Int)) = ((48 + d : Nat) : Int) := by rw [← Int.natCast_add]; exact wn_i64 (by omega)
       simp (disch := first | assumption | (apply Ap.symm; assumption) | omega | decide | (simp only [Xd] <;> omega)) only [hy, wn_u8', ↓Xa, Xb, Xc, ↓reduceIte, Nat.reduceLT, Nat.reduceEqDiff, Nat.reduceBEq, Nat.reduceLeDiff, Nat.reduceAdd, Nat.reduceMul]
       refine happ rfl rfl (by omega) ?_ ?_ fun x' H' hp hc hg2 => ?_
       · simp at hlen ⊢; omega
       · simp at hlen ⊢; omega
       simp (disch := first | assumption | (apply Ap.symm; assumption) | omega | decide | (simp only [Xd] <;> omega)) only [hp, hc, ↓Xa, Xb, Xc, ↓reduceIte, Nat.reduceLT, Nat.reduceEqDiff, Nat.reduceBEq, Nat.reduceLeDiff, Nat.reduceAdd, Nat.reduceMul]
       refine k2 .normal _ (Settle.now (growB_nu ?_))
       have e : pre ++ (ds ++ [d]).map chD = (pre ++ ds.map chD) ++ [chD d] := by simp
       dsimp only
       rw [e, List.length_append, Bt_app, show Bt [chD d] = [AV.int .u8 ((48 + d : Nat) : Int)] from (Bt_one (by omega)).symm]
       exact hg2
     · intro d A' hdj hA hB hj
       rw [chD_back hgd.2.1, hpre] at hj
       have hj2 := growB_un hj hdj
       obtain ⟨y, hy, hyc, hb2⟩ := b2s_B hj2
       obtain ⟨_, _, _, hle2⟩ := growB_get hj2
       have hdn := un_none.2 ⟨hA, hB⟩
       have hy2 : ((Un A' (H.upd p1 (some (.row 28 0 [.bool neg, LS (digs 4294967296 x.natAbs) true])))).upd d (some (.raw (.deferred (some []))))) p2 = some (.row 103 0 [y]) := by
         rw [upd_other _ _ (by rintro rfl; rw [hdn] at hy; cases hy)]; exact hy
       simp (disch := first | assumption | (apply Ap.symm; assumption) | omega | decide | (simp only [Xd] <;> omega)) only [hy2, ↓Xa, Xb, Xc, ↓reduceIte, Nat.reduceLT, Nat.reduceEqDiff, Nat.reduceBEq, Nat.reduceLeDiff, Nat.reduceAdd, Nat.reduceMul]
       refine hb2 _ _ ((Le.refl _).upd hdn) ?_
       simp (disch := first | assumption | (apply Ap.symm; assumption) | omega | decide | (simp only [Xd] <;> omega)) only [rs28, ↓Xa, Xb, Xc, ↓reduceIte, Nat.reduceLT, Nat.reduceEqDiff, Nat.reduceBEq, Nat.reduceLeDiff, Nat.reduceAdd, Nat.reduceMul]
       rw [upd_back _ hdn]
       exact SetR.dropTo (fun b x hb => hle2 _ _ (hle _ _ hb)) (SetR.now hq)
  have g0 := growB_nil (H0 := H.upd p1 (some (.row 28 0 [.bool neg, LS (digs 4294967296 x.natAbs) true]))) (tb := 103) (ty := 5) (es := 1) hp2
  cases neg with
  | true =>
    simp (disch := first | assumption | (apply Ap.symm; assumption) | omega | decide | (simp only [Xd] <;> omega)) only [↓Xa, Xb, Xc, ↓reduceIte, Nat.reduceLT, Nat.reduceEqDiff, Nat.reduceBEq, Nat.reduceLeDiff, Nat.reduceAdd, Nat.reduceMul]
    obtain ⟨y, hy, happ⟩ := growB_app (m := 1) (bytes := 1) g0
    obtain rfl : y = .seq 0 [] true := by rw [upd_same] at hy; injection hy with hy; injection hy with _ _ hy; injection hy with hy; exact hy.symm
    refine happ (by rfl) (by rfl) (by omega) (by omega) (by omega) fun x' H' hp hc hg2 => ?_
    simp (disch := first | assumption | (apply Ap.symm; assumption) | omega | decide | (simp only [Xd] <;> omega)) only [hp, hc, ↓Xa, Xb, Xc, ↓reduceIte, Nat.reduceLT, Nat.reduceEqDiff, Nat.reduceBEq, Nat.reduceLeDiff, Nat.reduceAdd, Nat.reduceMul]
    have tl := tail [45] _ [] (.inl rfl) (by simp) (by simp [iText, of_decide_eq_true hneg.symm]) hg2
    simp (disch := first | assumption | (apply Ap.symm; assumption) | omega | decide | (simp only [Xd] <;> omega)) only [sndC, ac28, ↓Xa, Xb, Xc, ↓reduceIte, Nat.reduceLT, Nat.reduceEqDiff, Nat.reduceBEq, Nat.reduceLeDiff, Nat.reduceAdd, Nat.reduceMul] at tl
    exact tl
  | false =>
    have tl := tail [] _ _ (.inr rfl) (by simp) (by simp [iText, of_decide_eq_false hneg.symm]) g0
    simp (disch := first | assumption | (apply Ap.symm; assumption) | omega | decide | (simp only [Xd] <;> omega)) only [sndC, ac28, ↓Xa, Xb, Xc, ↓reduceIte, Nat.reduceLT, Nat.reduceEqDiff, Nat.reduceBEq, Nat.reduceLeDiff, Nat.reduceAdd, Nat.reduceMul] at tl
    simp (disch := first | assumption | (apply Ap.symm; assumption) | omega | decide | (simp only [Xd] <;> omega)) only [↓Xa, Xb, Xc, ↓reduceIte, Nat.reduceLT, Nat.reduceEqDiff, Nat.reduceBEq, Nat.reduceLeDiff, Nat.reduceAdd, Nat.reduceMul]
    exact tl
end Go.Proofs.YtanchgkiomfhhaaDoor.Fw

/- A whole number's text read, as package integer and as its reference read it. -/
namespace Go.Proofs.YtanchgkiomfhhaaDoor.Fw
set_option linter.unusedSimpArgs false
set_option linter.unusedVariables false
open Go Go.Proofs.YtanchgkiomfhhaaDoor.Ma
set_option maxRecDepth 20000

def iFrom (l : List UInt8) : Nat := if (l.getD 0 0).toNat = 45 then 1 else 0
def iBad (l : List UInt8) (i : Nat) : Prop := (l.getD i 0).toNat < 48 ∨ 57 < (l.getD i 0).toNat ∨ (i = iFrom l + 1 ∧ (l.getD (iFrom l) 0).toNat = 48) ∨ (i = iFrom l ∧ iFrom l = 1 ∧ (l.getD i 0).toNat = 48)
def IsAt (l : List UInt8) (p : Nat) : Prop := iFrom l ≤ p ∧ p ≤ l.length ∧ iBad l p ∧ ∀ j, iFrom l ≤ j → j < p → ¬ iBad l j
def iVal (l : List UInt8) : Int := sg (decide (iFrom l = 1)) (decV (l.drop (iFrom l)))
def iReadA (l : List UInt8) (p : Nat) : AV :=
  if 65536 < l.length then .tup [IntA 0, spot 3 65536] else if p = iFrom l ∨ p < l.length then .tup [IntA 0, spot 6 p] else .tup [IntA (iVal l), spot 0 0]
end Go.Proofs.YtanchgkiomfhhaaDoor.Fw

/- A whole number's text, as the reference of layer 2 reads it. -/
namespace Go.Proofs.YtanchgkiomfhhaaDoor.Fw
set_option linter.unusedSimpArgs false
set_option linter.unusedVariables false
open Go Go.Proofs.YtanchgkiomfhhaaDoor.Ma
set_option maxRecDepth 20000

def rReadA (l : List UInt8) (p : Nat) : AV := if p = iFrom l ∨ p < l.length then .tup [RefA 0 true, .int .i64 (p : Int)] else .tup [RefA (iVal l) false, .int .i64 (-1)]
end Go.Proofs.YtanchgkiomfhhaaDoor.Fw

/- A whole number's text, as the reference of layer 2 tells it. -/
namespace Go.Proofs.YtanchgkiomfhhaaDoor.Fw
set_option linter.unusedSimpArgs false
set_option linter.unusedVariables false
open Go Go.Proofs.YtanchgkiomfhhaaDoor.Ma
set_option maxRecDepth 20000

def revI (i : Nat) (l : List UInt8) : List UInt8 := (List.range l.length).map fun j => if j < i ∨ l.length - i ≤ j then l.getD (l.length - 1 - j) 0 else l.getD j 0
end Go.Proofs.YtanchgkiomfhhaaDoor.Fw

/- Rows of whole numbers: what the functions that read them answer, the program's and the reference's. -/
namespace Go.Proofs.YtanchgkiomfhhaaDoor.Fw
set_option linter.unusedSimpArgs false
set_option linter.unusedVariables false
open Go Go.Proofs.YtanchgkiomfhhaaDoor.Ma
set_option maxRecDepth 20000

abbrev RowA (zs : List Int) (t : Bool) : AV := .seq zs.length (IC zs) t
def RC (zs : List Int) : List AV := zs.flatMap fun z => [RefB z, RefD z]
abbrev RefR (zs : List Int) (t : Bool) : AV := .seq zs.length (RC zs) t
theorem RC_len (zs : List Int) : (RC zs).length = zs.length * 2 := by
  induction zs with
  | nil => rfl
  | cons a l ih => simp only [RC, List.flatMap_cons, List.length_append, List.length_cons, List.length_nil] at *; omega
theorem RC_snoc (zs : List Int) (z : Int) : RC (zs ++ [z]) = RC zs ++ [RefB z, RefD z] := by simp [RC, List.flatMap_append]
theorem RC_drop : ∀ (l : List Int) (i : Nat) (h : i < l.length), (RC l).drop (i * 2) = RefB (l[i]) :: RefD (l[i]) :: (RC l).drop (i * 2 + 2)
  | a :: l, 0, _ => rfl
  | a :: l, i + 1, h => by
    have := RC_drop l i (by simpa using h)
    rw [show (i + 1) * 2 = i * 2 + 2 by omega]
    show ((RefB a :: RefD a :: RC l).drop (i * 2 + 2)) = _
    simp only [List.drop_succ_cons, List.getElem_cons_succ]
    rw [this]
    show _ = _ :: _ :: ((RefB a :: RefD a :: RC l).drop (i * 2 + 2 + 2))
    simp only [List.drop_succ_cons]
section
variable {K : AV → Prop} {H : AHeap} {k : IntKind} {t : Bool} {zs : List Int} {i : Nat}
theorem idx_IC (h : i < zs.length) : idxAW 2 (.seq zs.length (IC zs) t) (.int k (i : Int)) K = K (.cptr ((IC zs).drop (i * 2))) := idx_rw (IC_len zs) h
theorem idx_RC (h : i < zs.length) : idxAW 2 (.seq zs.length (RC zs) t) (.int k (i : Int)) K = K (.cptr ((RC zs).drop (i * 2))) := idx_rw (RC_len zs) h
theorem load_IC (h : i < zs.length) : loadW H (some 2) (.cptr ((IC zs).drop (i * 2))) K = K (IntA (zs[i])) := by
  simp only [loadW, cellsAt, IC_drop zs i h]; simp [IntA_eq]
theorem load_RC (h : i < zs.length) : loadW H (some 2) (.cptr ((RC zs).drop (i * 2))) K = K (RefA (zs[i]) false) := by
  simp only [loadW, cellsAt, RC_drop zs i h]; simp [RefA, RefB, RefD]
end
def RB4 (k : Nat) (zs : List Int) : Prop := (∀ z, z ∈ zs → Bd k z) ∧ zs.length < 4611686018427387904
theorem RB4.at {k : Nat} {zs : List Int} (h : RB4 k zs) {i : Nat} (hi : i < zs.length) : Bd k (zs[i]) := h.1 _ (List.getElem_mem hi)

/-! ### the reference -/
end Go.Proofs.YtanchgkiomfhhaaDoor.Fw

/- Rows of whole numbers: what is made of them. -/
namespace Go.Proofs.YtanchgkiomfhhaaDoor.Fw
set_option linter.unusedSimpArgs false
set_option linter.unusedVariables false
open Go Go.Proofs.YtanchgkiomfhhaaDoor.Ma
set_option maxRecDepth 20000

theorem repI1 {a b : AV} : repA [a, b] 2 = [a, b] := by simp [repA, List.range, List.range.loop]
theorem cellI {z : Int} : [IntB z, IntD z].all AV.cell = true := rfl
theorem IC_take {zs : List Int} {i : Nat} (h : i < zs.length) : IC (zs.take (i + 1)) = IC (zs.take i) ++ [IntB (zs[i]), IntD (zs[i])] := by
  rw [List.take_add_one, List.getElem?_eq_getElem h, Option.toList_some, IC_snoc]
theorem fn_cells {f : Go.Fn} {a b : List AV} : (AV.fn f a b).cells = some [.fn f a b] := id rfl
theorem callW_fn {P : Program} {f : FuncId} {first caps args : List AV} {H : AHeap} {K : AV → AHeap → Prop} (h : Run P f (first ++ args ++ caps) H K) : callW P (.fn (.func f) first caps) args H K := h

theorem each_run {H : AHeap} {Q : AV → AHeap → Prop} {f : AV} {zs ws : List Int} {t : Bool} {k : Nat} (hz : RB4 k zs) (hlen : ws.length = zs.length) (hbig : zs.length ≤ 1000000) (G : Nat → AHeap) (h0 : G 0 = H) (hd : ∀ i b, G i b = none ↔ H b = none)
    (hs : ∀ i (h : i < zs.length) (M : AHeap) (K : AV → AHeap → Prop), Le (G i) M → (∀ M', Le (G (i + 1)) M' → (∀ b, H b = none → M b ≠ none → M' b = M b) → K (IntA (ws[i]'(by omega))) M') → callW Tryd.prog f [IntA (zs[i])] M K)
    (hq : ∀ y M, growC (G zs.length) 28 2 zs.length (IC ws) y M → Q y M) : Run Tryd.prog 144 [RowA zs t, f] H Q := by
  have nz : zs.length < 9223372036854775808 := by have := hz.2; omega
  refine enter144 (by simp) ?_
  simp (disch := first | assumption | (apply Ap.symm; assumption) | omega | decide | (simp only [Xd] <;> omega)) only [ac144, len_rw, ↓Xa, Xb, Xc, ↓reduceIte, Nat.reduceLT, Nat.reduceEqDiff, Nat.reduceBEq, Nat.reduceLeDiff, Nat.reduceAdd, Nat.reduceMul]
  refine W_loop (fun s : Nat × AV × AHeap => ⟨[], [(1, f), (5, s.2.1), (8, RowA zs t), (9, .int .i64 (zs.length : Int)), (10, .int .i64 s.1)], s.2.2⟩) (fun s => s.1 ≤ zs.length ∧ growC (G s.1) 28 2 s.1 (IC (ws.take s.1)) s.2.1 s.2.2) (fun s => zs.length - s.1) (0, .seq 0 [] true, H) (Settle.now rfl) ⟨Nat.zero_le _, by rw [← h0]; exact growC_nil⟩ ?_
  rintro ⟨i, y, M⟩ ⟨h3, hg⟩
  dsimp only at h3 hg ⊢
  by_cases hi : i < zs.length
  · simp (disch := first | assumption | (apply Ap.symm; assumption) | omega | decide | (simp only [Xd] <;> omega)) only [hi, idx_IC, load_IC, ↓Xa, Xb, Xc, ↓reduceIte, Nat.reduceLT, Nat.reduceEqDiff, Nat.reduceBEq, Nat.reduceLeDiff, Nat.reduceAdd, Nat.reduceMul]
    refine alloc_i fun q hq1 => ?_
    simp (disch := first | assumption | (apply Ap.symm; assumption) | omega | decide | (simp only [Xd] <;> omega)) only [cells_IntA, fold_IntA, ↓Xa, Xb, Xc, ↓reduceIte, Nat.reduceLT, Nat.reduceEqDiff, Nat.reduceBEq, Nat.reduceLeDiff, Nat.reduceAdd, Nat.reduceMul]
    have hg1 := growC_upd (r := .row 28 0 [IntB (zs[i]), IntD (zs[i])]) hg hq1
    refine hs i hi _ _ ((growC_le hg).upd hq1) fun M' hM' hsame => ?_
    obtain ⟨H1, hg2, hl2⟩ := growC_move hg1 fun b hb hb2 => hsame b ((hd i b).1 (upd_none.1 hb).2) hb2
    simp (disch := first | assumption | (apply Ap.symm; assumption) | omega | decide | (simp only [Xd] <;> omega)) only [repI1, cells_IntA, ↓Xa, Xb, Xc, ↓reduceIte, Nat.reduceLT, Nat.reduceEqDiff, Nat.reduceBEq, Nat.reduceLeDiff, Nat.reduceAdd, Nat.reduceMul]
    refine app_C (m := 1) hg2 rfl cellI (by omega) (by omega) (by omega) fun y' M2 hg3 => ?_
    rw [← IC_take] at hg3
    obtain ⟨M3, hg4, hl4⟩ := growC_le2 hg3 (hl2 _ hM' fun b hb => (hd (i + 1) b).2 ((hd i b).1 (upd_none.1 hb).2))
    simp (disch := first | assumption | (apply Ap.symm; assumption) | omega | decide | (simp only [Xd] <;> omega)) only [↓Xa, Xb, Xc, ↓reduceIte, Nat.reduceLT, Nat.reduceEqDiff, Nat.reduceBEq, Nat.reduceLeDiff, Nat.reduceAdd, Nat.reduceMul]
    exact Settle.dropTo hl4 (Settle.now ⟨(i + 1, y', M3), by dsimp only; omega, ⟨by dsimp only; omega, hg4⟩, rfl⟩)
  · obtain rfl : i = zs.length := by omega
    rw [List.take_of_length_le (by omega)] at hg
    simp (disch := first | assumption | (apply Ap.symm; assumption) | omega | decide | (simp only [Xd] <;> omega)) only [hi, ↓Xa, Xb, Xc, ↓reduceIte, Nat.reduceLT, Nat.reduceEqDiff, Nat.reduceBEq, Nat.reduceLeDiff, Nat.reduceAdd, Nat.reduceMul]
    refine Settle.now ?_
    simp (disch := first | assumption | (apply Ap.symm; assumption) | omega | decide | (simp only [Xd] <;> omega)) only [rs144, ↓Xa, Xb, Xc, ↓reduceIte, Nat.reduceLT, Nat.reduceEqDiff, Nat.reduceBEq, Nat.reduceLeDiff, Nat.reduceAdd, Nat.reduceMul]
    exact SetR.now (hq y M hg)
theorem each_pure {H : AHeap} {Q : AV → AHeap → Prop} {f : AV} {zs ws : List Int} {t : Bool} {k : Nat} (hz : RB4 k zs) (hlen : ws.length = zs.length) (hbig : zs.length ≤ 1000000)
    (hs : ∀ i (h : i < zs.length) (M : AHeap) (K : AV → AHeap → Prop), Le H M → K (IntA (ws[i]'(by omega))) M → callW Tryd.prog f [IntA (zs[i])] M K)
    (hq : ∀ y M, growC H 28 2 zs.length (IC ws) y M → Q y M) : Run Tryd.prog 144 [RowA zs t, f] H Q :=
  each_run hz hlen hbig (fun _ => H) rfl (fun _ _ => Iff.rfl) (fun i h M K hl hk => hs i h M K hl (hk M hl fun _ _ _ => rfl)) hq
theorem rown_run {H : AHeap} {Q : AV → AHeap → Prop} {zs : List Int} {t : Bool} {k : Nat} (hz : RB4 k zs) (hk : k ≤ 1000000) (hbig : zs.length ≤ 1000000) (hq : ∀ y M, growC H 28 2 zs.length (IC (zs.map (- ·))) y M → Q y M) : Run Tryd.prog 41 [RowA zs t] H Q := by
  refine enter41 (by simp) ?_
  simp (disch := first | assumption | (apply Ap.symm; assumption) | omega | decide | (simp only [Xd] <;> omega)) only [ac41, ↓Xa, Xb, Xc, ↓reduceIte, Nat.reduceLT, Nat.reduceEqDiff, Nat.reduceBEq, Nat.reduceLeDiff, Nat.reduceAdd, Nat.reduceMul]
  refine run_call (each_pure hz (ws := zs.map (- ·)) (by simp) hbig (fun i h M K _ hK => ?_) fun y M hg => ?_)
  · exact (neg_fn (hz.at h) (by omega)).call (by simpa using hK)
  · simp (disch := first | assumption | (apply Ap.symm; assumption) | omega | decide | (simp only [Xd] <;> omega)) only [rs41, ↓Xa, Xb, Xc, ↓reduceIte, Nat.reduceLT, Nat.reduceEqDiff, Nat.reduceBEq, Nat.reduceLeDiff, Nat.reduceAdd, Nat.reduceMul]
    exact SetR.now (hq y M hg)
theorem rowsc_run {H : AHeap} {Q : AV → AHeap → Prop} {zs : List Int} {t : Bool} {c : Int} {k k' : Nat} (hz : RB4 k zs) (hc : Bd k' c) (hk : k + k' ≤ 1000000) (hbig : zs.length ≤ 1000000) (hq : ∀ y M, growC H 28 2 zs.length (IC (zs.map (c * ·))) y M → Q y M) : Run Tryd.prog 42 [RowA zs t, IntA c] H Q := by
  refine enter42 (by simp) ?_
  simp (disch := first | assumption | (apply Ap.symm; assumption) | omega | decide | (simp only [Xd] <;> omega)) only [ac42, cells_IntA, ↓Xa, Xb, Xc, ↓reduceIte, Nat.reduceLT, Nat.reduceEqDiff, Nat.reduceBEq, Nat.reduceLeDiff, Nat.reduceAdd, Nat.reduceMul]
  refine alloc_i fun p1 hp1 => ?_
  have n1 := hp1
  simp (disch := first | assumption | (apply Ap.symm; assumption) | omega | decide | (simp only [Xd] <;> omega)) only [fold_IntA, ↓Xa, Xb, Xc, ↓reduceIte, Nat.reduceLT, Nat.reduceEqDiff, Nat.reduceBEq, Nat.reduceLeDiff, Nat.reduceAdd, Nat.reduceMul]
  refine run_call (each_pure hz (ws := zs.map (c * ·)) (by simp) hbig (fun i h M K _ hK => ?_) fun y M hg => ?_)
  · refine callW_fn ?_
    exact muli_fn hc (by omega) (hz.at h) (by omega) _ _ (by simpa using hK)
  · simp (disch := first | assumption | (apply Ap.symm; assumption) | omega | decide | (simp only [Xd] <;> omega)) only [rs42, ↓Xa, Xb, Xc, ↓reduceIte, Nat.reduceLT, Nat.reduceEqDiff, Nat.reduceBEq, Nat.reduceLeDiff, Nat.reduceAdd, Nat.reduceMul]
    obtain ⟨M2, hg2, hl⟩ := growC_le2 hg ((Le.refl H).updB n1)
    exact SetR.dropTo hl (SetR.now (hq y M2 hg2))

theorem Le.both {A B : AHeap} {p : Nat} {x : Option ABlk} (h : Le A B) : Le (A.upd p x) (B.upd p x) := fun o y ho => by
  by_cases e : o = p
  · subst e; rw [upd_same] at ho ⊢; exact ho
  · rw [upd_other _ _ e] at ho ⊢; exact h o y ho
theorem add_m1 {i : Nat} {K : AV → Prop} (h : i < 4611686018427387904) : binW .add (.int .i64 ((i : Int) - 1)) (.int .i64 ((1 : Nat) : Int)) K ↔ K (.int .i64 (i : Int)) := by
  have e : IntKind.i64.wrap ((i : Int) - 1 + ((1 : Nat) : Int)) = (i : Int) := by rw [show ((i : Int) - 1 + ((1 : Nat) : Int)) = (i : Int) by omega]; exact wrap_i64 (by omega) (by omega)
  have : ∀ a b : Int, binW .add (.int .i64 a) (.int .i64 b) K ↔ K (.int .i64 (IntKind.i64.wrap (a + b))) := fun a b => by simp [binW, binInt]
  rw [this, e]
theorem both1_run {M : AHeap} {K : AV → AHeap → Prop} {f : AV} {x y z : Int} {ws : List Int} {t' : Bool} {i p1 p2 p3 T1 T2 T3 : Nat} (m1 : M p1 = some (.row T1 0 [RowA ws t'])) (m2 : M p2 = some (.row T2 0 [f])) (m3 : M p3 = some (.row T3 0 [.int .i64 ((i : Int) - 1)])) (h1 : Ap p1 p3) (h2 : Ap p2 p3)
    (hi : i < ws.length) (hb : ws.length ≤ 1000000) (hy : ws[i] = y)
    (hs : ∀ (M2 : AHeap) (K : AV → AHeap → Prop), Le (M.upd p3 (some (.row T3 0 [.int .i64 (i : Int)]))) M2 → K (IntA z) M2 → callW Tryd.prog f [IntA x, IntA y] M2 K)
    (hK : K (IntA z) (M.upd p3 (some (.row T3 0 [.int .i64 (i : Int)])))) : Run Tryd.prog 198 [IntA x, .ptr p3 1 0, .ptr p2 1 0, .ptr p1 1 0] M K := by
  subst hy
  refine enter198 (by simp) ?_
  simp (disch := first | assumption | (apply Ap.symm; assumption) | omega | decide | (simp only [Xd] <;> omega)) only [ac198, cells_IntA, ↓Xa, Xb, Xc, ↓reduceIte, Nat.reduceLT, Nat.reduceEqDiff, Nat.reduceBEq, Nat.reduceLeDiff, Nat.reduceAdd, Nat.reduceMul]
  refine alloc_i fun a ha => ?_
  have a1 := ne_of_some m1 ha
  have a2 := ne_of_some m2 ha
  have a3 := ne_of_some m3 ha
  simp (disch := first | assumption | (apply Ap.symm; assumption) | omega | decide | (simp only [Xd] <;> omega)) only [↓Xa, Xb, Xc, ↓reduceIte, Nat.reduceLT, Nat.reduceEqDiff, Nat.reduceBEq, Nat.reduceLeDiff, Nat.reduceAdd, Nat.reduceMul]
  refine alloc_i fun b hb => ?_
  obtain ⟨b4, hb'⟩ := upd_none.1 hb
  have b1 := ne_of_some m1 hb'
  have b2 := ne_of_some m2 hb'
  have b3 := ne_of_some m3 hb'
  simp (disch := first | assumption | (apply Ap.symm; assumption) | omega | decide | (simp only [Xd] <;> omega)) only [m1, m2, m3, add_m1, idx_IC, load_IC, fold_IntA, ↓Xa, Xb, Xc, ↓reduceIte, Nat.reduceLT, Nat.reduceEqDiff, Nat.reduceBEq, Nat.reduceLeDiff, Nat.reduceAdd, Nat.reduceMul]
  have hle : Le (M.upd p3 (some (.row T3 0 [.int .i64 (i : Int)]))) (((M.upd a (some (.row 28 0 [IntB x, IntD x]))).upd b (some (.row 28 0 [.bool false, .seq 0 [] true]))).upd p3 (some (.row T3 0 [.int .i64 (i : Int)]))) := (((Le.refl M).updB ha).updB hb').both
  refine hs _ _ hle ?_
  simp (disch := first | assumption | (apply Ap.symm; assumption) | omega | decide | (simp only [Xd] <;> omega)) only [cells_IntA, fold_IntA, rs198, ↓Xa, Xb, Xc, ↓reduceIte, Nat.reduceLT, Nat.reduceEqDiff, Nat.reduceBEq, Nat.reduceLeDiff, Nat.reduceAdd, Nat.reduceMul]
  exact SetR.dropTo (((Le.refl M).updB ha).updB hb').both (SetR.now hK)
theorem both_run {H : AHeap} {Q : AV → AHeap → Prop} {f : AV} {zs ws us : List Int} {t t' : Bool} {k : Nat} (hz : RB4 k zs) (hw : RB4 k ws) (hl1 : zs.length = ws.length) (hl2 : us.length = zs.length) (hbig : zs.length ≤ 1000000) (hfc : f.cells = some [f])
    (hs : ∀ i (h : i < zs.length) (M : AHeap) (K : AV → AHeap → Prop), Le H M → K (IntA (us[i]'(by omega))) M → callW Tryd.prog f [IntA (zs[i]), IntA (ws[i]'(by omega))] M K)
    (hq : ∀ y M, growC H 28 2 zs.length (IC us) y M → Q (.tup [y, .int .i64 ((0 : Nat) : Int)]) M) : Run Tryd.prog 140 [RowA zs t, RowA ws t', f] H Q := by
  have nz : zs.length < 9223372036854775808 := by have := hz.2; omega
  have nw : ws.length < 9223372036854775808 := by omega
  have hne : decide (((zs.length : Nat) : Int) = ((ws.length : Nat) : Int)) = true := decide_eq_true (by omega)
  refine enter140 (by simp) ?_
  simp (disch := first | assumption | (apply Ap.symm; assumption) | omega | decide | (simp only [Xd] <;> omega)) only [ac140, ↓Xa, Xb, Xc, ↓reduceIte, Nat.reduceLT, Nat.reduceEqDiff, Nat.reduceBEq, Nat.reduceLeDiff, Nat.reduceAdd, Nat.reduceMul]
  refine alloc_i fun p1 hp1 => ?_
  have n1 := hp1
  simp (disch := first | assumption | (apply Ap.symm; assumption) | omega | decide | (simp only [Xd] <;> omega)) only [hfc, ↓Xa, Xb, Xc, ↓reduceIte, Nat.reduceLT, Nat.reduceEqDiff, Nat.reduceBEq, Nat.reduceLeDiff, Nat.reduceAdd, Nat.reduceMul]
  refine alloc_i fun p2 hp2 => ?_
  have n2 := hp2
  simp only [upd_none] at n2
  obtain ⟨_, n2⟩ := n2
  simp (disch := first | assumption | (apply Ap.symm; assumption) | omega | decide | (simp only [Xd] <;> omega)) only [len_rw, neq_int, hne, ↓Xa, Xb, Xc, ↓reduceIte, Nat.reduceLT, Nat.reduceEqDiff, Nat.reduceBEq, Nat.reduceLeDiff, Nat.reduceAdd, Nat.reduceMul]
  refine alloc_i fun p3 hp3 => ?_
  have n3 := hp3
  simp only [upd_none] at n3
  obtain ⟨_, _, n3⟩ := n3
  simp (disch := first | assumption | (apply Ap.symm; assumption) | omega | decide | (simp only [Xd] <;> omega)) only [↓Xa, Xb, Xc, ↓reduceIte, Nat.reduceLT, Nat.reduceEqDiff, Nat.reduceBEq, Nat.reduceLeDiff, Nat.reduceAdd, Nat.reduceMul]
  let G : Nat → AHeap := fun i => ((H.upd p1 (some (.row 32 0 [RowA ws t']))).upd p2 (some (.row 178 0 [f]))).upd p3 (some (.row 3 0 [.int .i64 ((i : Int) - 1)]))
  have hG : ∀ i, G i = ((H.upd p1 (some (.row 32 0 [RowA ws t']))).upd p2 (some (.row 178 0 [f]))).upd p3 (some (.row 3 0 [.int .i64 ((i : Int) - 1)])) := fun _ => rfl
  refine run_call (each_run hz hl2 hbig G (by rw [hG]; rfl) (fun i b => by rw [hG]; simp only [upd_none]) (fun i h M K hM hK => ?_) fun y M hg => ?_)
  · have m1 : M p1 = some (.row 32 0 [RowA ws t']) := hM _ _ (by rw [hG, upd_other _ _ (by apply Ne.symm; assumption), upd_other _ _ (by apply Ne.symm; assumption), upd_same])
    have m2 : M p2 = some (.row 178 0 [f]) := hM _ _ (by rw [hG, upd_other _ _ (by apply Ne.symm; assumption), upd_same])
    have m3 : M p3 = some (.row 3 0 [.int .i64 ((i : Int) - 1)]) := hM _ _ (by rw [hG, upd_same])
    have hMH : Le H (M.upd p3 (some (.row 3 0 [.int .i64 (i : Int)]))) := fun o x ho => by
      have e : o ≠ p3 := by rintro rfl; rw [n3] at ho; cases ho
      rw [upd_other _ _ e]
      refine hM o x ?_
      have e1 : o ≠ p1 := by rintro rfl; rw [n1] at ho; cases ho
      have e2 : o ≠ p2 := by rintro rfl; rw [n2] at ho; cases ho
      rw [hG, upd_other _ _ e, upd_other _ _ e2, upd_other _ _ e1]; exact ho
    refine callW_fn (both1_run m1 m2 m3 (by apply Ne.symm; assumption) (by apply Ne.symm; assumption) (by omega) (by omega) rfl (fun M2 K2 hM2 hK2 => hs i h M2 K2 (fun o x ho => hM2 o x (hMH o x ho)) hK2) (hK _ ?_ fun b hb _ => ?_))
    · intro o x ho
      rw [hG] at ho
      by_cases e : o = p3
      · subst e
        rw [upd_same] at ho ⊢
        rw [← ho, show (((i + 1 : Nat) : Int) - 1) = (i : Int) by omega]
      · rw [upd_other _ _ e] at ho ⊢
        refine hM o x ?_
        rw [hG, upd_other _ _ e]; exact ho
    · exact upd_other _ _ (upd_none.1 hb).1
  · have hle : Le H (G zs.length) := by rw [hG]; exact (((Le.refl H).updB n1).updB n2).updB n3
    obtain ⟨M2, hg2, hl⟩ := growC_le2 hg hle
    simp (disch := first | assumption | (apply Ap.symm; assumption) | omega | decide | (simp only [Xd] <;> omega)) only [rs140, ↓Xa, Xb, Xc, ↓reduceIte, Nat.reduceLT, Nat.reduceEqDiff, Nat.reduceBEq, Nat.reduceLeDiff, Nat.reduceAdd, Nat.reduceMul]
    exact SetR.dropTo hl (SetR.now (hq y M2 hg2))
theorem both_ne {f : AV} {zs ws : List Int} {t t' : Bool} (hz : zs.length < 9223372036854775808) (hw : ws.length < 9223372036854775808) (hl : zs.length ≠ ws.length) (hfc : f.cells = some [f]) :
    PFn Tryd.prog 140 [RowA zs t, RowA ws t', f] (.tup [.seq 0 [] true, .int .i64 ((5 : Nat) : Int)]) := by
  intro H Q hq
  have hne : decide (((zs.length : Nat) : Int) = ((ws.length : Nat) : Int)) = false := decide_eq_false (by omega)
  refine enter140 (by simp) ?_
  simp (disch := first | assumption | (apply Ap.symm; assumption) | omega | decide | (simp only [Xd] <;> omega)) only [ac140, ↓Xa, Xb, Xc, ↓reduceIte, Nat.reduceLT, Nat.reduceEqDiff, Nat.reduceBEq, Nat.reduceLeDiff, Nat.reduceAdd, Nat.reduceMul]
  refine alloc_i fun p1 hp1 => ?_
  have n1 := hp1
  simp (disch := first | assumption | (apply Ap.symm; assumption) | omega | decide | (simp only [Xd] <;> omega)) only [hfc, ↓Xa, Xb, Xc, ↓reduceIte, Nat.reduceLT, Nat.reduceEqDiff, Nat.reduceBEq, Nat.reduceLeDiff, Nat.reduceAdd, Nat.reduceMul]
  refine alloc_i fun p2 hp2 => ?_
  have n2 := hp2
  simp only [upd_none] at n2
  obtain ⟨_, n2⟩ := n2
  simp (disch := first | assumption | (apply Ap.symm; assumption) | omega | decide | (simp only [Xd] <;> omega)) only [len_rw, neq_int, hne, rs140, ↓Xa, Xb, Xc, ↓reduceIte, Nat.reduceLT, Nat.reduceEqDiff, Nat.reduceBEq, Nat.reduceLeDiff, Nat.reduceAdd, Nat.reduceMul]
  exact SetR.dropTo (((Le.refl H).updB n1).updB n2) (SetR.now hq)
section
variable {H : AHeap} {Q : AV → AHeap → Prop} {zs ws : List Int} {t t' : Bool} {k : Nat}
theorem zip_len {f : Int → Int → Int} (h : zs.length = ws.length) : (zipI f zs ws).length = zs.length := by simp [zipI, h]
theorem zip_at {f : Int → Int → Int} (h : zs.length = ws.length) {i : Nat} (hi : i < zs.length) (hi2 : i < (zipI f zs ws).length) : (zipI f zs ws)[i] = f (zs[i]) (ws[i]'(by omega)) := by simp [zipI]
theorem rowadd_run (hz : RB4 k zs) (hw : RB4 k ws) (hk : k ≤ 1000000) (hl : zs.length = ws.length) (hbig : zs.length ≤ 1000000) (hq : ∀ y M, growC H 28 2 zs.length (IC (zipI (· + ·) zs ws)) y M → Q (.tup [y, .int .i64 ((0 : Nat) : Int)]) M) : Run Tryd.prog 37 [RowA zs t, RowA ws t'] H Q := by
  refine enter37 (by simp) ?_
  simp (disch := first | assumption | (apply Ap.symm; assumption) | omega | decide | (simp only [Xd] <;> omega)) only [ac37, ↓Xa, Xb, Xc, ↓reduceIte, Nat.reduceLT, Nat.reduceEqDiff, Nat.reduceBEq, Nat.reduceLeDiff, Nat.reduceAdd, Nat.reduceMul]
  refine run_call (both_run hz hw hl (zip_len hl) hbig fn_cells (fun i h M K _ hK => (addi_fn (hz.at h) (by omega) (hw.at (by omega)) (by omega)).call (by rw [zip_at hl h] at hK; exact hK)) fun y M hg => ?_)
  simp (disch := first | assumption | (apply Ap.symm; assumption) | omega | decide | (simp only [Xd] <;> omega)) only [rs37, ↓Xa, Xb, Xc, ↓reduceIte, Nat.reduceLT, Nat.reduceEqDiff, Nat.reduceBEq, Nat.reduceLeDiff, Nat.reduceAdd, Nat.reduceMul]
  exact SetR.now (hq y M hg)
theorem rowadd_ne (hz : zs.length < 9223372036854775808) (hw : ws.length < 9223372036854775808) (hl : zs.length ≠ ws.length) : PFn Tryd.prog 37 [RowA zs t, RowA ws t'] (.tup [.seq 0 [] true, .int .i64 ((5 : Nat) : Int)]) := by
  intro H Q hq
  refine enter37 (by simp) ?_
  simp (disch := first | assumption | (apply Ap.symm; assumption) | omega | decide | (simp only [Xd] <;> omega)) only [ac37, ↓Xa, Xb, Xc, ↓reduceIte, Nat.reduceLT, Nat.reduceEqDiff, Nat.reduceBEq, Nat.reduceLeDiff, Nat.reduceAdd, Nat.reduceMul]
  refine (both_ne hz hw hl fn_cells).call ?_
  simp (disch := first | assumption | (apply Ap.symm; assumption) | omega | decide | (simp only [Xd] <;> omega)) only [rs37, ↓Xa, Xb, Xc, ↓reduceIte, Nat.reduceLT, Nat.reduceEqDiff, Nat.reduceBEq, Nat.reduceLeDiff, Nat.reduceAdd, Nat.reduceMul]
  exact SetR.now hq
theorem rowsub_run (hz : RB4 k zs) (hw : RB4 k ws) (hk : k ≤ 1000000) (hl : zs.length = ws.length) (hbig : zs.length ≤ 1000000) (hq : ∀ y M, growC H 28 2 zs.length (IC (zipI (· - ·) zs ws)) y M → Q (.tup [y, .int .i64 ((0 : Nat) : Int)]) M) : Run Tryd.prog 38 [RowA zs t, RowA ws t'] H Q := by
  refine enter38 (by simp) ?_
  simp (disch := first | assumption | (apply Ap.symm; assumption) | omega | decide | (simp only [Xd] <;> omega)) only [ac38, ↓Xa, Xb, Xc, ↓reduceIte, Nat.reduceLT, Nat.reduceEqDiff, Nat.reduceBEq, Nat.reduceLeDiff, Nat.reduceAdd, Nat.reduceMul]
  refine run_call (both_run hz hw hl (zip_len hl) hbig fn_cells (fun i h M K _ hK => (subi_fn (hz.at h) (by omega) (hw.at (by omega)) (by omega)).call (by rw [zip_at hl h] at hK; exact hK)) fun y M hg => ?_)
  simp (disch := first | assumption | (apply Ap.symm; assumption) | omega | decide | (simp only [Xd] <;> omega)) only [rs38, ↓Xa, Xb, Xc, ↓reduceIte, Nat.reduceLT, Nat.reduceEqDiff, Nat.reduceBEq, Nat.reduceLeDiff, Nat.reduceAdd, Nat.reduceMul]
  exact SetR.now (hq y M hg)
theorem rowsub_ne (hz : zs.length < 9223372036854775808) (hw : ws.length < 9223372036854775808) (hl : zs.length ≠ ws.length) : PFn Tryd.prog 38 [RowA zs t, RowA ws t'] (.tup [.seq 0 [] true, .int .i64 ((5 : Nat) : Int)]) := by
  intro H Q hq
  refine enter38 (by simp) ?_
  simp (disch := first | assumption | (apply Ap.symm; assumption) | omega | decide | (simp only [Xd] <;> omega)) only [ac38, ↓Xa, Xb, Xc, ↓reduceIte, Nat.reduceLT, Nat.reduceEqDiff, Nat.reduceBEq, Nat.reduceLeDiff, Nat.reduceAdd, Nat.reduceMul]
  refine (both_ne hz hw hl fn_cells).call ?_
  simp (disch := first | assumption | (apply Ap.symm; assumption) | omega | decide | (simp only [Xd] <;> omega)) only [rs38, ↓Xa, Xb, Xc, ↓reduceIte, Nat.reduceLT, Nat.reduceEqDiff, Nat.reduceBEq, Nat.reduceLeDiff, Nat.reduceAdd, Nat.reduceMul]
  exact SetR.now hq
theorem rowdot_fn (hz : RB4 k zs) (hw : RB4 k ws) (hk : k + k ≤ 1000000) (hl : zs.length = ws.length) (hbig : zs.length < 1000000) : PFn Tryd.prog 40 [RowA zs t, RowA ws t'] (.tup [IntA (dotF 0 zs ws), .int .i64 ((0 : Nat) : Int)]) := by
  intro H Q hq
  refine enter40 (by simp) ?_
  simp (disch := first | assumption | (apply Ap.symm; assumption) | omega | decide | (simp only [Xd] <;> omega)) only [ac40, ↓Xa, Xb, Xc, ↓reduceIte, Nat.reduceLT, Nat.reduceEqDiff, Nat.reduceBEq, Nat.reduceLeDiff, Nat.reduceAdd, Nat.reduceMul]
  refine alloc_i fun p1 hp1 => ?_
  have n1 := hp1
  simp (disch := first | assumption | (apply Ap.symm; assumption) | omega | decide | (simp only [Xd] <;> omega)) only [↓Xa, Xb, Xc, ↓reduceIte, Nat.reduceLT, Nat.reduceEqDiff, Nat.reduceBEq, Nat.reduceLeDiff, Nat.reduceAdd, Nat.reduceMul]
  have bz : ∀ z, z ∈ zipI (· * ·) zs ws → Bd (k + k) z := fun z hm => by
    obtain ⟨i, hi, rfl⟩ := List.getElem_of_mem hm
    have hi2 : i < zs.length := by rw [zip_len hl] at hi; exact hi
    rw [zip_at hl hi2]
    exact (hz.at hi2).mul (hw.at (by omega))
  have eIC : ∀ l : List Int, IC l = IntC l := fun l => by
    induction l with
    | nil => rfl
    | cons a l ih => show IntB a :: IntD a :: IC l = _; rw [ih]; rfl
  have both := PFn.frozen1 (P := Tryd.prog) (f := 140) (args := [RowA zs t, RowA ws t', .fn (.func 89) [] []]) (ty := 28) (es := 2) (n := zs.length) (cells := IC (zipI (· * ·) zs ws)) (k := .i64) (e := ((0 : Nat) : Int)) fun H Q hq =>
    both_run hz hw hl (zip_len hl) (by omega) fn_cells (fun i h M K _ hK => (muli_fn (hz.at h) (by omega) (hw.at (by omega)) (by omega)).call (by rw [zip_at hl h] at hK; exact hK)) hq
  refine both.call ?_
  rw [eIC]
  have hs := sumi_fn (zipI (· * ·) zs ws) false (k := k + k) (by rw [zip_len hl]; exact hbig) bz (by omega)
  rw [zip_len hl] at hs
  simp (disch := first | assumption | (apply Ap.symm; assumption) | omega | decide | (simp only [Xd] <;> omega)) only [↓Xa, Xb, Xc, ↓reduceIte, Nat.reduceLT, Nat.reduceEqDiff, Nat.reduceBEq, Nat.reduceLeDiff, Nat.reduceAdd, Nat.reduceMul]
  refine hs.call ?_
  simp (disch := first | assumption | (apply Ap.symm; assumption) | omega | decide | (simp only [Xd] <;> omega)) only [cells_IntA, fold_IntA, rs40, ↓Xa, Xb, Xc, ↓reduceIte, Nat.reduceLT, Nat.reduceEqDiff, Nat.reduceBEq, Nat.reduceLeDiff, Nat.reduceAdd, Nat.reduceMul]
  exact SetR.dropTo ((Le.refl H).updB n1) (SetR.now hq)
theorem rowdot_ne (hz : zs.length < 9223372036854775808) (hw : ws.length < 9223372036854775808) (hl : zs.length ≠ ws.length) : PFn Tryd.prog 40 [RowA zs t, RowA ws t'] (.tup [IntA 0, .int .i64 ((5 : Nat) : Int)]) := by
  intro H Q hq
  refine enter40 (by simp) ?_
  simp (disch := first | assumption | (apply Ap.symm; assumption) | omega | decide | (simp only [Xd] <;> omega)) only [ac40, ↓Xa, Xb, Xc, ↓reduceIte, Nat.reduceLT, Nat.reduceEqDiff, Nat.reduceBEq, Nat.reduceLeDiff, Nat.reduceAdd, Nat.reduceMul]
  refine alloc_i fun p1 hp1 => ?_
  have n1 := hp1
  simp (disch := first | assumption | (apply Ap.symm; assumption) | omega | decide | (simp only [Xd] <;> omega)) only [↓Xa, Xb, Xc, ↓reduceIte, Nat.reduceLT, Nat.reduceEqDiff, Nat.reduceBEq, Nat.reduceLeDiff, Nat.reduceAdd, Nat.reduceMul]
  refine (both_ne hz hw hl fn_cells).call ?_
  simp (disch := first | assumption | (apply Ap.symm; assumption) | omega | decide | (simp only [Xd] <;> omega)) only [↓Xa, Xb, Xc, ↓reduceIte, Nat.reduceLT, Nat.reduceEqDiff, Nat.reduceBEq, Nat.reduceLeDiff, Nat.reduceAdd, Nat.reduceMul]
  refine (sumi_fn [] true (k := 0) (by simp) (fun z h => by simp at h) (by omega)).call ?_
  simp (disch := first | assumption | (apply Ap.symm; assumption) | omega | decide | (simp only [Xd] <;> omega)) only [cells_IntA, fold_IntA, rs40, ↓Xa, Xb, Xc, ↓reduceIte, Nat.reduceLT, Nat.reduceEqDiff, Nat.reduceBEq, Nat.reduceLeDiff, Nat.reduceAdd, Nat.reduceMul]
  exact SetR.dropTo ((Le.refl H).updB n1) (SetR.now hq)
theorem comb1_run {M : AHeap} {K : AV → AHeap → Prop} {c d x y : Int} {p1 p2 T1 T2 k k' : Nat} (m1 : M p1 = some (.row T1 0 [IntB c, IntD c])) (m2 : M p2 = some (.row T2 0 [IntB d, IntD d])) (hc : Bd k' c) (hd : Bd k' d) (hx : Bd k x) (hy : Bd k y) (hk : k + k' + 1 ≤ 1000000)
    (hK : K (IntA (c * x + d * y)) M) : Run Tryd.prog 142 [IntA x, IntA y, .ptr p1 2 0, .ptr p2 2 0] M K := by
  refine enter142 (by simp) ?_
  simp (disch := first | assumption | (apply Ap.symm; assumption) | omega | decide | (simp only [Xd] <;> omega)) only [ac142, cells_IntA, ↓Xa, Xb, Xc, ↓reduceIte, Nat.reduceLT, Nat.reduceEqDiff, Nat.reduceBEq, Nat.reduceLeDiff, Nat.reduceAdd, Nat.reduceMul]
  refine alloc_i fun a ha => ?_
  have a1 := ne_of_some m1 ha
  have a2 := ne_of_some m2 ha
  simp (disch := first | assumption | (apply Ap.symm; assumption) | omega | decide | (simp only [Xd] <;> omega)) only [cells_IntA, ↓Xa, Xb, Xc, ↓reduceIte, Nat.reduceLT, Nat.reduceEqDiff, Nat.reduceBEq, Nat.reduceLeDiff, Nat.reduceAdd, Nat.reduceMul]
  refine alloc_i fun b hb => ?_
  obtain ⟨b4, hb'⟩ := upd_none.1 hb
  have b1 := ne_of_some m1 hb'
  have b2 := ne_of_some m2 hb'
  simp (disch := first | assumption | (apply Ap.symm; assumption) | omega | decide | (simp only [Xd] <;> omega)) only [↓Xa, Xb, Xc, ↓reduceIte, Nat.reduceLT, Nat.reduceEqDiff, Nat.reduceBEq, Nat.reduceLeDiff, Nat.reduceAdd, Nat.reduceMul]
  refine alloc_i fun e he => ?_
  obtain ⟨e4, he1⟩ := upd_none.1 he
  obtain ⟨e5, he'⟩ := upd_none.1 he1
  have e1 := ne_of_some m1 he'
  have e2 := ne_of_some m2 he'
  simp (disch := first | assumption | (apply Ap.symm; assumption) | omega | decide | (simp only [Xd] <;> omega)) only [m1, m2, cells_IntA, fold_IntA, ↓Xa, Xb, Xc, ↓reduceIte, Nat.reduceLT, Nat.reduceEqDiff, Nat.reduceBEq, Nat.reduceLeDiff, Nat.reduceAdd, Nat.reduceMul]
  refine PFn.dcall (muli_fn hc (by omega) hx (by omega)) ?_
  simp (disch := first | assumption | (apply Ap.symm; assumption) | omega | decide | (simp only [Xd] <;> omega)) only [m1, m2, cells_IntA, fold_IntA, ↓Xa, Xb, Xc, ↓reduceIte, Nat.reduceLT, Nat.reduceEqDiff, Nat.reduceBEq, Nat.reduceLeDiff, Nat.reduceAdd, Nat.reduceMul]
  refine (muli_fn hd (by omega) hy (by omega)).call ?_
  simp (disch := first | assumption | (apply Ap.symm; assumption) | omega | decide | (simp only [Xd] <;> omega)) only [↓Xa, Xb, Xc, ↓reduceIte, Nat.reduceLT, Nat.reduceEqDiff, Nat.reduceBEq, Nat.reduceLeDiff, Nat.reduceAdd, Nat.reduceMul]
  refine (addi_fn (hc.mul hx) (by omega) (hd.mul hy) (by omega)).call ?_
  simp (disch := first | assumption | (apply Ap.symm; assumption) | omega | decide | (simp only [Xd] <;> omega)) only [cells_IntA, fold_IntA, rs142, ↓Xa, Xb, Xc, ↓reduceIte, Nat.reduceLT, Nat.reduceEqDiff, Nat.reduceBEq, Nat.reduceLeDiff, Nat.reduceAdd, Nat.reduceMul]
  exact SetR.dropTo (((Le.refl M).updB ha).updB hb' |>.updB he') (SetR.now hK)
theorem rowcomb_run {c d : Int} {k' : Nat} (hz : RB4 k zs) (hw : RB4 k ws) (hc : Bd k' c) (hd : Bd k' d) (hk : k + k' + 1 ≤ 1000000) (hl : zs.length = ws.length) (hbig : zs.length ≤ 1000000) (hq : ∀ y M, growC H 28 2 zs.length (IC (zipI (fun x y => c * x + d * y) zs ws)) y M → Q (.tup [y, .int .i64 ((0 : Nat) : Int)]) M) : Run Tryd.prog 39 [IntA c, RowA zs t, IntA d, RowA ws t'] H Q := by
  refine enter39 (by simp) ?_
  simp (disch := first | assumption | (apply Ap.symm; assumption) | omega | decide | (simp only [Xd] <;> omega)) only [ac39, cells_IntA, ↓Xa, Xb, Xc, ↓reduceIte, Nat.reduceLT, Nat.reduceEqDiff, Nat.reduceBEq, Nat.reduceLeDiff, Nat.reduceAdd, Nat.reduceMul]
  refine alloc_i fun p1 hp1 => ?_
  have n1 := hp1
  simp (disch := first | assumption | (apply Ap.symm; assumption) | omega | decide | (simp only [Xd] <;> omega)) only [cells_IntA, ↓Xa, Xb, Xc, ↓reduceIte, Nat.reduceLT, Nat.reduceEqDiff, Nat.reduceBEq, Nat.reduceLeDiff, Nat.reduceAdd, Nat.reduceMul]
  refine alloc_i fun p2 hp2 => ?_
  have n2 := hp2
  simp only [upd_none] at n2
  obtain ⟨_, n2⟩ := n2
  simp (disch := first | assumption | (apply Ap.symm; assumption) | omega | decide | (simp only [Xd] <;> omega)) only [↓Xa, Xb, Xc, ↓reduceIte, Nat.reduceLT, Nat.reduceEqDiff, Nat.reduceBEq, Nat.reduceLeDiff, Nat.reduceAdd, Nat.reduceMul]
  have m1 : ∀ {M : AHeap}, Le ((H.upd p1 (some (.row 28 0 [IntB c, IntD c]))).upd p2 (some (.row 28 0 [IntB d, IntD d]))) M → M p1 = some (.row 28 0 [IntB c, IntD c]) := fun hM => hM _ _ (by rw [upd_other _ _ (by apply Ne.symm; assumption), upd_same])
  have m2 : ∀ {M : AHeap}, Le ((H.upd p1 (some (.row 28 0 [IntB c, IntD c]))).upd p2 (some (.row 28 0 [IntB d, IntD d]))) M → M p2 = some (.row 28 0 [IntB d, IntD d]) := fun hM => hM _ _ (by rw [upd_same])
  refine run_call (both_run (us := zipI (fun x y => c * x + d * y) zs ws) hz hw hl (zip_len hl) hbig fn_cells (fun i h M K hM hK => callW_fn (comb1_run (m1 hM) (m2 hM) hc hd (hz.at h) (hw.at (by omega)) (by omega) (by rw [zip_at hl h] at hK; exact hK))) fun y M hg => ?_)
  obtain ⟨M2, hg2, hle⟩ := growC_le2 hg (((Le.refl H).updB n1).updB n2)
  simp (disch := first | assumption | (apply Ap.symm; assumption) | omega | decide | (simp only [Xd] <;> omega)) only [rs39, ↓Xa, Xb, Xc, ↓reduceIte, Nat.reduceLT, Nat.reduceEqDiff, Nat.reduceBEq, Nat.reduceLeDiff, Nat.reduceAdd, Nat.reduceMul]
  exact SetR.dropTo hle (SetR.now (hq y M2 hg2))
theorem rowcomb_ne {c d : Int} (hz : zs.length < 9223372036854775808) (hw : ws.length < 9223372036854775808) (hl : zs.length ≠ ws.length) : PFn Tryd.prog 39 [IntA c, RowA zs t, IntA d, RowA ws t'] (.tup [.seq 0 [] true, .int .i64 ((5 : Nat) : Int)]) := by
  intro H Q hq
  refine enter39 (by simp) ?_
  simp (disch := first | assumption | (apply Ap.symm; assumption) | omega | decide | (simp only [Xd] <;> omega)) only [ac39, cells_IntA, ↓Xa, Xb, Xc, ↓reduceIte, Nat.reduceLT, Nat.reduceEqDiff, Nat.reduceBEq, Nat.reduceLeDiff, Nat.reduceAdd, Nat.reduceMul]
  refine alloc_i fun p1 hp1 => ?_
  have n1 := hp1
  simp (disch := first | assumption | (apply Ap.symm; assumption) | omega | decide | (simp only [Xd] <;> omega)) only [cells_IntA, ↓Xa, Xb, Xc, ↓reduceIte, Nat.reduceLT, Nat.reduceEqDiff, Nat.reduceBEq, Nat.reduceLeDiff, Nat.reduceAdd, Nat.reduceMul]
  refine alloc_i fun p2 hp2 => ?_
  have n2 := hp2
  simp only [upd_none] at n2
  obtain ⟨_, n2⟩ := n2
  simp (disch := first | assumption | (apply Ap.symm; assumption) | omega | decide | (simp only [Xd] <;> omega)) only [↓Xa, Xb, Xc, ↓reduceIte, Nat.reduceLT, Nat.reduceEqDiff, Nat.reduceBEq, Nat.reduceLeDiff, Nat.reduceAdd, Nat.reduceMul]
  refine (both_ne hz hw hl fn_cells).call ?_
  simp (disch := first | assumption | (apply Ap.symm; assumption) | omega | decide | (simp only [Xd] <;> omega)) only [rs39, ↓Xa, Xb, Xc, ↓reduceIte, Nat.reduceLT, Nat.reduceEqDiff, Nat.reduceBEq, Nat.reduceLeDiff, Nat.reduceAdd, Nat.reduceMul]
  exact SetR.dropTo (((Le.refl H).updB n1).updB n2) (SetR.now hq)
end
end Go.Proofs.YtanchgkiomfhhaaDoor.Fw

/- Fractions: plain numbers. -/
namespace Go.Proofs.YtanchgkiomfhhaaDoor.Fw
set_option linter.unusedSimpArgs false
set_option linter.unusedVariables false
open Go Go.Proofs.YtanchgkiomfhhaaDoor.Ma

abbrev QQ := _root_.Rat
theorem q_pos (q : QQ) : 0 < (q.den : Int) := by have := q.den_pos; omega
theorem mk_num {n : Int} {d : Nat} (hd : 0 < d) : (mkRat n d).num = n / ((Int.gcd n (d : Int) : Nat) : Int) := by
  rw [_root_.Rat.num_mkRat, if_neg (by omega), Nat.gcd_comm]; rfl
theorem mk_den {n : Int} {d : Nat} (hd : 0 < d) : (((mkRat n d).den : Nat) : Int) = (d : Int) / ((Int.gcd n (d : Int) : Nat) : Int) := by
  rw [_root_.Rat.den_mkRat, if_neg (by omega), Nat.gcd_comm]; rfl
theorem q_lt {p q : QQ} : p < q ↔ p.num * (q.den : Int) < q.num * (p.den : Int) := _root_.Rat.lt_iff p q
def cmpQ (p q : QQ) : Int := cmpI (p.num * (q.den : Int)) (q.num * (p.den : Int))
theorem Bd.oneQ (k : Nat) : Bd (k + 1) 1 := by
  unfold Bd
  have : 4294967296 ^ 1 ≤ 4294967296 ^ (k + 1) := Nat.pow_le_pow_right (by omega) (by omega)
  have e : (1 : Int).natAbs = 1 := rfl
  omega
def RB (k : Nat) (q : QQ) : Prop := Bd k q.num ∧ Bd k (q.den : Int)
theorem RB.mk {n : Int} {d k : Nat} (hn : Bd k n) (hd : Bd k (d : Int)) (h0 : 0 < d) : RB k (mkRat n d) := by
  refine ⟨?_, ?_⟩
  · rw [mk_num h0]; exact hn.ediv
  · rw [mk_den h0]; exact hd.ediv
theorem RB.mono {q : QQ} {k k' : Nat} (h : RB k q) (hk : k ≤ k') : RB k' q := ⟨h.1.mono hk, h.2.mono hk⟩
theorem RB.neg {q : QQ} {k : Nat} (h : RB k q) : RB k (-q) := ⟨h.1.neg, h.2⟩
theorem RB.add {p q : QQ} {k k' : Nat} (h : RB k p) (h' : RB k' q) : RB (k + k' + 1) (p + q) := by
  rw [_root_.Rat.add_def']
  refine RB.mk (Bd.add (h.1.mul h'.2) ?_) ?_ (Nat.mul_pos p.den_pos q.den_pos)
  · have := h'.1.mul h.2; rw [Nat.add_comm]; exact this
  · rw [Int.natCast_mul]; exact (h.2.mul h'.2).mono (by omega)
theorem RB.sub {p q : QQ} {k k' : Nat} (h : RB k p) (h' : RB k' q) : RB (k + k' + 1) (p - q) := by
  rw [_root_.Rat.sub_eq_add_neg]; exact h.add h'.neg
theorem RB.mul {p q : QQ} {k k' : Nat} (h : RB k p) (h' : RB k' q) : RB (k + k') (p * q) := by
  rw [_root_.Rat.mul_def']
  refine RB.mk (h.1.mul h'.1) ?_ (Nat.mul_pos p.den_pos q.den_pos)
  rw [Int.natCast_mul]; exact h.2.mul h'.2
theorem RB.int {z : Int} {k : Nat} (h : Bd (k + 1) z) : RB (k + 1) (z : QQ) := ⟨h, Bd.oneQ k⟩
theorem RB.less {q : QQ} {k : Nat} (h : RB k q) : Bd k ((q.den : Int) - 1) := h.2.le (by have := q_pos q; omega)
end Go.Proofs.YtanchgkiomfhhaaDoor.Fw

/- Fractions: what package ratio's functions answer. -/
namespace Go.Proofs.YtanchgkiomfhhaaDoor.Fw
set_option linter.unusedSimpArgs false
set_option linter.unusedVariables false
open Go Go.Proofs.YtanchgkiomfhhaaDoor.Ma
set_option maxRecDepth 20000

def RawR (a b : Int) : AV := .agg [IntB a, IntD a, IntB b, IntD b]
def RatA (q : QQ) : AV := RawR q.num ((q.den : Int) - 1)
def RatE (q : QQ) (e : Nat) : AV := .tup [RatA q, .int .i64 ((e : Nat) : Int)]
end Go.Proofs.YtanchgkiomfhhaaDoor.Fw

/- Fractions: what the laws' own helpers answer. -/
namespace Go.Proofs.YtanchgkiomfhhaaDoor.Fw
set_option linter.unusedSimpArgs false
set_option linter.unusedVariables false
open Go Go.Proofs.YtanchgkiomfhhaaDoor.Ma
set_option maxRecDepth 20000

def qText (q : QQ) : List UInt8 := iText q.num ++ (if q.den = 1 then [] else 47 :: iText (q.den : Int))
theorem iText_len {x : Int} {k : Nat} (h : Bd k x) : (iText x).length ≤ 10 * k + 2 := by
  have := decT_bd h
  unfold iText; split <;> simp <;> omega
def FracA (q : List UInt8 × List UInt8) : AV := .agg [Sx q.1, Sx q.2]
def FracC (l : List (List UInt8 × List UInt8)) : List AV := l.flatMap fun q => [Sx q.1, Sx q.2]
def lngF (q : List UInt8 × List UInt8) : Bool := decide (300 < q.1.length) || decide (300 < q.2.length)
end Go.Proofs.YtanchgkiomfhhaaDoor.Fw

/- The looked-up code of one function, and that it is: by a program (wip/tools/ac.py); Lean checks it. -/
namespace Go.Proofs.YtanchgkiomfhhaaDoor.Fw
open Go
set_option maxRecDepth 100000
end Go.Proofs.YtanchgkiomfhhaaDoor.Fw

/- The looked-up code of one function, and that it is: by a program (wip/tools/ac.py); Lean checks it. -/
namespace Go.Proofs.YtanchgkiomfhhaaDoor.Fw
open Go
set_option maxRecDepth 100000
end Go.Proofs.YtanchgkiomfhhaaDoor.Fw

/- The looked-up code of one function, and that it is: by a program (wip/tools/ac.py); Lean checks it. -/
namespace Go.Proofs.YtanchgkiomfhhaaDoor.Fw
open Go
set_option maxRecDepth 100000
end Go.Proofs.YtanchgkiomfhhaaDoor.Fw

/- The looked-up code of one function, and that it is: by a program (wip/tools/ac.py); Lean checks it. -/
namespace Go.Proofs.YtanchgkiomfhhaaDoor.Fw
open Go
set_option maxRecDepth 100000
def ac4 : ACode := (.seq (.reg [⟨(some 1), none, (.box 49 0 (.t 0))⟩, ⟨(some 2), none, (.mov (.k (.bool false)))⟩] [1]) (.seq (.seq (.reg [⟨(some 25), none, (.call (.k (.fn (.func 32) [] [])) [])⟩, ⟨(some 26), none, (.un .not (.t 25))⟩] [1, 26]) (.cond (.t 26) (.seq (.reg [⟨(some 2), none, (.mov (.k (.bool false)))⟩] [2]) .ret) .skip)) (.seq (.draw [⟨(some 27), none, (.fldA 0 (.t 1))⟩, ⟨(some 28), none, (.load none (.t 27))⟩, ⟨(some 29), none, (.fldA 1 (.t 1))⟩, ⟨(some 30), none, (.load none (.t 29))⟩, ⟨(some 31), none, (.fldA 2 (.t 1))⟩, ⟨(some 32), none, (.load (some 2) (.t 31))⟩, ⟨(some 33), none, (.fldA 4 (.t 1))⟩, ⟨(some 34), none, (.load (some 2) (.t 33))⟩, ⟨(some 5), none, (.alloc 47 0 [(.bool false), (.seq 0 [] true)])⟩, ⟨(some 6), none, (.alloc 47 0 [(.bool false), (.seq 0 [] true)])⟩, ⟨(some 3), none, (.mov (.t 28))⟩, ⟨(some 4), none, (.mov (.t 30))⟩, ⟨none, none, (.store 2 (.t 5) (.t 32))⟩] [⟨none, none, (.store 2 (.t 6) (.t 34))⟩] [0, 0, 3, 3, 15, 15, 63, 63, 255, 511, 252, 240, 192] [3, 4, 5, 6]) (.seq (.seq (.reg [⟨(some 35), none, (.mov (.t 3))⟩, ⟨(some 36), none, (.mov (.t 4))⟩, ⟨(some 37), none, (.load (some 2) (.t 5))⟩, ⟨(some 38), none, (.load (some 2) (.t 6))⟩, ⟨(some 39), none, (.bsl [(.bool false), (.seq 0 [] true)] 2 2 [(0, (2, (.t 37))), (2, (2, (.t 38)))])⟩, ⟨(some 40), none, (.bsl [(.seq 0 [] true)] 3 1 [(0, (1, (.t 35))), (1, (1, (.t 36))), (2, (1, (.t 39)))])⟩, ⟨(some 41), none, (.call (.k (.fn (.func 33) [] [])) [(.t 40)])⟩] [3, 4, 5, 6, 41]) (.cond (.t 41) (.seq (.reg [⟨(some 2), none, (.mov (.k (.bool true)))⟩] [2]) .ret) .skip)) (.seq (.reg [⟨(some 43), none, (.mov (.t 3))⟩, ⟨(some 44), none, (.call (.k (.fn (.func 34) [] [])) [(.t 43)])⟩, ⟨(some 42), none, (.mov (.t 44))⟩, ⟨(some 45), none, (.ext (.t 42) 0)⟩, ⟨(some 46), none, (.ext (.t 42) 1)⟩, ⟨(some 7), none, (.mov (.t 45))⟩, ⟨(some 8), none, (.mov (.t 46))⟩] [3, 4, 5, 6, 7, 8]) (.seq (.reg [⟨(some 48), none, (.mov (.t 4))⟩, ⟨(some 49), none, (.call (.k (.fn (.func 34) [] [])) [(.t 48)])⟩, ⟨(some 47), none, (.mov (.t 49))⟩, ⟨(some 50), none, (.ext (.t 47) 0)⟩, ⟨(some 51), none, (.ext (.t 47) 1)⟩, ⟨(some 9), none, (.mov (.t 50))⟩, ⟨(some 10), none, (.mov (.t 51))⟩] [3, 4, 5, 6, 7, 8, 9, 10]) (.seq (.draw [⟨(some 52), none, (.fldA 0 (.t 5))⟩, ⟨(some 53), none, (.load none (.t 52))⟩, ⟨(some 54), none, (.fldA 1 (.t 5))⟩, ⟨(some 55), none, (.load none (.t 54))⟩, ⟨(some 56), none, (.call (.k (.fn (.func 35) [] [])) [(.t 53), (.t 55)])⟩, ⟨(some 57), none, (.fldA 0 (.t 5))⟩, ⟨(some 58), none, (.load none (.t 57))⟩, ⟨(some 59), none, (.fldA 1 (.t 5))⟩, ⟨(some 60), none, (.load none (.t 59))⟩, ⟨(some 61), none, (.call (.k (.fn (.func 36) [] [])) [(.t 58), (.t 60)])⟩, ⟨(some 11), none, (.alloc 28 0 [(.bool false), (.seq 0 [] true)])⟩, ⟨(some 12), none, (.alloc 39 0 [(.bool false), (.seq 0 [] true)])⟩] [⟨none, none, (.store 2 (.t 11) (.t 56))⟩, ⟨none, none, (.store 2 (.t 12) (.t 61))⟩] [0, 0, 3, 3, 0, 31, 31, 127, 127, 0, 1023, 2047] [3, 4, 6, 7, 8, 9, 10, 11, 12]) (.seq (.draw [⟨(some 62), none, (.fldA 0 (.t 6))⟩, ⟨(some 63), none, (.load none (.t 62))⟩, ⟨(some 64), none, (.fldA 1 (.t 6))⟩, ⟨(some 65), none, (.load none (.t 64))⟩, ⟨(some 66), none, (.call (.k (.fn (.func 35) [] [])) [(.t 63), (.t 65)])⟩, ⟨(some 67), none, (.fldA 0 (.t 6))⟩, ⟨(some 68), none, (.load none (.t 67))⟩, ⟨(some 69), none, (.fldA 1 (.t 6))⟩, ⟨(some 70), none, (.load none (.t 69))⟩, ⟨(some 71), none, (.call (.k (.fn (.func 36) [] [])) [(.t 68), (.t 70)])⟩, ⟨(some 13), none, (.alloc 28 0 [(.bool false), (.seq 0 [] true)])⟩, ⟨(some 14), none, (.alloc 39 0 [(.bool false), (.seq 0 [] true)])⟩] [⟨none, none, (.store 2 (.t 13) (.t 66))⟩, ⟨none, none, (.store 2 (.t 14) (.t 71))⟩] [0, 0, 3, 3, 0, 31, 31, 127, 127, 0, 1023, 2047] [3, 4, 7, 8, 9, 10, 11, 12, 13, 14]) (.seq (.reg [⟨(some 73), none, (.mov (.t 7))⟩, ⟨(some 74), none, (.mov (.t 9))⟩, ⟨(some 75), none, (.call (.k (.fn (.func 37) [] [])) [(.t 73), (.t 74)])⟩, ⟨(some 72), none, (.mov (.t 75))⟩, ⟨(some 76), none, (.ext (.t 72) 0)⟩, ⟨(some 77), none, (.ext (.t 72) 1)⟩, ⟨(some 15), none, (.mov (.t 76))⟩, ⟨(some 16), none, (.mov (.t 77))⟩] [3, 4, 7, 8, 9, 10, 11, 12, 13, 14, 15, 16]) (.seq (.reg [⟨(some 79), none, (.mov (.t 7))⟩, ⟨(some 80), none, (.mov (.t 9))⟩, ⟨(some 81), none, (.call (.k (.fn (.func 38) [] [])) [(.t 79), (.t 80)])⟩, ⟨(some 78), none, (.mov (.t 81))⟩, ⟨(some 82), none, (.ext (.t 78) 0)⟩, ⟨(some 83), none, (.ext (.t 78) 1)⟩, ⟨(some 17), none, (.mov (.t 82))⟩, ⟨(some 18), none, (.mov (.t 83))⟩] [3, 4, 7, 8, 9, 10, 11, 12, 13, 14, 15, 16, 17, 18]) (.seq (.reg [⟨(some 85), none, (.load (some 2) (.t 11))⟩, ⟨(some 86), none, (.mov (.t 7))⟩, ⟨(some 87), none, (.load (some 2) (.t 13))⟩, ⟨(some 88), none, (.mov (.t 9))⟩, ⟨(some 89), none, (.call (.k (.fn (.func 39) [] [])) [(.t 85), (.t 86), (.t 87), (.t 88)])⟩, ⟨(some 84), none, (.mov (.t 89))⟩, ⟨(some 90), none, (.ext (.t 84) 0)⟩, ⟨(some 91), none, (.ext (.t 84) 1)⟩, ⟨(some 19), none, (.mov (.t 90))⟩, ⟨(some 20), none, (.mov (.t 91))⟩] [3, 4, 7, 8, 9, 10, 11, 12, 14, 15, 16, 17, 18, 19, 20]) (.seq (.reg [⟨(some 93), none, (.mov (.t 7))⟩, ⟨(some 94), none, (.mov (.t 9))⟩, ⟨(some 95), none, (.call (.k (.fn (.func 40) [] [])) [(.t 93), (.t 94)])⟩, ⟨(some 92), none, (.mov (.t 95))⟩, ⟨(some 96), none, (.ext (.t 92) 0)⟩, ⟨(some 97), none, (.ext (.t 92) 1)⟩, ⟨(some 21), none, (.alloc 28 0 [(.bool false), (.seq 0 [] true)])⟩, ⟨none, none, (.store 2 (.t 21) (.t 96))⟩, ⟨(some 22), none, (.mov (.t 97))⟩] [3, 4, 7, 8, 9, 10, 11, 12, 14, 15, 16, 17, 18, 19, 20, 21, 22]) (.seq (.draw [⟨(some 98), none, (.mov (.t 7))⟩, ⟨(some 99), none, (.call (.k (.fn (.func 41) [] [])) [(.t 98)])⟩, ⟨(some 100), none, (.mov (.t 7))⟩, ⟨(some 101), none, (.load (some 2) (.t 11))⟩] [⟨(some 102), none, (.call (.k (.fn (.func 42) [] [])) [(.t 100), (.t 101)])⟩, ⟨(some 23), none, (.mov (.t 99))⟩, ⟨(some 24), none, (.mov (.t 102))⟩] [0, 0, 3, 7] [3, 4, 7, 8, 9, 10, 12, 14, 15, 16, 17, 18, 19, 20, 21, 22, 23, 24]) (.seq (.seq (.reg [⟨(some 103), none, (.mov (.t 23))⟩, ⟨(some 104), none, (.mov (.t 8))⟩, ⟨(some 105), none, (.call (.k (.fn (.func 45) [] [])) [(.k (.int .i64 (-1)))])⟩, ⟨(some 106), none, (.call (.k (.fn (.func 44) [] [])) [(.t 104), (.t 105)])⟩, ⟨(some 107), none, (.call (.k (.fn (.func 43) [] [])) [(.t 103), (.t 106)])⟩, ⟨(some 108), none, (.un .not (.t 107))⟩, ⟨(some 109), none, (.mov (.t 108))⟩, ⟨(some 110), (some (109, false)), (.mov (.t 24))⟩, ⟨(some 111), (some (109, false)), (.mov (.t 8))⟩, ⟨(some 112), (some (109, false)), (.load (some 2) (.t 12))⟩, ⟨(some 113), (some (109, false)), (.call (.k (.fn (.func 44) [] [])) [(.t 111), (.t 112)])⟩, ⟨(some 114), (some (109, false)), (.call (.k (.fn (.func 43) [] [])) [(.t 110), (.t 113)])⟩, ⟨(some 115), (some (109, false)), (.un .not (.t 114))⟩, ⟨(some 116), none, (.pick (.t 109) (.k (.bool true)) (.t 115))⟩, ⟨(some 117), none, (.mov (.t 116))⟩, ⟨(some 118), (some (117, false)), (.mov (.t 23))⟩, ⟨(some 119), (some (117, false)), (.mov (.t 7))⟩, ⟨(some 120), (some (117, false)), (.mov (.t 8))⟩, ⟨(some 121), (some (117, false)), (.call (.k (.fn (.func 46) [] [])) [(.t 118), (.t 119), (.t 120)])⟩, ⟨(some 122), (some (117, false)), (.un .not (.t 121))⟩, ⟨(some 123), none, (.pick (.t 117) (.k (.bool true)) (.t 122))⟩, ⟨(some 124), none, (.mov (.t 123))⟩, ⟨(some 125), (some (124, false)), (.mov (.t 24))⟩, ⟨(some 126), (some (124, false)), (.mov (.t 7))⟩, ⟨(some 127), (some (124, false)), (.mov (.t 8))⟩, ⟨(some 128), (some (124, false)), (.call (.k (.fn (.func 46) [] [])) [(.t 125), (.t 126), (.t 127)])⟩, ⟨(some 129), (some (124, false)), (.un .not (.t 128))⟩, ⟨(some 130), none, (.pick (.t 124) (.k (.bool true)) (.t 129))⟩, ⟨(some 131), none, (.mov (.t 130))⟩, ⟨(some 132), (some (131, false)), (.call (.k (.fn (.func 32) [] [])) [])⟩, ⟨(some 133), (some (131, false)), (.un .not (.t 132))⟩, ⟨(some 134), none, (.pick (.t 131) (.k (.bool true)) (.t 133))⟩] [3, 4, 7, 8, 9, 10, 12, 14, 15, 16, 17, 18, 19, 20, 21, 22, 134]) (.cond (.t 134) (.seq (.reg [⟨(some 2), none, (.mov (.k (.bool false)))⟩] [2]) .ret) .skip)) (.seq (.seq (.reg [⟨(some 135), none, (.mov (.t 3))⟩, ⟨(some 136), none, (.len false (.t 135))⟩, ⟨(some 137), none, (.mov (.t 4))⟩, ⟨(some 138), none, (.len false (.t 137))⟩, ⟨(some 139), none, (.bin .neq (.t 136) (.t 138))⟩] [7, 8, 9, 10, 12, 14, 15, 16, 17, 18, 19, 20, 21, 22, 139]) (.cond (.t 139) (.seq (.reg [⟨(some 140), none, (.mov (.t 15))⟩, ⟨(some 141), none, (.len false (.t 140))⟩, ⟨(some 142), none, (.bin .eql (.t 141) (.k (.int .i64 ((0 : Nat) : Int))))⟩, ⟨(some 143), none, (.mov (.t 142))⟩, ⟨(some 144), (some (143, true)), (.mov (.t 17))⟩, ⟨(some 145), (some (143, true)), (.len false (.t 144))⟩, ⟨(some 146), (some (143, true)), (.bin .eql (.t 145) (.k (.int .i64 ((0 : Nat) : Int))))⟩, ⟨(some 147), none, (.pick (.t 143) (.t 146) (.k (.bool false)))⟩, ⟨(some 148), none, (.mov (.t 147))⟩, ⟨(some 149), (some (148, true)), (.mov (.t 19))⟩, ⟨(some 150), (some (148, true)), (.len false (.t 149))⟩, ⟨(some 151), (some (148, true)), (.bin .eql (.t 150) (.k (.int .i64 ((0 : Nat) : Int))))⟩, ⟨(some 152), none, (.pick (.t 148) (.t 151) (.k (.bool false)))⟩, ⟨(some 153), none, (.mov (.t 152))⟩, ⟨(some 154), (some (153, true)), (.load (some 2) (.t 21))⟩, ⟨(some 155), (some (153, true)), (.call (.k (.fn (.func 27) [] [])) [(.t 154)])⟩, ⟨(some 156), (some (153, true)), (.bin .eql (.t 155) (.k (.int .i64 ((0 : Nat) : Int))))⟩, ⟨(some 157), none, (.pick (.t 153) (.t 156) (.k (.bool false)))⟩, ⟨(some 158), none, (.mov (.t 157))⟩, ⟨(some 159), (some (158, true)), (.mov (.t 16))⟩, ⟨(some 160), (some (158, true)), (.bin .eql (.t 159) (.k (.int .i64 ((5 : Nat) : Int))))⟩, ⟨(some 161), none, (.pick (.t 158) (.t 160) (.k (.bool false)))⟩, ⟨(some 162), none, (.mov (.t 161))⟩, ⟨(some 163), (some (162, true)), (.mov (.t 18))⟩, ⟨(some 164), (some (162, true)), (.bin .eql (.t 163) (.k (.int .i64 ((5 : Nat) : Int))))⟩, ⟨(some 165), none, (.pick (.t 162) (.t 164) (.k (.bool false)))⟩, ⟨(some 166), none, (.mov (.t 165))⟩, ⟨(some 167), (some (166, true)), (.mov (.t 20))⟩, ⟨(some 168), (some (166, true)), (.bin .eql (.t 167) (.k (.int .i64 ((5 : Nat) : Int))))⟩, ⟨(some 169), none, (.pick (.t 166) (.t 168) (.k (.bool false)))⟩, ⟨(some 170), none, (.mov (.t 169))⟩, ⟨(some 171), (some (170, true)), (.mov (.t 22))⟩, ⟨(some 172), (some (170, true)), (.bin .eql (.t 171) (.k (.int .i64 ((5 : Nat) : Int))))⟩, ⟨(some 173), none, (.pick (.t 170) (.t 172) (.k (.bool false)))⟩, ⟨(some 2), none, (.mov (.t 173))⟩] [2]) .ret) .skip)) (.seq (.seq (.draw [⟨(some 174), none, (.mov (.t 16))⟩, ⟨(some 175), none, (.bin .neq (.t 174) (.k (.int .i64 ((0 : Nat) : Int))))⟩, ⟨(some 176), none, (.mov (.t 175))⟩, ⟨(some 177), (some (176, false)), (.mov (.t 18))⟩, ⟨(some 178), (some (176, false)), (.bin .neq (.t 177) (.k (.int .i64 ((0 : Nat) : Int))))⟩, ⟨(some 179), none, (.pick (.t 176) (.k (.bool true)) (.t 178))⟩, ⟨(some 180), none, (.mov (.t 179))⟩, ⟨(some 181), (some (180, false)), (.mov (.t 20))⟩, ⟨(some 182), (some (180, false)), (.bin .neq (.t 181) (.k (.int .i64 ((0 : Nat) : Int))))⟩, ⟨(some 183), none, (.pick (.t 180) (.k (.bool true)) (.t 182))⟩, ⟨(some 184), none, (.mov (.t 183))⟩, ⟨(some 185), (some (184, false)), (.mov (.t 22))⟩, ⟨(some 186), (some (184, false)), (.bin .neq (.t 185) (.k (.int .i64 ((0 : Nat) : Int))))⟩, ⟨(some 187), none, (.pick (.t 184) (.k (.bool true)) (.t 186))⟩, ⟨(some 188), none, (.mov (.t 187))⟩, ⟨(some 189), (some (188, false)), (.mov (.t 15))⟩, ⟨(some 190), (some (188, false)), (.mov (.t 8))⟩, ⟨(some 191), (some (188, false)), (.mov (.t 10))⟩, ⟨(some 192), (some (188, false)), (.call (.k (.fn (.func 47) [] [])) [(.t 190), (.t 191)])⟩, ⟨(some 193), (some (188, false)), (.call (.k (.fn (.func 43) [] [])) [(.t 189), (.t 192)])⟩, ⟨(some 194), (some (188, false)), (.un .not (.t 193))⟩, ⟨(some 195), none, (.pick (.t 188) (.k (.bool true)) (.t 194))⟩, ⟨(some 196), none, (.mov (.t 195))⟩, ⟨(some 197), (some (196, false)), (.mov (.t 17))⟩, ⟨(some 198), (some (196, false)), (.mov (.t 8))⟩, ⟨(some 199), (some (196, false)), (.mov (.t 10))⟩, ⟨(some 200), (some (196, false)), (.call (.k (.fn (.func 48) [] [])) [(.t 198), (.t 199)])⟩, ⟨(some 201), (some (196, false)), (.call (.k (.fn (.func 43) [] [])) [(.t 197), (.t 200)])⟩, ⟨(some 202), (some (196, false)), (.un .not (.t 201))⟩, ⟨(some 203), none, (.pick (.t 196) (.k (.bool true)) (.t 202))⟩, ⟨(some 204), none, (.mov (.t 203))⟩, ⟨(some 205), (some (204, false)), (.mov (.t 19))⟩, ⟨(some 206), (some (204, false)), (.load (some 2) (.t 12))⟩, ⟨(some 207), (some (204, false)), (.mov (.t 8))⟩, ⟨(some 208), (some (204, false)), (.load (some 2) (.t 14))⟩, ⟨(some 209), (some (204, false)), (.mov (.t 10))⟩, ⟨(some 210), (some (204, false)), (.call (.k (.fn (.func 49) [] [])) [(.t 206), (.t 207), (.t 208), (.t 209)])⟩, ⟨(some 211), (some (204, false)), (.call (.k (.fn (.func 43) [] [])) [(.t 205), (.t 210)])⟩, ⟨(some 212), (some (204, false)), (.un .not (.t 211))⟩, ⟨(some 213), none, (.pick (.t 204) (.k (.bool true)) (.t 212))⟩, ⟨(some 214), none, (.mov (.t 213))⟩, ⟨(some 215), (some (214, false)), (.load (some 2) (.t 21))⟩, ⟨(some 216), (some (214, false)), (.mov (.t 8))⟩, ⟨(some 217), (some (214, false)), (.mov (.t 10))⟩, ⟨(some 218), (some (214, false)), (.call (.k (.fn (.func 51) [] [])) [(.t 216), (.t 217)])⟩] [⟨(some 219), (some (214, false)), (.call (.k (.fn (.func 50) [] [])) [(.t 215), (.t 218)])⟩, ⟨(some 220), (some (214, false)), (.un .not (.t 219))⟩, ⟨(some 221), none, (.pick (.t 214) (.k (.bool true)) (.t 220))⟩] [0, 0, 0, 0, 0, 0, 0, 0, 0, 0, 0, 0, 0, 0, 0, 0, 32768, 98304, 32768, 0, 0, 0, 0, 0, 8388608, 25165824, 8388608, 0, 0, 0, 0, 0, 2147483648, 6442450944, 15032385536, 32212254720, 2147483648, 0, 0, 0, 0, 0, 2199023255552, 6597069766656, 2199023255552] [7, 8, 9, 10, 15, 17, 19, 221]) (.cond (.t 221) (.seq (.reg [⟨(some 2), none, (.mov (.k (.bool false)))⟩] [2]) .ret) .skip)) (.seq (.reg [⟨(some 222), none, (.mov (.t 15))⟩, ⟨(some 223), none, (.mov (.t 7))⟩, ⟨(some 224), none, (.mov (.t 8))⟩, ⟨(some 225), none, (.call (.k (.fn (.func 46) [] [])) [(.t 222), (.t 223), (.t 224)])⟩, ⟨(some 226), none, (.mov (.t 225))⟩, ⟨(some 227), (some (226, true)), (.mov (.t 17))⟩, ⟨(some 228), (some (226, true)), (.mov (.t 9))⟩, ⟨(some 229), (some (226, true)), (.mov (.t 10))⟩, ⟨(some 230), (some (226, true)), (.call (.k (.fn (.func 46) [] [])) [(.t 227), (.t 228), (.t 229)])⟩, ⟨(some 231), none, (.pick (.t 226) (.t 230) (.k (.bool false)))⟩, ⟨(some 232), none, (.mov (.t 231))⟩, ⟨(some 233), (some (232, true)), (.mov (.t 19))⟩, ⟨(some 234), (some (232, true)), (.mov (.t 7))⟩, ⟨(some 235), (some (232, true)), (.mov (.t 8))⟩, ⟨(some 236), (some (232, true)), (.call (.k (.fn (.func 46) [] [])) [(.t 233), (.t 234), (.t 235)])⟩, ⟨(some 237), none, (.pick (.t 232) (.t 236) (.k (.bool false)))⟩, ⟨(some 2), none, (.mov (.t 237))⟩] [2]) .ret)))))))))))))))))
def rs4 : List RV := [(.t 2)]
theorem co4 : compFn Go.Proofs.Tryd.prog Go.Proofs.Tryd.f4 pl4 = some (ac4, rs4) := by kernel_rfl
theorem enter4 {args : List AV} {H : AHeap} {Q : AV → AHeap → Prop} (hn : args.length ≤ 238) (h : W Go.Proofs.Tryd.prog ac4 (retN rs4 Q) ⟨[], initE args 0, H⟩) : Run Go.Proofs.Tryd.prog 4 args H Q := Run_fn2 mixed Go.Proofs.Tryd.func4 (by kernel_rfl) co4 (n := 238) (by kernel_rfl) hn h
end Go.Proofs.YtanchgkiomfhhaaDoor.Fw
