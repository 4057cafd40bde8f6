/- The texts Tb Ya Yb Yc Yd Qb Qc Ye Ym Kc Kd Al21 Qe Qf Qg Qi Ea Ka Kn Kb Kf Kg Qk Al22, joined. -/
import Derived.Test.YtanchgkiomfhhaaDoorZ6
/- A text read, as package limb reads it. -/
namespace Go.Proofs.YtanchgkiomfhhaaDoor.Fw
set_option linter.unusedSimpArgs false
set_option linter.unusedVariables false
open Go Go.Proofs.YtanchgkiomfhhaaDoor.Ma
set_option maxRecDepth 20000

def spot (e a : Nat) : AV := .agg [.int .i64 (e : Int), .int .i64 (a : Int)]
theorem cells_i2 {k k' : IntKind} {a b : Int} : (AV.agg [.int k a, .int k' b]).cells = some [.int k a, .int k' b] := id rfl
theorem min_k {a b : Nat} {K : AV → Prop} : maxW false (.int .i64 (a : Int)) (.int .i64 (b : Int)) K ↔ K (.int .i64 ((min a b : Nat) : Int)) := by
  have : (if (b : Int) < (a : Int) then (b : Int) else (a : Int)) = ((min a b : Nat) : Int) := by split <;> omega
  simp only [maxW, true_and, Bool.false_eq_true, if_false, this]
theorem rng_Sx {H : AHeap} {l : List UInt8} {K : AV → AHeap → Prop} : rngW H (Sx l) K = rngS H ⟨l.toArray⟩ K := id rfl
theorem byte_Sx {l : List UInt8} {i : Nat} : byteAt ⟨l.toArray⟩ i = (l.getD i 0).toNat := by simp [byteAt]
theorem nxt_Sl {H : AHeap} {b pos : Nat} {l : List UInt8} {K : AV → AHeap → Prop} (h : pos < l.length) (hb : (l.getD pos 0).toNat < 128) : nxtP H b K (some (.raw (.stringIter ⟨l.toArray⟩ pos))) = K (.tup [.bool true, .int .i64 (pos : Int), .int .i32 (((l.getD pos 0).toNat : Nat) : Int)]) (H.upd b (some (.raw (.stringIter ⟨l.toArray⟩ (pos + 1))))) := by
  rw [nxt_lt (by rw [size_Sx]; exact h) (by rw [byte_Sx]; exact hb), byte_Sx]
theorem nxt_Sg {H : AHeap} {b pos : Nat} {l : List UInt8} {K : AV → AHeap → Prop} (h : l.length ≤ pos) : nxtP H b K (some (.raw (.stringIter ⟨l.toArray⟩ pos))) = K (.tup [.bool false]) H := nxt_ge (by rw [size_Sx]; exact h)
theorem wn_i32 {n : Nat} (h : n < 2147483648) : IntKind.i32.wrap (n : Int) = (n : Int) := by
  unfold IntKind.wrap; simp only [IntKind.bits, IntKind.signed, Bool.true_and, decide_eq_true_eq, ge_iff_le]; split <;> omega
theorem ten_b {n m : Nat} (h : 4 * n ≤ 32 * m) : 10 ^ n ≤ 4294967296 ^ m := by
  have h1 : 10 ^ n ≤ 16 ^ n := Nat.pow_le_pow_left (by omega) n
  have h2 : (16 : Nat) ^ n = 2 ^ (4 * n) := by rw [Nat.pow_mul]
  have h3 : (4294967296 : Nat) ^ m = 2 ^ (32 * m) := by rw [Nat.pow_mul]
  rw [h3]
  exact Nat.le_trans h1 (by rw [h2]; exact Nat.pow_le_pow_right (by omega) h)
theorem ten_bound {n : Nat} (h : n ≤ 65536) : 10 ^ n ≤ 4294967296 ^ 8192 := ten_b (m := 8192) (by omega)
def ReadR (l : List UInt8) (r : AV) : Prop :=
  (65536 < l.length ∧ r = .tup [LS [] true, spot 3 65536]) ∨ (l = [] ∧ r = .tup [LS [] true, spot 6 0]) ∨
  (l.length ≤ 65536 ∧ ∃ i, i < l.length ∧ badAt l i ∧ (∀ j, j < i → ¬ badAt l j) ∧ r = .tup [LS [] true, spot 6 i]) ∨
  (l.length ≤ 65536 ∧ Good l ∧ r = .tup [LS (Ma.digs 4294967296 (decV l)) true, spot 0 0])
theorem readR_fn {l : List UInt8} {r r' : AV} (h : ReadR l r) (h' : ReadR l r') : r = r' := by
  have nb : ∀ {i}, Good l → i < l.length → badAt l i → False := fun g hi hb => bad_of_good g hi hb
  have ne : Good l → l = [] → False := fun g e => g.1 e
  rcases h with ⟨a, rfl⟩ | ⟨a, rfl⟩ | ⟨a, i, b, c, d, rfl⟩ | ⟨a, b, rfl⟩ <;> rcases h' with ⟨a', rfl⟩ | ⟨a', rfl⟩ | ⟨a', i', b', c', d', rfl⟩ | ⟨a', b', rfl⟩ <;>
    first
    | rfl
    | (exfalso; omega)
    | (subst a; simp at a'; done)
    | (subst a'; simp at a; done)
    | (subst a; simp at b'; done)
    | (subst a'; simp at b; done)
    | exact (ne ‹_› ‹_›).elim
    | exact (nb ‹_› ‹_› ‹_›).elim
    | (have : i = i' := by
        rcases Nat.lt_trichotomy i i' with h | h | h
        · exact absurd c (d' i h)
        · exact h
        · exact absurd c' (d i' h)
       rw [this])
theorem read_fn {l : List UInt8} {r : AV} (hr : ReadR l r) (hsz : l.length < 9223372036854775808) : PFn Tryd.prog 202 [Sx l] r := by
  intro H Q hq
  have out : ∀ {r'}, ReadR l r' → Q r' H := fun h => by rw [readR_fn h hr]; exact hq
  refine enter202 (by simp) ?_
  simp (disch := first | assumption | (apply Ap.symm; assumption) | omega | decide | (simp only [Xd] <;> omega)) only [ac202, ↓Xa, Xb, Xc, ↓reduceIte, Nat.reduceLT, Nat.reduceEqDiff, Nat.reduceBEq, Nat.reduceLeDiff, Nat.reduceAdd, Nat.reduceMul]
  refine alloc_i fun p1 hp1 => ?_
  have n1 := hp1
  have fin : ∀ {r' : AV} {x : Option ABlk}, ReadR l r' → SetR Q r' (H.upd p1 x) := fun h => SetR.dropTo ((Le.refl H).updB n1) (SetR.now (out h))
  by_cases h1 : 65536 < l.length
  · simp (disch := first | assumption | (apply Ap.symm; assumption) | omega | decide | (simp only [Xd] <;> omega)) only [len_Sx, h1, cells_i2, rs202, ↓Xa, Xb, Xc, ↓reduceIte, Nat.reduceLT, Nat.reduceEqDiff, Nat.reduceBEq, Nat.reduceLeDiff, Nat.reduceAdd, Nat.reduceMul]
    exact fin (.inl ⟨h1, rfl⟩)
  by_cases h2 : l = []
  · simp (disch := first | assumption | (apply Ap.symm; assumption) | omega | decide | (simp only [Xd] <;> omega)) only [len_Sx, str_Sx, eql_Sx, h2, rs202, List.length_nil, ↓Xa, Xb, Xc, ↓reduceIte, Nat.reduceLT, Nat.reduceEqDiff, Nat.reduceBEq, Nat.reduceLeDiff, Nat.reduceAdd, Nat.reduceMul]
    exact fin (.inr (.inl ⟨h2, rfl⟩))
  have hpos : 0 < l.length := List.length_pos_iff.2 h2
  simp (disch := first | assumption | (apply Ap.symm; assumption) | omega | decide | (simp only [Xd] <;> omega)) only [len_Sx, str_Sx, eql_Sx, h1, h2, ↓Xa, Xb, Xc, ↓reduceIte, Nat.reduceLT, Nat.reduceEqDiff, Nat.reduceBEq, Nat.reduceLeDiff, Nat.reduceAdd, Nat.reduceMul]
  refine W_loop (fun i : Nat => ⟨[], [(0, Sx l), (3, .ptr p1 2 0), (19, .int .i64 (l.length : Nat)), (20, .int .i64 (i : Nat))], H.upd p1 (some (.row 105 0 [.int .i64 ((0 : Nat) : Int), .int .i64 ((0 : Nat) : Int)]))⟩) (fun i => i ≤ l.length ∧ ∀ j, j < i → ¬ badAt l j) (fun i => l.length - i) 0 (Settle.now rfl) ⟨by simp, fun j h => by omega⟩ ?_
  rintro i ⟨hi1, hi2⟩
  by_cases hi : i < l.length
  · have bad : badAt l i → SetR Q (.tup [LS [] true, spot 6 i]) (H.upd p1 (some (.row 105 0 [.int .i64 ((6 : Nat) : Int), .int .i64 (i : Int)]))) := fun hb => fin (.inr (.inr (.inl ⟨by omega, i, hi, hb, hi2, rfl⟩)))
    have step : ¬ badAt l i → ∀ j, j < i + 1 → ¬ badAt l j := fun hb j hj => by
      by_cases e : j = i
      · rw [e]; exact hb
      · exact hi2 j (by omega)
    by_cases c1 : (l.getD i 0).toNat < 48
    · simp (disch := first | assumption | (apply Ap.symm; assumption) | omega | decide | (simp only [Xd] <;> omega)) only [hi, idx_Sx, c1, cells_i2, rs202, ↓Xa, Xb, Xc, ↓reduceIte, Nat.reduceLT, Nat.reduceEqDiff, Nat.reduceBEq, Nat.reduceLeDiff, Nat.reduceAdd, Nat.reduceMul]
      exact bad (.inl c1)
    by_cases c2 : 57 < (l.getD i 0).toNat
    · simp (disch := first | assumption | (apply Ap.symm; assumption) | omega | decide | (simp only [Xd] <;> omega)) only [hi, idx_Sx, c1, c2, cells_i2, rs202, ↓Xa, Xb, Xc, ↓reduceIte, Nat.reduceLT, Nat.reduceEqDiff, Nat.reduceBEq, Nat.reduceLeDiff, Nat.reduceAdd, Nat.reduceMul]
      exact bad (.inr (.inl c2))
    by_cases c3 : 0 < i
    · by_cases c4 : (l.getD 0 0).toNat = 48
      · simp (disch := first | assumption | (apply Ap.symm; assumption) | omega | decide | (simp only [Xd] <;> omega)) only [hi, idx_Sx, c1, c2, c3, c4, cells_i2, rs202, ↓Xa, Xb, Xc, ↓reduceIte, Nat.reduceLT, Nat.reduceEqDiff, Nat.reduceBEq, Nat.reduceLeDiff, Nat.reduceAdd, Nat.reduceMul]
        exact bad (.inr (.inr ⟨c3, c4⟩))
      · simp (disch := first | assumption | (apply Ap.symm; assumption) | omega | decide | (simp only [Xd] <;> omega)) only [hi, idx_Sx, c1, c2, c3, c4, ↓Xa, Xb, Xc, ↓reduceIte, Nat.reduceLT, Nat.reduceEqDiff, Nat.reduceBEq, Nat.reduceLeDiff, Nat.reduceAdd, Nat.reduceMul]
        exact Settle.now ⟨i + 1, by omega, ⟨by omega, step (by unfold badAt; omega)⟩, rfl⟩
    · simp (disch := first | assumption | (apply Ap.symm; assumption) | omega | decide | (simp only [Xd] <;> omega)) only [hi, idx_Sx, c1, c2, c3, ↓Xa, Xb, Xc, ↓reduceIte, Nat.reduceLT, Nat.reduceEqDiff, Nat.reduceBEq, Nat.reduceLeDiff, Nat.reduceAdd, Nat.reduceMul]
      exact Settle.now ⟨i + 1, by omega, ⟨by omega, step (by unfold badAt; omega)⟩, rfl⟩
  · have hg : Good l := good_of h2 fun j hj => hi2 j (by omega)
    simp (disch := first | assumption | (apply Ap.symm; assumption) | omega | decide | (simp only [Xd] <;> omega)) only [hi, ↓Xa, Xb, Xc, ↓reduceIte, Nat.reduceLT, Nat.reduceEqDiff, Nat.reduceBEq, Nat.reduceLeDiff, Nat.reduceAdd, Nat.reduceMul]
    refine Settle.now ?_
    simp (disch := first | assumption | (apply Ap.symm; assumption) | omega | decide | (simp only [Xd] <;> omega)) only [↓Xa, Xb, Xc, ↓reduceIte, Nat.reduceLT, Nat.reduceEqDiff, Nat.reduceBEq, Nat.reduceLeDiff, Nat.reduceAdd, Nat.reduceMul]
    have hdig : ∀ b, b ∈ l → b.toNat ≤ 57 := fun b hb => (hg.2.1 b hb).2
    refine W_loop (fun s : List UInt8 × Nat => ⟨[], [(0, Sx s.1), (3, .ptr p1 2 0), (5, LS (Ma.digs 4294967296 s.2) true)], H.upd p1 (some (.row 105 0 [.int .i64 ((0 : Nat) : Int), .int .i64 ((0 : Nat) : Int)]))⟩) (fun s => ∃ d, l = d ++ s.1 ∧ s.2 = decV d) (fun s => s.1.length) (l, 0) (Settle.now (by rw [digs_zero]; rfl)) ⟨[], by simp, rfl⟩ ?_
    rintro ⟨m, v⟩ ⟨d, hd1, hd2⟩
    dsimp only at hd1 hd2 ⊢
    have hlen : l.length = d.length + m.length := by rw [hd1, List.length_append]
    cases m with
    | nil =>
      rw [List.append_nil] at hd1
      simp (disch := first | assumption | (apply Ap.symm; assumption) | omega | decide | (simp only [Xd] <;> omega)) only [len_Sx, List.length_nil, ↓Xa, Xb, Xc, ↓reduceIte, Nat.reduceLT, Nat.reduceEqDiff, Nat.reduceBEq, Nat.reduceLeDiff, Nat.reduceAdd, Nat.reduceMul]
      refine Settle.now ?_
      simp (disch := first | assumption | (apply Ap.symm; assumption) | omega | decide | (simp only [Xd] <;> omega)) only [cells_i2, rs202, ↓Xa, Xb, Xc, ↓reduceIte, Nat.reduceLT, Nat.reduceEqDiff, Nat.reduceBEq, Nat.reduceLeDiff, Nat.reduceAdd, Nat.reduceMul]
      rw [hd2, ← hd1]
      exact fin (.inr (.inr (.inr ⟨by omega, hg, rfl⟩)))
    | cons x m =>
      generalize hm : x :: m = y at *
      have hy0 : 0 < y.length := by rw [← hm]; simp
      simp (disch := first | assumption | (apply Ap.symm; assumption) | omega | decide | (simp only [Xd] <;> omega)) only [len_Sx, hy0, min_k, slc_SxH, rng_Sx, ↓Xa, Xb, Xc, ↓reduceIte, Nat.reduceLT, Nat.reduceEqDiff, Nat.reduceBEq, Nat.reduceLeDiff, Nat.reduceAdd, Nat.reduceMul]
      refine rng_i fun q hq' => ?_
      obtain ⟨a1, a2⟩ := upd_none.1 hq'
      obtain ⟨n, hn⟩ : ∃ n, n = min y.length 9 := ⟨_, rfl⟩
      rw [← hn]
      obtain ⟨z, hz⟩ : ∃ z, z = y.take n := ⟨_, rfl⟩
      rw [← hz]
      have hzl : z.length = n := by rw [hz, List.length_take]; omega
      have hzd : ∀ b, b ∈ z → isDig b := fun b hb => hg.2.1 b (by rw [hd1]; exact List.mem_append_right _ (List.mem_of_mem_take (hz ▸ hb)))
      have p9 : ∀ k, k ≤ 9 → 10 ^ k ≤ 1000000000 := fun k hk => Nat.le_trans (Nat.pow_le_pow_right (by omega) hk) (by decide)
      simp (disch := first | assumption | (apply Ap.symm; assumption) | omega | decide | (simp only [Xd] <;> omega)) only [↓Xa, Xb, Xc, ↓reduceIte, Nat.reduceLT, Nat.reduceEqDiff, Nat.reduceBEq, Nat.reduceLeDiff, Nat.reduceAdd, Nat.reduceMul]
      refine W_loop (fun s : Nat => ⟨[], [(0, Sx y), (3, .ptr p1 2 0), (5, LS (Ma.digs 4294967296 v) true), (6, .int .i64 (n : Nat)), (7, .int .u32 ((decV (z.take s) : Nat) : Int)), (8, .int .u32 ((10 ^ s : Nat) : Int)), (54, .ptr q 0 0)],
        (H.upd p1 (some (.row 105 0 [.int .i64 ((0 : Nat) : Int), .int .i64 ((0 : Nat) : Int)]))).upd q (some (.raw (.stringIter ⟨z.toArray⟩ s)))⟩) (fun s => s ≤ n) (fun s => n - s) 0 (Settle.now rfl) (Nat.zero_le _) ?_
      intro i hin
      have hzt : ∀ k, ∀ b, b ∈ z.take k → b.toNat ≤ 57 := fun k b hb => (hzd b (List.mem_of_mem_take hb)).2
      have hvt : decV (z.take i) < 10 ^ i := by
        have := decV_lt (hzt i)
        rwa [List.length_take, Nat.min_eq_left (by omega)] at this
      by_cases hi2 : i < n
      · have hzi : i < z.length := by omega
        have hdg := hzd _ (List.getElem_mem hzi)
        have eg : z.getD i 0 = z[i] := by rw [List.getD_eq_getElem?_getD, List.getElem?_eq_getElem hzi, Option.getD_some]
        rw [← eg] at hdg
        unfold isDig at hdg
        have h128 : (z.getD i 0).toNat < 128 := by omega
        have h10 := p9 i (by omega)
        have h11 := p9 (i + 1) (by omega)
        have hsucc : decV (z.take (i + 1)) = 10 * decV (z.take i) + ((z.getD i 0).toNat - 48) := by
          have : z.take (i + 1) = z.take i ++ [z.getD i 0] := by
            rw [List.take_add_one, List.getElem?_eq_getElem hzi, eg]; rfl
          rw [this, decV_app, decV_one]; simp
        rw [Nat.pow_succ] at h11
        simp (disch := first | assumption | (apply Ap.symm; assumption) | omega | decide | (simp only [Xd] <;> omega)) only [nxt_Sl, wn_i32, ↓Xa, Xb, Xc, ↓reduceIte, Nat.reduceLT, Nat.reduceEqDiff, Nat.reduceBEq, Nat.reduceLeDiff, Nat.reduceAdd, Nat.reduceMul]
        refine Settle.now ⟨i + 1, by omega, by omega, ?_⟩
        rw [hsucc, Nat.pow_succ]
        done
      · obtain rfl : i = n := by omega
        rw [List.take_of_length_le (by omega)] at hvt ⊢
        have hge : z.length ≤ i := by omega
        simp (disch := first | assumption | (apply Ap.symm; assumption) | omega | decide | (simp only [Xd] <;> omega)) only [nxt_Sg, ↓Xa, Xb, Xc, ↓reduceIte, Nat.reduceLT, Nat.reduceEqDiff, Nat.reduceBEq, Nat.reduceLeDiff, Nat.reduceAdd, Nat.reduceMul]
        refine Settle.now ?_
        simp (disch := first | assumption | (apply Ap.symm; assumption) | omega | decide | (simp only [Xd] <;> omega)) only [↓Xa, Xb, Xc, ↓reduceIte, Nat.reduceLT, Nat.reduceEqDiff, Nat.reduceBEq, Nat.reduceLeDiff, Nat.reduceAdd, Nat.reduceMul]
        have hv : v < 4294967296 ^ 8192 := by
          rw [hd2]
          refine Nat.lt_of_lt_of_le (decV_lt fun b hb => hdig b (by rw [hd1]; exact List.mem_append_left _ hb)) ?_
          exact ten_bound (by omega)
        have h10 := p9 i (by omega)
        refine (muls_n true (Nm.digs hv) (by omega) (by omega)).call ?_
        simp (disch := first | assumption | (apply Ap.symm; assumption) | omega | decide | (simp only [Xd] <;> omega)) only [↓Xa, Xb, Xc, ↓reduceIte, Nat.reduceLT, Nat.reduceEqDiff, Nat.reduceBEq, Nat.reduceLeDiff, Nat.reduceAdd, Nat.reduceMul]
        refine (add_n (b := [decV z]) true true (Nm.digs (lt_mul hv (show 10 ^ i < 4294967296 ^ 1 by omega))) (Nm.one (by omega)) (by omega) (by omega)).call ?_
        simp (disch := first | assumption | (apply Ap.symm; assumption) | omega | decide | (simp only [Xd] <;> omega)) only [slc_SxL, ↓Xa, Xb, Xc, ↓reduceIte, Nat.reduceLT, Nat.reduceEqDiff, Nat.reduceBEq, Nat.reduceLeDiff, Nat.reduceAdd, Nat.reduceMul]
        refine Settle.dropTo ((Le.refl _).updB hq') (Settle.now ⟨(y.drop i, v * 10 ^ i + decV z), ?_, ⟨d ++ z, ?_, ?_⟩, rfl⟩)
        · dsimp only; rw [List.length_drop]; omega
        · dsimp only; rw [hd1, hz, List.append_assoc, List.take_append_drop]
        · dsimp only; rw [hd2, decV_app, hzl]; grind
end Go.Proofs.YtanchgkiomfhhaaDoor.Fw

/- A number's digits gone over, as package limb tells them. -/
namespace Go.Proofs.YtanchgkiomfhhaaDoor.Fw
set_option linter.unusedSimpArgs false
set_option linter.unusedVariables false
open Go Go.Proofs.YtanchgkiomfhhaaDoor.Ma
set_option maxRecDepth 20000

theorem cW_y {P : Program} {b : Nat} {args : List AV} {H : AHeap} {K : AV → AHeap → Prop} : callW P (.yld b) args H K = YieldW P b args H K := id rfl
theorem load_cS {H : AHeap} {l : List UInt8} {K : AV → Prop} : loadW H none (.cptr [Sx l]) K = K (Sx l) := by simp [loadW, cellsAt, Sx]
theorem digits1_iter {l : List UInt8} (hg : ∀ b, b ∈ l → isDig b) (hl : l.length < 4611686018427387904) : IterW Tryd.prog 191 [.cptr [Sx l]] (fun d : Nat => [.int .i64 (d : Int)]) (l.map fun b => b.toNat - 48) := by
  intro b J Jx hy A B hd h0
  refine enter191 (by simp) ?_
  simp (disch := first | assumption | (apply Ap.symm; assumption) | omega | decide | (simp only [Xd] <;> omega)) only [ac191, rng_Sx, load_cS, ↓Xa, Xb, Xc, ↓reduceIte, Nat.reduceLT, Nat.reduceEqDiff, Nat.reduceBEq, Nat.reduceLeDiff, Nat.reduceAdd, Nat.reduceMul]
  refine rng_i fun q hq => ?_
  obtain ⟨qa, qb⟩ := un_none.1 hq
  simp (disch := first | assumption | (apply Ap.symm; assumption) | omega | decide | (simp only [Xd] <;> omega)) only [↓Xa, Xb, Xc, ↓reduceIte, Nat.reduceLT, Nat.reduceEqDiff, Nat.reduceBEq, Nat.reduceLeDiff, Nat.reduceAdd, Nat.reduceMul]
  refine W_loop (fun s : Nat × AHeap => ⟨[], [(0, .yld b), (6, .ptr q 0 0)], (Un s.2 B).upd q (some (.raw (.stringIter ⟨l.toArray⟩ s.1)))⟩) (fun s => s.1 ≤ l.length ∧ Dj s.2 B ∧ s.2 q = none ∧ J ((l.map fun b => b.toNat - 48).take s.1) s.2) (fun s => l.length - s.1) (0, A) (Settle.now rfl) ⟨Nat.zero_le _, hd, qa, by simpa using h0⟩ ?_
  rintro ⟨i, A1⟩ ⟨hi, hd1, hq1, hj⟩
  dsimp only at hi hd1 hq1 hj ⊢
  by_cases h : i < l.length
  · have hdg := hg _ (List.getElem_mem h)
    have eg : l.getD i 0 = l[i] := by rw [List.getD_eq_getElem?_getD, List.getElem?_eq_getElem h, Option.getD_some]
    rw [← eg] at hdg
    unfold isDig at hdg
    have h128 : (l.getD i 0).toNat < 128 := by omega
    have hx : (l.map fun b => b.toNat - 48) = (l.map fun b => b.toNat - 48).take i ++ ((l.getD i 0).toNat - 48) :: (l.map fun b => b.toNat - 48).drop (i + 1) := by
      conv => lhs; rw [← List.take_append_drop i (l.map fun b => b.toNat - 48)]
      rw [List.drop_eq_getElem_cons (by simpa using h), List.getElem_map, eg]
    have hx2 : (l.map fun b => b.toNat - 48).take (i + 1) = (l.map fun b => b.toNat - 48).take i ++ [(l.getD i 0).toNat - 48] := by
      rw [List.take_add_one, List.getElem?_map, List.getElem?_eq_getElem h, eg]; rfl
    simp (disch := first | assumption | (apply Ap.symm; assumption) | omega | decide | (simp only [Xd] <;> omega)) only [nxt_Sl, wn_i32, cW_y, ↓Xa, Xb, Xc, ↓reduceIte, Nat.reduceLT, Nat.reduceEqDiff, Nat.reduceBEq, Nat.reduceLeDiff, Nat.reduceAdd, Nat.reduceMul]
    rw [← un_updR hq1]
    refine (hy _ _ _ A1 (B.upd q (some (.raw (.stringIter ⟨l.toArray⟩ (i + 1))))) hx (dj_updR hd1 hq1) hj).mono ?_
    rintro r H' ⟨A2, hd2, rfl, (⟨rfl, hj2⟩ | ⟨rfl, hj2⟩)⟩
    · have hq2 : A2 q = none := dj_atR hd2 (upd_same _ _ _)
      rw [un_updR hq2]
      simp (disch := first | assumption | (apply Ap.symm; assumption) | omega | decide | (simp only [Xd] <;> omega)) only [↓Xa, Xb, Xc, ↓reduceIte, Nat.reduceLT, Nat.reduceEqDiff, Nat.reduceBEq, Nat.reduceLeDiff, Nat.reduceAdd, Nat.reduceMul]
      refine Settle.keep [0, 6] ⟨(i + 1, A2), by dsimp only; omega, ⟨by dsimp only; omega, ?_, hq2, by dsimp only; rw [hx2]; exact hj2⟩, rfl⟩
      intro k
      by_cases e : k = q
      · subst e; exact .inl hq2
      · have := hd2 k
        rwa [upd_other _ _ e] at this
    · have hq2 : A2 q = none := dj_atR hd2 (upd_same _ _ _)
      have hd3 : Dj A2 B := fun k => by
        by_cases e : k = q
        · subst e; exact .inl hq2
        · have := hd2 k
          rwa [upd_other _ _ e] at this
      rw [un_updR hq2]
      simp (disch := first | assumption | (apply Ap.symm; assumption) | omega | decide | (simp only [Xd] <;> omega)) only [rs191, ↓Xa, Xb, Xc, ↓reduceIte, Nat.reduceLT, Nat.reduceEqDiff, Nat.reduceBEq, Nat.reduceLeDiff, Nat.reduceAdd, Nat.reduceMul]
      refine SetR.dropTo ((Le.refl _).upd (un_none.2 ⟨hq2, qb⟩)) (SetR.now ⟨A2, hd3, rfl, .inr hj2⟩)
  · obtain rfl : i = l.length := by omega
    simp (disch := first | assumption | (apply Ap.symm; assumption) | omega | decide | (simp only [Xd] <;> omega)) only [nxt_Sg, ↓Xa, Xb, Xc, ↓reduceIte, Nat.reduceLT, Nat.reduceEqDiff, Nat.reduceBEq, Nat.reduceLeDiff, Nat.reduceAdd, Nat.reduceMul]
    refine Settle.now ?_
    simp (disch := first | assumption | (apply Ap.symm; assumption) | omega | decide | (simp only [Xd] <;> omega)) only [rs191, ↓Xa, Xb, Xc, ↓reduceIte, Nat.reduceLT, Nat.reduceEqDiff, Nat.reduceBEq, Nat.reduceLeDiff, Nat.reduceAdd, Nat.reduceMul]
    rw [List.take_of_length_le (by simp)] at hj
    refine SetR.dropTo ((Le.refl _).upd (un_none.2 ⟨hq1, qb⟩)) (SetR.now ⟨A1, hd1, rfl, .inl hj⟩)
theorem digits_fn {l : List Nat} (t : Bool) (hl : Lim 4294967296 l) (hn : l.length ≤ 1099511627776) : PFn Tryd.prog 132 [LS l t] (.fn (.func 191) [] [.cptr [Sx (decT (val 4294967296 l))]]) := by
  intro H Q hq
  refine enter132 (by simp) ?_
  simp (disch := first | assumption | (apply Ap.symm; assumption) | omega | decide | (simp only [Xd] <;> omega)) only [ac132, ↓Xa, Xb, Xc, ↓reduceIte, Nat.reduceLT, Nat.reduceEqDiff, Nat.reduceBEq, Nat.reduceLeDiff, Nat.reduceAdd, Nat.reduceMul]
  refine (text_fn t hl hn).call ?_
  simp (disch := first | assumption | (apply Ap.symm; assumption) | omega | decide | (simp only [Xd] <;> omega)) only [↓Xa, Xb, Xc, ↓reduceIte, Nat.reduceLT, Nat.reduceEqDiff, Nat.reduceBEq, Nat.reduceLeDiff, Nat.reduceAdd, Nat.reduceMul]
  refine alloc_i fun p1 hp1 => ?_
  have n1 := hp1
  simp (disch := first | assumption | (apply Ap.symm; assumption) | omega | decide | (simp only [Xd] <;> omega)) only [cells_Sx, rs132, ↓Xa, Xb, Xc, ↓reduceIte, Nat.reduceLT, Nat.reduceEqDiff, Nat.reduceBEq, Nat.reduceLeDiff, Nat.reduceAdd, Nat.reduceMul]
  refine SetR.frzP p1 (upd_same _ _ _) ?_
  rw [upd_upd, upd_back _ n1]
  simp [frzP, frzP1]
  exact SetR.now hq
end Go.Proofs.YtanchgkiomfhhaaDoor.Fw

/- A whole number's text, as package integer tells it. -/
namespace Go.Proofs.YtanchgkiomfhhaaDoor.Fw
set_option linter.unusedSimpArgs false
set_option linter.unusedVariables false
open Go Go.Proofs.YtanchgkiomfhhaaDoor.Ma
set_option maxRecDepth 20000

def iText (z : Int) : List UInt8 := (if z < 0 then [45] else []) ++ decT z.natAbs
theorem Bt_app (l m : List UInt8) : Bt (l ++ m) = Bt l ++ Bt m := by simp [Bt]
theorem Bt_one {n : Nat} (h : n < 256) : [AV.int .u8 (n : Int)] = Bt [UInt8.ofNat n] := by
  simp only [Bt, List.map_cons, List.map_nil]
  rw [UInt8.toNat_ofNat', Nat.mod_eq_of_lt (by omega)]
theorem decT_len {n k : Nat} (h : n < 10 ^ k) (hk : 0 < k) : (decT n).length ≤ k := by
  unfold decT; split
  · simp; omega
  · exact dec_len h
theorem decT_bd {x : Int} {k : Nat} (hx : Bd k x) : (decT x.natAbs).length ≤ 10 * k + 1 := by
  refine decT_len (Nat.lt_of_lt_of_le hx ?_) (by omega)
  calc 4294967296 ^ k ≤ (10 ^ 10) ^ k := Nat.pow_le_pow_left (by omega) k
    _ = 10 ^ (10 * k) := by rw [Nat.pow_mul]
    _ ≤ 10 ^ (10 * k + 1) := Nat.pow_le_pow_right (by omega) (by omega)
theorem wn_u8' {n : Nat} (h : n < 256) : IntKind.u8.wrap (n : Int) = (n : Int) := by
  unfold IntKind.wrap; simp only [IntKind.bits, IntKind.signed, Bool.false_and, Bool.false_eq_true, if_false]; omega
theorem isDig_chr {b : UInt8} (h : isDig b) : UInt8.ofNat (48 + (b.toNat - 48)) = b := by
  unfold isDig at h
  rw [show 48 + (b.toNat - 48) = b.toNat by omega]; exact UInt8.ofNat_toNat
theorem b2s_B {H0 H : AHeap} {p tb ty : Nat} {l : List UInt8} (h : growB H0 p tb ty 1 l.length (Bt l) H) : ∃ x, H p = some (.row tb 0 [x]) ∧ AV.cells x = some [x] ∧ ∀ H' K, Le H H' → K (Sx l) → b2sW H' x K := by
  obtain ⟨x, hx, hc, _⟩ := growB_get h
  refine ⟨x, hx, ?_, ?_⟩
  · rcases hc with ⟨rfl, _, _⟩ | ⟨_, _, b, rfl, _⟩ <;> rfl
  · intro H' K hle k
    rcases hc with ⟨rfl, h0, hc⟩ | ⟨hn, hl, b, rfl, hb⟩
    · have : l = [] := List.eq_nil_of_length_eq_zero h0
      subst this
      exact ⟨rfl, k⟩
    · rw [Nat.mul_one, b2s_own, hle _ _ hb]
      refine ⟨by simp [Bt_len], rfl, by omega, ?_⟩
      rw [List.drop_zero, List.take_of_length_le (by simp [Bt_len]), bytesOf_Bt]
      exact k
def chD (d : Nat) : UInt8 := UInt8.ofNat (48 + d)
theorem chD_back : ∀ {l : List UInt8}, (∀ b, b ∈ l → isDig b) → (l.map fun b => b.toNat - 48).map chD = l := by
  intro l h
  rw [List.map_map]
  conv => rhs; rw [← List.map_id l]
  exact List.map_congr_left fun b hb => isDig_chr (h b hb)
theorem itext_fn {x : Int} {k : Nat} (hx : Bd k x) (hk : k ≤ 1000000) : PFn Tryd.prog 28 [IntA x] (Sx (iText x)) := by
  intro H Q hq
  have hdl := hx.len
  have hdt := decT_bd hx
  have hgd := good_decT x.natAbs
  refine enter28 (by simp) ?_
  simp (disch := first | assumption | (apply Ap.symm; assumption) | omega | decide | (simp only [Xd] <;> omega)) only [ac28, IntA, ↓Xa, Xb, Xc, ↓reduceIte, Nat.reduceLT, Nat.reduceEqDiff, Nat.reduceBEq, Nat.reduceLeDiff, Nat.reduceAdd, Nat.reduceMul]
  refine alloc_i fun p1 hp1 => ?_
  have n1 := hp1
  simp (disch := first | assumption | (apply Ap.symm; assumption) | omega | decide | (simp only [Xd] <;> omega)) only [↓Xa, Xb, Xc, ↓reduceIte, Nat.reduceLT, Nat.reduceEqDiff, Nat.reduceBEq, Nat.reduceLeDiff, Nat.reduceAdd, Nat.reduceMul]
  refine alloc_i fun p2 hp2 => ?_
  have n2 := hp2
  simp only [upd_none] at n2
  obtain ⟨_, n2⟩ := n2
  obtain ⟨neg, hneg⟩ : ∃ b, b = decide (x < 0) := ⟨_, rfl⟩
  rw [← hneg] at hp2 ⊢
  have tail : ∀ (pre : List UInt8) (H2 : AHeap) (v : Env), (v = [] ∨ v = [(6, .bool false)]) → pre.length ≤ 1 → pre ++ decT x.natAbs = iText x → growB (H.upd p1 (some (.row 28 0 [.bool neg, LS (digs 4294967296 x.natAbs) true]))) p2 103 5 1 pre.length (Bt pre) H2 →
      W Tryd.prog (sndC (sndC (sndC ac28))) (retN rs28 Q) ⟨[], [(1, .ptr p1 2 0), (2, Sx []), (3, .ptr p2 1 0)] ++ v, H2⟩ := by
    intro pre H2 v hv hp1 hpre hg
    have h1 : H2 p1 = some (.row 28 0 [.bool neg, LS (digs 4294967296 x.natAbs) true]) := by
      obtain ⟨_, _, _, hle⟩ := growB_get hg
      exact hle _ _ (upd_same _ _ _)
    rcases hv with rfl | rfl
    all_goals
     simp (disch := first | assumption | (apply Ap.symm; assumption) | omega | decide | (simp only [Xd] <;> omega)) only [sndC, ac28, h1, ↓Xa, Xb, Xc, ↓reduceIte, Nat.reduceLT, Nat.reduceEqDiff, Nat.reduceBEq, Nat.reduceLeDiff, Nat.reduceAdd, Nat.reduceMul]
     refine (digits_fn true (lim_digs (by omega) _) (by omega)).call ?_
     rw [val_digs (by omega)]
     simp (disch := first | assumption | (apply Ap.symm; assumption) | omega | decide | (simp only [Xd] <;> omega)) only [↓Xa, Xb, Xc, ↓reduceIte, Nat.reduceLT, Nat.reduceEqDiff, Nat.reduceBEq, Nat.reduceLeDiff, Nat.reduceAdd, Nat.reduceMul]
     obtain ⟨A, hd, rfl, hgA⟩ := growB_nu hg
     have hle : Le H (H.upd p1 (some (.row 28 0 [.bool neg, LS (digs 4294967296 x.natAbs) true]))) := (Le.refl H).upd n1
     refine rfn_iter (digits1_iter (fun b hb => hgd.2.1 b hb) (by omega)) (fun _ => rfl) (fun ds A => growB nilH p2 103 5 1 (pre ++ ds.map chD).length (Bt (pre ++ ds.map chD)) A) (fun _ _ => False) A _ hd rfl (by simpa using hgA) ?_ ?_ (fun _ _ _ _ _ _ h => h.elim)
     · intro ds d rest A B hds hdj hj R1 k1
       have hlen := congrArg List.length hds
       have hd10 : d < 10 := by
         have : d ∈ ((decT x.natAbs).map fun b => b.toNat - 48) := by rw [hds]; simp
         obtain ⟨b, hb, rfl⟩ := List.mem_map.1 this
         have := hgd.2.1 b hb
         unfold isDig at this; omega
       simp (disch := first | assumption | (apply Ap.symm; assumption) | omega | decide | (simp only [Xd] <;> omega)) only [setps, ↓Xa, Xb, Xc, ↓reduceIte, Nat.reduceLT, Nat.reduceEqDiff, Nat.reduceBEq, Nat.reduceLeDiff, Nat.reduceAdd, Nat.reduceMul]
       refine k1 _ A hdj fun R2 B1 k2 hd1 => ?_
       obtain ⟨y, hy, happ⟩ := growB_app (m := 1) (bytes := 1) (growB_un hj hd1)
       have e1 : IntKind.i64.wrap ((48 : Nat) + (d : Int)) = ((48 + d : Nat) : Int) := by rw [← Int.natCast_add]; exact wn_i64 (by omega)
       simp (disch := first | assumption | (apply Ap.symm; assumption) | omega | decide | (simp only [Xd] <;> omega)) only [hy, wn_u8', ↓Xa, Xb, Xc, ↓reduceIte, Nat.reduceLT, Nat.reduceEqDiff, Nat.reduceBEq, Nat.reduceLeDiff, Nat.reduceAdd, Nat.reduceMul]
       refine happ rfl rfl (by omega) ?_ ?_ fun x' H' hp hc hg2 => ?_
       · simp at hlen ⊢; omega
       · simp at hlen ⊢; omega
       simp (disch := first | assumption | (apply Ap.symm; assumption) | omega | decide | (simp only [Xd] <;> omega)) only [hp, hc, ↓Xa, Xb, Xc, ↓reduceIte, Nat.reduceLT, Nat.reduceEqDiff, Nat.reduceBEq, Nat.reduceLeDiff, Nat.reduceAdd, Nat.reduceMul]
       refine k2 .normal _ (Settle.now (growB_nu ?_))
       have e : pre ++ (ds ++ [d]).map chD = (pre ++ ds.map chD) ++ [chD d] := by simp
       dsimp only
       rw [e, List.length_append, Bt_app, show Bt [chD d] = [AV.int .u8 ((48 + d : Nat) : Int)] from (Bt_one (by omega)).symm]
       exact hg2
     · intro d A' hdj hA hB hj
       rw [chD_back hgd.2.1, hpre] at hj
       have hj2 := growB_un hj hdj
       obtain ⟨y, hy, hyc, hb2⟩ := b2s_B hj2
       obtain ⟨_, _, _, hle2⟩ := growB_get hj2
       have hdn := un_none.2 ⟨hA, hB⟩
       have hy2 : ((Un A' (H.upd p1 (some (.row 28 0 [.bool neg, LS (digs 4294967296 x.natAbs) true])))).upd d (some (.raw (.deferred (some []))))) p2 = some (.row 103 0 [y]) := by
         rw [upd_other _ _ (by rintro rfl; rw [hdn] at hy; cases hy)]; exact hy
       simp (disch := first | assumption | (apply Ap.symm; assumption) | omega | decide | (simp only [Xd] <;> omega)) only [hy2, ↓Xa, Xb, Xc, ↓reduceIte, Nat.reduceLT, Nat.reduceEqDiff, Nat.reduceBEq, Nat.reduceLeDiff, Nat.reduceAdd, Nat.reduceMul]
       refine hb2 _ _ ((Le.refl _).upd hdn) ?_
       simp (disch := first | assumption | (apply Ap.symm; assumption) | omega | decide | (simp only [Xd] <;> omega)) only [rs28, ↓Xa, Xb, Xc, ↓reduceIte, Nat.reduceLT, Nat.reduceEqDiff, Nat.reduceBEq, Nat.reduceLeDiff, Nat.reduceAdd, Nat.reduceMul]
       rw [upd_back _ hdn]
       exact SetR.dropTo (fun b x hb => hle2 _ _ (hle _ _ hb)) (SetR.now hq)
  have g0 := growB_nil (H0 := H.upd p1 (some (.row 28 0 [.bool neg, LS (digs 4294967296 x.natAbs) true]))) (tb := 103) (ty := 5) (es := 1) hp2
  cases neg with
  | true =>
    simp (disch := first | assumption | (apply Ap.symm; assumption) | omega | decide | (simp only [Xd] <;> omega)) only [↓Xa, Xb, Xc, ↓reduceIte, Nat.reduceLT, Nat.reduceEqDiff, Nat.reduceBEq, Nat.reduceLeDiff, Nat.reduceAdd, Nat.reduceMul]
    obtain ⟨y, hy, happ⟩ := growB_app (m := 1) (bytes := 1) g0
    obtain rfl : y = .seq 0 [] true := by rw [upd_same] at hy; injection hy with hy; injection hy with _ _ hy; injection hy with hy; exact hy.symm
    refine happ (by rfl) (by rfl) (by omega) (by omega) (by omega) fun x' H' hp hc hg2 => ?_
    simp (disch := first | assumption | (apply Ap.symm; assumption) | omega | decide | (simp only [Xd] <;> omega)) only [hp, hc, ↓Xa, Xb, Xc, ↓reduceIte, Nat.reduceLT, Nat.reduceEqDiff, Nat.reduceBEq, Nat.reduceLeDiff, Nat.reduceAdd, Nat.reduceMul]
    have tl := tail [45] _ [] (.inl rfl) (by simp) (by simp [iText, of_decide_eq_true hneg.symm]) hg2
    simp (disch := first | assumption | (apply Ap.symm; assumption) | omega | decide | (simp only [Xd] <;> omega)) only [sndC, ac28, ↓Xa, Xb, Xc, ↓reduceIte, Nat.reduceLT, Nat.reduceEqDiff, Nat.reduceBEq, Nat.reduceLeDiff, Nat.reduceAdd, Nat.reduceMul] at tl
    exact tl
  | false =>
    have tl := tail [] _ _ (.inr rfl) (by simp) (by simp [iText, of_decide_eq_false hneg.symm]) g0
    simp (disch := first | assumption | (apply Ap.symm; assumption) | omega | decide | (simp only [Xd] <;> omega)) only [sndC, ac28, ↓Xa, Xb, Xc, ↓reduceIte, Nat.reduceLT, Nat.reduceEqDiff, Nat.reduceBEq, Nat.reduceLeDiff, Nat.reduceAdd, Nat.reduceMul] at tl
    simp (disch := first | assumption | (apply Ap.symm; assumption) | omega | decide | (simp only [Xd] <;> omega)) only [↓Xa, Xb, Xc, ↓reduceIte, Nat.reduceLT, Nat.reduceEqDiff, Nat.reduceBEq, Nat.reduceLeDiff, Nat.reduceAdd, Nat.reduceMul]
    exact tl
end Go.Proofs.YtanchgkiomfhhaaDoor.Fw

/- A whole number's text read, as package integer and as its reference read it. -/
namespace Go.Proofs.YtanchgkiomfhhaaDoor.Fw
set_option linter.unusedSimpArgs false
set_option linter.unusedVariables false
open Go Go.Proofs.YtanchgkiomfhhaaDoor.Ma
set_option maxRecDepth 20000

def iFrom (l : List UInt8) : Nat := if (l.getD 0 0).toNat = 45 then 1 else 0
def iBad (l : List UInt8) (i : Nat) : Prop := (l.getD i 0).toNat < 48 ∨ 57 < (l.getD i 0).toNat ∨ (i = iFrom l + 1 ∧ (l.getD (iFrom l) 0).toNat = 48) ∨ (i = iFrom l ∧ iFrom l = 1 ∧ (l.getD i 0).toNat = 48)
def IsAt (l : List UInt8) (p : Nat) : Prop := iFrom l ≤ p ∧ p ≤ l.length ∧ iBad l p ∧ ∀ j, iFrom l ≤ j → j < p → ¬ iBad l j
theorem get_beyond {l : List UInt8} {i : Nat} (h : l.length ≤ i) : l.getD i 0 = 0 := by
  rw [List.getD_eq_getElem?_getD, List.getElem?_eq_none h]; rfl
theorem iBad_end (l : List UInt8) : iBad l l.length := .inl (by rw [get_beyond (Nat.le_refl _)]; decide)
theorem iFrom_le (l : List UInt8) : iFrom l ≤ l.length ∧ iFrom l ≤ 1 := by
  unfold iFrom; split
  · rename_i h
    cases l with
    | nil => simp at h
    | cons x l => simp
  · simp
theorem first_of {P : Nat → Prop} (lo : Nat) : ∀ n, (∃ p, lo ≤ p ∧ p < lo + n ∧ P p ∧ ∀ j, lo ≤ j → j < p → ¬ P j) ∨ ∀ j, lo ≤ j → j < lo + n → ¬ P j
  | 0 => .inr fun j h1 h2 => by omega
  | n + 1 => by
    rcases first_of (P := P) lo n with ⟨p, a, b, c, d⟩ | h
    · exact .inl ⟨p, a, by omega, c, d⟩
    · by_cases hp : P (lo + n)
      · exact .inl ⟨lo + n, by omega, by omega, hp, h⟩
      · refine .inr fun j h1 h2 => ?_
        by_cases e : j = lo + n
        · rw [e]; exact hp
        · exact h j h1 (by omega)
theorem isAt_ex (l : List UInt8) : ∃ p, IsAt l p := by
  have h0 := (iFrom_le l).1
  rcases first_of (P := iBad l) (iFrom l) (l.length - iFrom l) with ⟨p, a, b, c, d⟩ | h
  · exact ⟨p, a, by omega, c, d⟩
  · exact ⟨l.length, h0, Nat.le_refl _, iBad_end l, fun j h1 h2 => h j h1 (by omega)⟩
theorem isAt_fn {l : List UInt8} {p q : Nat} (h : IsAt l p) (h' : IsAt l q) : p = q := by
  obtain ⟨a, b, c, d⟩ := h
  obtain ⟨a', b', c', d'⟩ := h'
  rcases Nat.lt_trichotomy p q with e | e | e
  · exact absurd c (d' p a e)
  · exact e
  · exact absurd c' (d q a' e)
def iVal (l : List UInt8) : Int := sg (decide (iFrom l = 1)) (decV (l.drop (iFrom l)))
theorem isAt_good {l : List UInt8} (h : IsAt l l.length) (hn : l.length ≠ iFrom l) : Good (l.drop (iFrom l)) := by
  have hf := (iFrom_le l).1
  obtain ⟨a, b, c, d⟩ := h
  refine good_of (by intro e; have := congrArg List.length e; simp at this; omega) fun i hi hb => ?_
  have hi' : iFrom l + i < l.length := by simp at hi; omega
  have e : (l.drop (iFrom l)).getD i 0 = l.getD (iFrom l + i) 0 := by simp [List.getD_eq_getElem?_getD]
  have e0 : (l.drop (iFrom l)).getD 0 0 = l.getD (iFrom l) 0 := by simp [List.getD_eq_getElem?_getD]
  unfold badAt at hb
  rw [e, e0] at hb
  rcases hb with hb | hb | ⟨hb, hb2⟩
  · exact d (iFrom l + i) (by omega) hi' (.inl hb)
  · exact d (iFrom l + i) (by omega) hi' (.inr (.inl hb))
  · exact d (iFrom l + 1) (by omega) (by omega) (.inr (.inr (.inl ⟨rfl, hb2⟩)))
def iReadA (l : List UInt8) (p : Nat) : AV :=
  if 65536 < l.length then .tup [IntA 0, spot 3 65536] else if p = iFrom l ∨ p < l.length then .tup [IntA 0, spot 6 p] else .tup [IntA (iVal l), spot 0 0]
theorem iread_fn {l : List UInt8} {p : Nat} (hp : IsAt l p) (hsz' : l.length < 9223372036854775808) : PFn Tryd.prog 167 [Sx l] (iReadA l p) := by
  intro H Q hq
  refine enter167 (by simp) ?_
  simp (disch := first | assumption | (apply Ap.symm; assumption) | omega | decide | (simp only [Xd] <;> omega)) only [ac167, ↓Xa, Xb, Xc, ↓reduceIte, Nat.reduceLT, Nat.reduceEqDiff, Nat.reduceBEq, Nat.reduceLeDiff, Nat.reduceAdd, Nat.reduceMul]
  refine alloc_i fun p1 hp1 => ?_
  have n1 := hp1
  simp (disch := first | assumption | (apply Ap.symm; assumption) | omega | decide | (simp only [Xd] <;> omega)) only [↓Xa, Xb, Xc, ↓reduceIte, Nat.reduceLT, Nat.reduceEqDiff, Nat.reduceBEq, Nat.reduceLeDiff, Nat.reduceAdd, Nat.reduceMul]
  refine alloc_i fun p2 hp2 => ?_
  have n2 := hp2
  simp only [upd_none] at n2
  obtain ⟨_, n2⟩ := n2
  have drop : ∀ {x y : ABlk} {r}, SetR Q r H → SetR Q r ((H.upd p1 (some x)).upd p2 (some y)) := fun h => SetR.dropTo (((Le.refl H).upd n1).updB n2) h
  by_cases h1 : 65536 < l.length
  · rw [iReadA, if_pos h1, ← IntA_0] at hq
    simp (disch := first | assumption | (apply Ap.symm; assumption) | omega | decide | (simp only [Xd] <;> omega)) only [len_Sx, h1, cells_i2, rs167, ↓Xa, Xb, Xc, ↓reduceIte, Nat.reduceLT, Nat.reduceEqDiff, Nat.reduceBEq, Nat.reduceLeDiff, Nat.reduceAdd, Nat.reduceMul]
    exact drop (SetR.now hq)
  rw [iReadA, if_neg h1] at hq
  have hsz : l.length < 9223372036854775807 := by omega
  obtain ⟨hf1, hf2⟩ := iFrom_le l
  have err : (p = iFrom l ∨ p < l.length) → ∀ {x y : ABlk}, SetR Q (.tup [.agg [.bool false, .seq 0 [] true], .agg [.int .i64 ((6 : Nat) : Int), .int .i64 (p : Int)]]) ((H.upd p1 (some x)).upd p2 (some y)) := fun h => by
    rw [if_pos h, ← IntA_0] at hq
    exact drop (SetR.now hq)
  have rest : ∀ {E : Env} {x y : ABlk}, E = [(0, Sx l), (2, .ptr p1 2 0), (3, .ptr p2 2 0), (4, .int .i64 (p : Int)), (5, .int .i64 (iFrom l : Int))] → x = .row 28 0 [.bool false, .seq 0 [] true] → y = .row 105 0 [.int .i64 ((0 : Nat) : Int), .int .i64 ((0 : Nat) : Int)] →
      W Tryd.prog (sndC (sndC (sndC (sndC (sndC (sndC ac167)))))) (retN rs167 Q) ⟨[], E, (H.upd p1 (some x)).upd p2 (some y)⟩ := by
    intro E x y hE hx hy
    subst hE hx hy
    by_cases e1 : p = iFrom l
    · simp (disch := first | assumption | (apply Ap.symm; assumption) | omega | decide | (simp only [Xd] <;> omega)) only [sndC, ac167, e1, cells_i2, rs167, ↓Xa, Xb, Xc, ↓reduceIte, Nat.reduceLT, Nat.reduceEqDiff, Nat.reduceBEq, Nat.reduceLeDiff, Nat.reduceAdd, Nat.reduceMul]
      rw [← e1]; exact err (.inl e1)
    by_cases e2 : p < l.length
    · simp (disch := first | assumption | (apply Ap.symm; assumption) | omega | decide | (simp only [Xd] <;> omega)) only [sndC, ac167, e1, e2, len_Sx, cells_i2, rs167, ↓Xa, Xb, Xc, ↓reduceIte, Nat.reduceLT, Nat.reduceEqDiff, Nat.reduceBEq, Nat.reduceLeDiff, Nat.reduceAdd, Nat.reduceMul]
      exact err (.inr e2)
    have hpl : p = l.length := by have := hp.2.1; omega
    rw [if_neg (by omega)] at hq
    have hg := isAt_good (hpl ▸ hp) (by omega)
    simp (disch := first | assumption | (apply Ap.symm; assumption) | omega | decide | (simp only [Xd] <;> omega)) only [sndC, ac167, e1, e2, len_Sx, slc_SxL, ↓Xa, Xb, Xc, ↓reduceIte, Nat.reduceLT, Nat.reduceEqDiff, Nat.reduceBEq, Nat.reduceLeDiff, Nat.reduceAdd, Nat.reduceMul]
    refine (read_fn (r := .tup [LS (Ma.digs 4294967296 (decV (l.drop (iFrom l)))) true, spot 0 0]) (.inr (.inr (.inr ⟨by simp; omega, hg, rfl⟩))) (by simp; omega)).call ?_
    simp (disch := first | assumption | (apply Ap.symm; assumption) | omega | decide | (simp only [Xd] <;> omega)) only [spot, ↓Xa, Xb, Xc, ↓reduceIte, Nat.reduceLT, Nat.reduceEqDiff, Nat.reduceBEq, Nat.reduceLeDiff, Nat.reduceAdd, Nat.reduceMul]
    refine alloc_i fun p3 hp3 => ?_
    have n3 := hp3
    simp only [upd_none] at n3
    obtain ⟨_, _, n3⟩ := n3
    simp (disch := first | assumption | (apply Ap.symm; assumption) | omega | decide | (simp only [Xd] <;> omega)) only [cells_i2, ↓Xa, Xb, Xc, ↓reduceIte, Nat.reduceLT, Nat.reduceEqDiff, Nat.reduceBEq, Nat.reduceLeDiff, Nat.reduceAdd, Nat.reduceMul]
    refine (made_fn (decide (iFrom l = 1)) _ ?_).call ?_
    · have hv : decV (l.drop (iFrom l)) < 4294967296 ^ 8192 := Nat.lt_of_lt_of_le (decV_lt fun b hb => (hg.2.1 b hb).2) (ten_bound (by simp; omega))
      have := (Nm.digs hv).len
      omega
    simp (disch := first | assumption | (apply Ap.symm; assumption) | omega | decide | (simp only [Xd] <;> omega)) only [cells_i2, cells_IntA, IntB, IntD, rs167, ↓Xa, Xb, Xc, ↓reduceIte, Nat.reduceLT, Nat.reduceEqDiff, Nat.reduceBEq, Nat.reduceLeDiff, Nat.reduceAdd, Nat.reduceMul]
    exact SetR.dropTo ((((Le.refl H).updB n1).updB n2).updB n3) (SetR.now hq)
  have tail : ∀ {E : Env}, E = [(0, Sx l), (2, .ptr p1 2 0), (3, .ptr p2 2 0), (4, .int .i64 (iFrom l : Int))] →
      W Tryd.prog (sndC (sndC (sndC (sndC ac167)))) (retN rs167 Q) ⟨[], E, (H.upd p1 (some (.row 28 0 [.bool false, .seq 0 [] true]))).upd p2 (some (.row 105 0 [.int .i64 ((0 : Nat) : Int), .int .i64 ((0 : Nat) : Int)]))⟩ := by
    intro E hE
    subst hE
    simp (disch := first | assumption | (apply Ap.symm; assumption) | omega | decide | (simp only [Xd] <;> omega)) only [sndC, ac167, ↓Xa, Xb, Xc, ↓reduceIte, Nat.reduceLT, Nat.reduceEqDiff, Nat.reduceBEq, Nat.reduceLeDiff, Nat.reduceAdd, Nat.reduceMul]
    refine W_loop (fun i : Nat => ⟨[], [(0, Sx l), (2, .ptr p1 2 0), (3, .ptr p2 2 0), (4, .int .i64 (i : Int)), (5, .int .i64 (iFrom l : Int))], (H.upd p1 (some (.row 28 0 [.bool false, .seq 0 [] true]))).upd p2 (some (.row 105 0 [.int .i64 ((0 : Nat) : Int), .int .i64 ((0 : Nat) : Int)]))⟩) (fun i => iFrom l ≤ i ∧ i ≤ l.length ∧ ∀ j, iFrom l ≤ j → j < i → ¬ iBad l j) (fun i => l.length - i) (iFrom l) (Settle.now rfl) ⟨Nat.le_refl _, hf1, fun j h1 h2 => by omega⟩ ?_
    rintro i ⟨hi1, hi2, hi3⟩
    have stop : iBad l i → i = p := fun hb => isAt_fn ⟨hi1, hi2, hb, hi3⟩ hp
    have step : ¬ iBad l i → ∀ j, iFrom l ≤ j → j < i + 1 → ¬ iBad l j := fun hb j h1 hj => by
      by_cases e : j = i
      · rw [e]; exact hb
      · exact hi3 j h1 (by omega)
    by_cases hi : i < l.length
    · by_cases c1 : 48 ≤ (l.getD i 0).toNat
      rotate_left
      · obtain rfl := stop (.inl (by omega))
        simp (disch := first | assumption | (apply Ap.symm; assumption) | omega | decide | (simp only [Xd] <;> omega)) only [hi, len_Sx, idx_Sx, c1, ↓Xa, Xb, Xc, ↓reduceIte, Nat.reduceLT, Nat.reduceEqDiff, Nat.reduceBEq, Nat.reduceLeDiff, Nat.reduceAdd, Nat.reduceMul]
        refine Settle.keep [0, 2, 3, 4, 5] ?_
        exact rest (by rfl) rfl rfl
      by_cases c2 : (l.getD i 0).toNat ≤ 57
      rotate_left
      · obtain rfl := stop (.inr (.inl (by omega)))
        simp (disch := first | assumption | (apply Ap.symm; assumption) | omega | decide | (simp only [Xd] <;> omega)) only [hi, len_Sx, idx_Sx, c1, c2, ↓Xa, Xb, Xc, ↓reduceIte, Nat.reduceLT, Nat.reduceEqDiff, Nat.reduceBEq, Nat.reduceLeDiff, Nat.reduceAdd, Nat.reduceMul]
        refine Settle.keep [0, 2, 3, 4, 5] ?_
        exact rest (by rfl) rfl rfl
      by_cases c3 : i = iFrom l + 1
      · have hfl : iFrom l < l.length := by omega
        subst c3
        by_cases c4 : (l.getD (iFrom l) 0).toNat = 48
        · have hip := stop (.inr (.inr (.inl ⟨rfl, c4⟩)))
          have rr := @rest
          rw [← hip] at rr
          simp (disch := first | assumption | (apply Ap.symm; assumption) | omega | decide | (simp only [Xd] <;> omega)) only [hi, len_Sx, idx_Sx, c1, c2, c4, ↓Xa, Xb, Xc, ↓reduceIte, Nat.reduceLT, Nat.reduceEqDiff, Nat.reduceBEq, Nat.reduceLeDiff, Nat.reduceAdd, Nat.reduceMul]
          refine Settle.keep [0, 2, 3, 4, 5] ?_
          exact rr (by rfl) rfl rfl
        · have c5 : ¬ iFrom l + 1 = iFrom l := by omega
          have nb := step (show ¬ iBad l (iFrom l + 1) by unfold iBad; omega)
          simp (disch := first | assumption | (apply Ap.symm; assumption) | omega | decide | (simp only [Xd] <;> omega)) only [hi, len_Sx, idx_Sx, c1, c2, c4, c5, ↓Xa, Xb, Xc, ↓reduceIte, Nat.reduceLT, Nat.reduceEqDiff, Nat.reduceBEq, Nat.reduceLeDiff, Nat.reduceAdd, Nat.reduceMul]
          exact Settle.now ⟨iFrom l + 1 + 1, by omega, ⟨by omega, by omega, nb⟩, rfl⟩
      by_cases c5 : i = iFrom l
      · subst c5
        by_cases c6 : iFrom l = 1
        · by_cases c7 : (l.getD (iFrom l) 0).toNat = 48
          · have hip := stop (.inr (.inr (.inr ⟨rfl, c6, c7⟩)))
            have rr := @rest
            rw [← hip] at rr
            rw [c6] at rr hi c1 c2 c3 c7 ⊢
            simp (disch := first | assumption | (apply Ap.symm; assumption) | omega | decide | (simp only [Xd] <;> omega)) only [hi, len_Sx, idx_Sx, c1, c2, c3, c7, ↓Xa, Xb, Xc, ↓reduceIte, Nat.reduceLT, Nat.reduceEqDiff, Nat.reduceBEq, Nat.reduceLeDiff, Nat.reduceAdd, Nat.reduceMul]
            refine Settle.keep [0, 2, 3, 4, 5] ?_
            exact rr (by rfl) rfl rfl
          · have nb := step (show ¬ iBad l (iFrom l) by unfold iBad; omega)
            rw [c6] at hi c1 c2 c3 c7 nb ⊢
            simp (disch := first | assumption | (apply Ap.symm; assumption) | omega | decide | (simp only [Xd] <;> omega)) only [hi, len_Sx, idx_Sx, c1, c2, c3, c7, ↓Xa, Xb, Xc, ↓reduceIte, Nat.reduceLT, Nat.reduceEqDiff, Nat.reduceBEq, Nat.reduceLeDiff, Nat.reduceAdd, Nat.reduceMul]
            exact Settle.now ⟨1 + 1, by omega, ⟨by omega, by omega, nb⟩, rfl⟩
        · have nb := step (show ¬ iBad l (iFrom l) by unfold iBad; omega)
          simp (disch := first | assumption | (apply Ap.symm; assumption) | omega | decide | (simp only [Xd] <;> omega)) only [hi, len_Sx, idx_Sx, c1, c2, c3, c6, ↓Xa, Xb, Xc, ↓reduceIte, Nat.reduceLT, Nat.reduceEqDiff, Nat.reduceBEq, Nat.reduceLeDiff, Nat.reduceAdd, Nat.reduceMul]
          exact Settle.now ⟨iFrom l + 1, by omega, ⟨by omega, by omega, nb⟩, rfl⟩
      · have nb := step (show ¬ iBad l i by unfold iBad; omega)
        simp (disch := first | assumption | (apply Ap.symm; assumption) | omega | decide | (simp only [Xd] <;> omega)) only [hi, len_Sx, idx_Sx, c1, c2, c3, c5, ↓Xa, Xb, Xc, ↓reduceIte, Nat.reduceLT, Nat.reduceEqDiff, Nat.reduceBEq, Nat.reduceLeDiff, Nat.reduceAdd, Nat.reduceMul]
        exact Settle.now ⟨i + 1, by omega, ⟨by omega, by omega, nb⟩, rfl⟩
    · obtain rfl := stop (.inl (by rw [get_beyond (by omega)]; decide))
      simp (disch := first | assumption | (apply Ap.symm; assumption) | omega | decide | (simp only [Xd] <;> omega)) only [hi, len_Sx, ↓Xa, Xb, Xc, ↓reduceIte, Nat.reduceLT, Nat.reduceEqDiff, Nat.reduceBEq, Nat.reduceLeDiff, Nat.reduceAdd, Nat.reduceMul]
      refine Settle.keep [0, 2, 3, 4, 5] ?_
      exact rest (by rfl) rfl rfl
  have tl := @tail _ rfl
  by_cases h0 : l = []
  · have hf0 : iFrom l = 0 := by rw [h0]; rfl
    rw [hf0] at tl
    simp (disch := first | assumption | (apply Ap.symm; assumption) | omega | decide | (simp only [Xd] <;> omega)) only [sndC, ac167, ↓Xa, Xb, Xc, ↓reduceIte, Nat.reduceLT, Nat.reduceEqDiff, Nat.reduceBEq, Nat.reduceLeDiff, Nat.reduceAdd, Nat.reduceMul] at tl
    simp (disch := first | assumption | (apply Ap.symm; assumption) | omega | decide | (simp only [Xd] <;> omega)) only [len_Sx, h1, str_Sx, neq_Sx, h0, ↓Xa, Xb, Xc, ↓reduceIte, Nat.reduceLT, Nat.reduceEqDiff, Nat.reduceBEq, Nat.reduceLeDiff, Nat.reduceAdd, Nat.reduceMul]
    rw [h0] at tl
    exact tl
  have hpos : 0 < l.length := List.length_pos_iff.2 h0
  by_cases h2 : (l.getD 0 0).toNat = 45
  · have hf0 : iFrom l = 1 := by unfold iFrom; rw [if_pos h2]
    rw [hf0] at tl
    simp (disch := first | assumption | (apply Ap.symm; assumption) | omega | decide | (simp only [Xd] <;> omega)) only [sndC, ac167, ↓Xa, Xb, Xc, ↓reduceIte, Nat.reduceLT, Nat.reduceEqDiff, Nat.reduceBEq, Nat.reduceLeDiff, Nat.reduceAdd, Nat.reduceMul] at tl
    simp (disch := first | assumption | (apply Ap.symm; assumption) | omega | decide | (simp only [Xd] <;> omega)) only [len_Sx, h1, str_Sx, neq_Sx, h0, idx_Sx, h2, ↓Xa, Xb, Xc, ↓reduceIte, Nat.reduceLT, Nat.reduceEqDiff, Nat.reduceBEq, Nat.reduceLeDiff, Nat.reduceAdd, Nat.reduceMul]
    exact tl
  · have hf0 : iFrom l = 0 := by unfold iFrom; rw [if_neg h2]
    rw [hf0] at tl
    simp (disch := first | assumption | (apply Ap.symm; assumption) | omega | decide | (simp only [Xd] <;> omega)) only [sndC, ac167, ↓Xa, Xb, Xc, ↓reduceIte, Nat.reduceLT, Nat.reduceEqDiff, Nat.reduceBEq, Nat.reduceLeDiff, Nat.reduceAdd, Nat.reduceMul] at tl
    simp (disch := first | assumption | (apply Ap.symm; assumption) | omega | decide | (simp only [Xd] <;> omega)) only [len_Sx, h1, str_Sx, neq_Sx, h0, idx_Sx, h2, ↓Xa, Xb, Xc, ↓reduceIte, Nat.reduceLT, Nat.reduceEqDiff, Nat.reduceBEq, Nat.reduceLeDiff, Nat.reduceAdd, Nat.reduceMul]
    exact tl
end Go.Proofs.YtanchgkiomfhhaaDoor.Fw

/- A whole number's text, as the reference of layer 2 reads it. -/
namespace Go.Proofs.YtanchgkiomfhhaaDoor.Fw
set_option linter.unusedSimpArgs false
set_option linter.unusedVariables false
open Go Go.Proofs.YtanchgkiomfhhaaDoor.Ma
set_option maxRecDepth 20000

def rReadA (l : List UInt8) (p : Nat) : AV := if p = iFrom l ∨ p < l.length then .tup [RefA 0 true, .int .i64 (p : Int)] else .tup [RefA (iVal l) false, .int .i64 (-1)]
end Go.Proofs.YtanchgkiomfhhaaDoor.Fw

/- Fractions: what the laws' own helpers answer. -/
namespace Go.Proofs.YtanchgkiomfhhaaDoor.Fw
set_option linter.unusedSimpArgs false
set_option linter.unusedVariables false
open Go Go.Proofs.YtanchgkiomfhhaaDoor.Ma
set_option maxRecDepth 20000

def qText (q : QQ) : List UInt8 := iText q.num ++ (if q.den = 1 then [] else 47 :: iText (q.den : Int))
theorem iText_len {x : Int} {k : Nat} (h : Bd k x) : (iText x).length ≤ 10 * k + 2 := by
  have := decT_bd h
  unfold iText; split <;> simp <;> omega
theorem rtextq_fn {q : QQ} {k : Nat} (hb : RB k q) (hk : k ≤ 1000000) : PFn Tryd.prog 128 [RatA q] (Sx (qText q)) := by
  intro H Q hq
  have l1 := iText_len hb.1
  have l2 := iText_len hb.2
  refine enter128 (by simp) ?_
  simp (disch := first | assumption | (apply Ap.symm; assumption) | omega | decide | (simp only [Xd] <;> omega)) only [ac128, cells_RatA, ↓Xa, Xb, Xc, ↓reduceIte, Nat.reduceLT, Nat.reduceEqDiff, Nat.reduceBEq, Nat.reduceLeDiff, Nat.reduceAdd, Nat.reduceMul]
  refine alloc_i fun p1 hp1 => ?_
  have n1 := hp1
  simp (disch := first | assumption | (apply Ap.symm; assumption) | omega | decide | (simp only [Xd] <;> omega)) only [fold_IntA, ↓Xa, Xb, Xc, ↓reduceIte, Nat.reduceLT, Nat.reduceEqDiff, Nat.reduceBEq, Nat.reduceLeDiff, Nat.reduceAdd, Nat.reduceMul]
  refine (itext_fn hb.1 hk).call ?_
  simp (disch := first | assumption | (apply Ap.symm; assumption) | omega | decide | (simp only [Xd] <;> omega)) only [fold_Raw, fold_RatA, ↓Xa, Xb, Xc, ↓reduceIte, Nat.reduceLT, Nat.reduceEqDiff, Nat.reduceBEq, Nat.reduceLeDiff, Nat.reduceAdd, Nat.reduceMul]
  refine (rwhole_fn hb hk).call ?_
  by_cases h : q.den = 1
  · rw [qText, if_pos h, List.append_nil] at hq
    simp (disch := first | assumption | (apply Ap.symm; assumption) | omega | decide | (simp only [Xd] <;> omega)) only [decide_eq_true h, rs128, ↓Xa, Xb, Xc, ↓reduceIte, Nat.reduceLT, Nat.reduceEqDiff, Nat.reduceBEq, Nat.reduceLeDiff, Nat.reduceAdd, Nat.reduceMul]
    exact SetR.dropTo ((Le.refl H).updB n1) (SetR.now hq)
  · rw [qText, if_neg h] at hq
    simp (disch := first | assumption | (apply Ap.symm; assumption) | omega | decide | (simp only [Xd] <;> omega)) only [decide_eq_false h, fold_Raw, fold_RatA, ↓Xa, Xb, Xc, ↓reduceIte, Nat.reduceLT, Nat.reduceEqDiff, Nat.reduceBEq, Nat.reduceLeDiff, Nat.reduceAdd, Nat.reduceMul]
    refine (rden_fn hb hk).call ?_
    simp (disch := first | assumption | (apply Ap.symm; assumption) | omega | decide | (simp only [Xd] <;> omega)) only [↓Xa, Xb, Xc, ↓reduceIte, Nat.reduceLT, Nat.reduceEqDiff, Nat.reduceBEq, Nat.reduceLeDiff, Nat.reduceAdd, Nat.reduceMul]
    refine (itext_fn hb.2 hk).call ?_
    have s1 : AV.str ⟨#[47]⟩ = Sx [47] := rfl
    have e1 : ∀ K, binW .add (Sx [47]) (Sx (iText (q.den : Int))) K = K (Sx (47 :: iText (q.den : Int))) := fun K => add_Sx (by simp; omega)
    have e2 : ∀ K, binW .add (Sx (iText q.num)) (Sx (47 :: iText (q.den : Int))) K = K (Sx (iText q.num ++ 47 :: iText (q.den : Int))) := fun K => add_Sx (by simp; omega)
    simp (disch := first | assumption | (apply Ap.symm; assumption) | omega | decide | (simp only [Xd] <;> omega)) only [s1, e1, e2, rs128, ↓Xa, Xb, Xc, ↓reduceIte, Nat.reduceLT, Nat.reduceEqDiff, Nat.reduceBEq, Nat.reduceLeDiff, Nat.reduceAdd, Nat.reduceMul]
    exact SetR.dropTo ((Le.refl H).updB n1) (SetR.now hq)

def FracA (q : List UInt8 × List UInt8) : AV := .agg [Sx q.1, Sx q.2]
def FracC (l : List (List UInt8 × List UInt8)) : List AV := l.flatMap fun q => [Sx q.1, Sx q.2]
def lngF (q : List UInt8 × List UInt8) : Bool := decide (300 < q.1.length) || decide (300 < q.2.length)
end Go.Proofs.YtanchgkiomfhhaaDoor.Fw

/- Fractions: the helpers that read and try. -/
namespace Go.Proofs.YtanchgkiomfhhaaDoor.Fw
set_option linter.unusedSimpArgs false
set_option linter.unusedVariables false
open Go Go.Proofs.YtanchgkiomfhhaaDoor.Ma
set_option maxRecDepth 20000

def wk1 : QQ := mkRat (-3) 2
def wk2 : QQ := mkRat (-1) 2
def wk3 : QQ := mkRat (-2) 1
theorem wk1_eq : _root_.Rat.divInt ((6 : Nat) : Int) (-4) = wk1 := by decide +kernel
theorem wk2_eq : wk1 / ((((3 : Nat) : Int)) : QQ) = wk2 := by decide +kernel
theorem wk3_eq : wk2 + wk1 = wk3 := by decide +kernel
theorem wk_q0 : ¬ ((((3 : Nat) : Int) : QQ) = 0) := by decide +kernel
theorem wk1_b : RB 1 wk1 := by unfold RB Bd; decide +kernel
theorem wk2_b : RB 1 wk2 := by unfold RB Bd; decide +kernel
theorem wk3_b : RB 1 wk3 := by unfold RB Bd; decide +kernel
theorem wk1_t : qText wk1 = [45, 51, 47, 50] := by
  have e1 : wk1.num = -3 := by decide +kernel
  have e2 : wk1.den = 2 := by decide +kernel
  rw [qText, e1, e2]; simp [iText, decT, dec, digs, chr]
theorem wk2_t : qText wk2 = [45, 49, 47, 50] := by
  have e1 : wk2.num = -1 := by decide +kernel
  have e2 : wk2.den = 2 := by decide +kernel
  rw [qText, e1, e2]; simp [iText, decT, dec, digs, chr]
theorem wk3_d : wk3.den = 1 := by decide +kernel
theorem wk3_t : qText wk3 = [45, 50] := by
  have e1 : wk3.num = -2 := by decide +kernel
  rw [qText, e1, wk3_d]; simp [iText, decT, dec, digs, chr]
theorem wk3_dt : iText (wk3.den : Int) = [49] := by rw [wk3_d]; simp [iText, decT, dec, digs, chr]
theorem wk1_f : iText (wk1.num / (wk1.den : Int)) = [45, 50] := by
  have e1 : wk1.num / (wk1.den : Int) = -2 := by decide +kernel
  rw [e1]; simp [iText, decT, dec, digs, chr]
theorem works_q : PFn Tryd.prog 94 [] (.bool true) := by
  intro H Q hq
  have s1 : AV.str ⟨#[45, 51, 47, 50]⟩ = Sx [45, 51, 47, 50] := rfl
  have s2 : AV.str ⟨#[45, 49, 47, 50]⟩ = Sx [45, 49, 47, 50] := rfl
  have s3 : AV.str ⟨#[45, 50]⟩ = Sx [45, 50] := rfl
  have s4 : AV.str ⟨#[49]⟩ = Sx [49] := rfl
  refine enter94 (by simp) ?_
  simp (disch := first | assumption | (apply Ap.symm; assumption) | omega | decide | (simp only [Xd] <;> omega)) only [ac94, ↓Xa, Xb, Xc, ↓reduceIte, Nat.reduceLT, Nat.reduceEqDiff, Nat.reduceBEq, Nat.reduceLeDiff, Nat.reduceAdd, Nat.reduceMul]
  refine (of_fn (n := ((6 : Nat) : Int)) (by omega)).call ?_
  simp (disch := first | assumption | (apply Ap.symm; assumption) | omega | decide | (simp only [Xd] <;> omega)) only [↓Xa, Xb, Xc, ↓reduceIte, Nat.reduceLT, Nat.reduceEqDiff, Nat.reduceBEq, Nat.reduceLeDiff, Nat.reduceAdd, Nat.reduceMul]
  refine (of_fn (n := -4) (by omega)).call ?_
  simp (disch := first | assumption | (apply Ap.symm; assumption) | omega | decide | (simp only [Xd] <;> omega)) only [↓Xa, Xb, Xc, ↓reduceIte, Nat.reduceLT, Nat.reduceEqDiff, Nat.reduceBEq, Nat.reduceLeDiff, Nat.reduceAdd, Nat.reduceMul]
  refine (rmk_fn (k := 2) (Bd.i64 (n := ((6 : Nat) : Int)) (by omega)) (Bd.i64 (n := -4) (by omega)) (by omega)).call ?_
  rw [wk1_eq, if_neg (show ¬ ((-4 : Int) = 0) by decide)]
  simp (disch := first | assumption | (apply Ap.symm; assumption) | omega | decide | (simp only [Xd] <;> omega)) only [RatE, ↓Xa, Xb, Xc, ↓reduceIte, Nat.reduceLT, Nat.reduceEqDiff, Nat.reduceBEq, Nat.reduceLeDiff, Nat.reduceAdd, Nat.reduceMul]
  refine alloc_i fun p1 hp1 => ?_
  have n1 := hp1
  simp (disch := first | assumption | (apply Ap.symm; assumption) | omega | decide | (simp only [Xd] <;> omega)) only [cells_RatA, fold_Raw, fold_RatA, ↓Xa, Xb, Xc, ↓reduceIte, Nat.reduceLT, Nat.reduceEqDiff, Nat.reduceBEq, Nat.reduceLeDiff, Nat.reduceAdd, Nat.reduceMul]
  refine PFn.dcall (of_fn (n := ((3 : Nat) : Int)) (by omega)) ?_
  simp (disch := first | assumption | (apply Ap.symm; assumption) | omega | decide | (simp only [Xd] <;> omega)) only [↓Xa, Xb, Xc, ↓reduceIte, Nat.reduceLT, Nat.reduceEqDiff, Nat.reduceBEq, Nat.reduceLeDiff, Nat.reduceAdd, Nat.reduceMul]
  refine PFn.dcall rwh_fn ?_
  simp (disch := first | assumption | (apply Ap.symm; assumption) | omega | decide | (simp only [Xd] <;> omega)) only [↓Xa, Xb, Xc, ↓reduceIte, Nat.reduceLT, Nat.reduceEqDiff, Nat.reduceBEq, Nat.reduceLeDiff, Nat.reduceAdd, Nat.reduceMul]
  refine PFn.dcall (rover_q wk1_b (RB.int (k := 1) (Bd.i64 (n := ((3 : Nat) : Int)) (by omega))) (by omega)) ?_
  rw [wk2_eq, if_neg wk_q0]
  simp (disch := first | assumption | (apply Ap.symm; assumption) | omega | decide | (simp only [Xd] <;> omega)) only [RatE, ↓Xa, Xb, Xc, ↓reduceIte, Nat.reduceLT, Nat.reduceEqDiff, Nat.reduceBEq, Nat.reduceLeDiff, Nat.reduceAdd, Nat.reduceMul]
  refine dalloc_i fun p2 hp2 => ?_
  have n2 := hp2
  simp only [upd_none] at n2
  obtain ⟨_, n2⟩ := n2
  simp (disch := first | assumption | (apply Ap.symm; assumption) | omega | decide | (simp only [Xd] <;> omega)) only [cells_RatA, fold_Raw, fold_RatA, ↓Xa, Xb, Xc, ↓reduceIte, Nat.reduceLT, Nat.reduceEqDiff, Nat.reduceBEq, Nat.reduceLeDiff, Nat.reduceAdd, Nat.reduceMul]
  refine (radd_fn wk2_b wk1_b (by omega)).call ?_
  rw [wk3_eq]
  simp (disch := first | assumption | (apply Ap.symm; assumption) | omega | decide | (simp only [Xd] <;> omega)) only [↓Xa, Xb, Xc, ↓reduceIte, Nat.reduceLT, Nat.reduceEqDiff, Nat.reduceBEq, Nat.reduceLeDiff, Nat.reduceAdd, Nat.reduceMul]
  refine alloc_i fun p3 hp3 => ?_
  have n3 := hp3
  simp only [upd_none] at n3
  obtain ⟨_, _, n3⟩ := n3
  simp (disch := first | assumption | (apply Ap.symm; assumption) | omega | decide | (simp only [Xd] <;> omega)) only [cells_RatA, fold_Raw, fold_RatA, ↓Xa, Xb, Xc, ↓reduceIte, Nat.reduceLT, Nat.reduceEqDiff, Nat.reduceBEq, Nat.reduceLeDiff, Nat.reduceAdd, Nat.reduceMul]
  refine (rtextq_fn wk1_b (by omega)).call ?_
  simp (disch := first | assumption | (apply Ap.symm; assumption) | omega | decide | (simp only [Xd] <;> omega)) only [wk1_t, s1, eql_Sx, fold_Raw, fold_RatA, ↓Xa, Xb, Xc, ↓reduceIte, Nat.reduceLT, Nat.reduceEqDiff, Nat.reduceBEq, Nat.reduceLeDiff, Nat.reduceAdd, Nat.reduceMul]
  refine (rtextq_fn wk2_b (by omega)).call ?_
  simp (disch := first | assumption | (apply Ap.symm; assumption) | omega | decide | (simp only [Xd] <;> omega)) only [wk2_t, s2, eql_Sx, fold_Raw, fold_RatA, ↓Xa, Xb, Xc, ↓reduceIte, Nat.reduceLT, Nat.reduceEqDiff, Nat.reduceBEq, Nat.reduceLeDiff, Nat.reduceAdd, Nat.reduceMul]
  refine (rtextq_fn wk3_b (by omega)).call ?_
  simp (disch := first | assumption | (apply Ap.symm; assumption) | omega | decide | (simp only [Xd] <;> omega)) only [wk3_t, s3, eql_Sx, fold_Raw, fold_RatA, ↓Xa, Xb, Xc, ↓reduceIte, Nat.reduceLT, Nat.reduceEqDiff, Nat.reduceBEq, Nat.reduceLeDiff, Nat.reduceAdd, Nat.reduceMul]
  refine (rwhole_fn wk3_b (by omega)).call ?_
  simp (disch := first | assumption | (apply Ap.symm; assumption) | omega | decide | (simp only [Xd] <;> omega)) only [decide_eq_true wk3_d, fold_Raw, fold_RatA, ↓Xa, Xb, Xc, ↓reduceIte, Nat.reduceLT, Nat.reduceEqDiff, Nat.reduceBEq, Nat.reduceLeDiff, Nat.reduceAdd, Nat.reduceMul]
  refine (rden_fn wk3_b (by omega)).call ?_
  simp (disch := first | assumption | (apply Ap.symm; assumption) | omega | decide | (simp only [Xd] <;> omega)) only [↓Xa, Xb, Xc, ↓reduceIte, Nat.reduceLT, Nat.reduceEqDiff, Nat.reduceBEq, Nat.reduceLeDiff, Nat.reduceAdd, Nat.reduceMul]
  refine (itext_fn wk3_b.2 (by omega)).call ?_
  simp (disch := first | assumption | (apply Ap.symm; assumption) | omega | decide | (simp only [Xd] <;> omega)) only [wk3_dt, s4, eql_Sx, fold_Raw, fold_RatA, ↓Xa, Xb, Xc, ↓reduceIte, Nat.reduceLT, Nat.reduceEqDiff, Nat.reduceBEq, Nat.reduceLeDiff, Nat.reduceAdd, Nat.reduceMul]
  refine (rfloor_fn wk1_b (by omega)).call ?_
  simp (disch := first | assumption | (apply Ap.symm; assumption) | omega | decide | (simp only [Xd] <;> omega)) only [↓Xa, Xb, Xc, ↓reduceIte, Nat.reduceLT, Nat.reduceEqDiff, Nat.reduceBEq, Nat.reduceLeDiff, Nat.reduceAdd, Nat.reduceMul]
  refine (itext_fn (wk1_b.1.ediv) (by omega)).call ?_
  simp (disch := first | assumption | (apply Ap.symm; assumption) | omega | decide | (simp only [Xd] <;> omega)) only [wk1_f, s3, eql_Sx, rs94, ↓Xa, Xb, Xc, ↓reduceIte, Nat.reduceLT, Nat.reduceEqDiff, Nat.reduceBEq, Nat.reduceLeDiff, Nat.reduceAdd, Nat.reduceMul]
  exact SetR.dropTo ((((Le.refl H).updB n1).updB n2).updB n3) (SetR.now hq)

end Go.Proofs.YtanchgkiomfhhaaDoor.Fw

/- A whole number's text, as the reference of layer 2 tells it. -/
namespace Go.Proofs.YtanchgkiomfhhaaDoor.Fw
set_option linter.unusedSimpArgs false
set_option linter.unusedVariables false
open Go Go.Proofs.YtanchgkiomfhhaaDoor.Ma
set_option maxRecDepth 20000

def revI (i : Nat) (l : List UInt8) : List UInt8 := (List.range l.length).map fun j => if j < i ∨ l.length - i ≤ j then l.getD (l.length - 1 - j) 0 else l.getD j 0
end Go.Proofs.YtanchgkiomfhhaaDoor.Fw

/- A number's text is read as it; what is read has its text. -/
namespace Go.Proofs.YtanchgkiomfhhaaDoor.Fw
set_option linter.unusedSimpArgs false
set_option linter.unusedVariables false
open Go Go.Proofs.YtanchgkiomfhhaaDoor.Ma
set_option maxRecDepth 20000

theorem isAt_of_good {m : List UInt8} (neg : Bool) (hg : Good m) (h0 : neg = true → (m.getD 0 0).toNat ≠ 48) :
    iFrom ((if neg then [45] else []) ++ m) = (if neg then 1 else 0) ∧ IsAt ((if neg then [45] else []) ++ m) ((if neg then [45] else []) ++ m).length ∧ ((if neg then [45] else []) ++ m).drop (iFrom ((if neg then [45] else []) ++ m)) = m := by
  obtain ⟨g1, g2, g3⟩ := hg
  have hpos : 0 < m.length := List.length_pos_iff.2 g1
  have dig : ∀ i, i < m.length → 48 ≤ (m.getD i 0).toNat ∧ (m.getD i 0).toNat ≤ 57 := fun i hi => by
    have := g2 _ (List.getElem_mem hi)
    rw [List.getD_eq_getElem?_getD, List.getElem?_eq_getElem hi, Option.getD_some]; exact this
  have hf : iFrom ((if neg then [45] else []) ++ m) = (if neg then 1 else 0) := by
    cases neg with
    | true => simp [iFrom]
    | false =>
      have := dig 0 hpos
      simp only [iFrom, Bool.false_eq_true, if_false, List.nil_append]
      rw [if_neg (by omega)]
  refine ⟨hf, ⟨(iFrom_le _).1, Nat.le_refl _, iBad_end _, fun j h1 h2 hb => ?_⟩, ?_⟩
  · rw [hf] at h1
    unfold iBad at hb
    rw [hf] at hb
    cases neg with
    | true =>
      simp only [if_true, List.length_append, List.length_cons, List.length_nil] at h1 h2 hb
      obtain ⟨i, rfl⟩ : ∃ i, j = i + 1 := ⟨j - 1, by omega⟩
      have e : ([45] ++ m).getD (i + 1) 0 = m.getD i 0 := by simp [List.getD_eq_getElem?_getD]
      have e1 : ([45] ++ m).getD 1 0 = m.getD 0 0 := by simp [List.getD_eq_getElem?_getD]
      have d := dig i (by omega)
      have := h0 rfl
      rw [e, e1] at hb
      rcases hb with hb | hb | ⟨hb, _⟩ | ⟨hb, _, hb2⟩
      · omega
      · omega
      · omega
      · have : i = 0 := by omega
        subst this; omega
    | false =>
      simp only [Bool.false_eq_true, if_false, List.nil_append] at h1 h2 hb
      have d := dig j h2
      rcases hb with hb | hb | ⟨hb, hb2⟩ | ⟨_, hb, _⟩
      · omega
      · omega
      · rcases g3 with g3 | g3
        · omega
        · exact g3 hb2
      · omega
  · rw [hf]; cases neg <;> simp
theorem iText_at (x : Int) : IsAt (iText x) (iText x).length ∧ (iText x).length ≠ iFrom (iText x) ∧ iVal (iText x) = x := by
  have hg := good_decT x.natAbs
  have hpos : 0 < (decT x.natAbs).length := List.length_pos_iff.2 hg.1
  have h0 : decide (x < 0) = true → ((decT x.natAbs).getD 0 0).toNat ≠ 48 := fun h hz => by
    have h := of_decide_eq_true h
    rcases hg.2.2 with g | g
    · have hd : decT x.natAbs = [48] := by
        match hm : decT x.natAbs, g with
        | [b], _ =>
          rw [hm] at hz
          have hz2 : b.toNat = 48 := by simpa using hz
          have : b = 48 := UInt8.toNat_inj.1 hz2
          rw [this]
      have := decV_decT x.natAbs
      rw [hd] at this
      have e : decV [48] = 0 := rfl
      omega
    · exact g hz
  obtain ⟨a, b, c⟩ := isAt_of_good (decide (x < 0)) hg h0
  have e : (if decide (x < 0) then [45] else []) ++ decT x.natAbs = iText x := by simp [iText]
  rw [e] at a b c
  refine ⟨b, ?_, ?_⟩
  · intro k
    have := congrArg List.length c
    rw [List.length_drop, ← k] at this
    omega
  · unfold iVal
    rw [c, decV_decT, a]
    by_cases h : x < 0 <;> simp [h, sg] <;> omega
end Go.Proofs.YtanchgkiomfhhaaDoor.Fw

/- Rows that grow, two at once, or beside memory that turns. -/
namespace Go.Proofs.YtanchgkiomfhhaaDoor.Fw
set_option linter.unusedSimpArgs false
set_option linter.unusedVariables false
open Go Go.Proofs.YtanchgkiomfhhaaDoor.Ma
set_option maxRecDepth 20000

theorem growC_move {H0 H M : AHeap} {ty es n : Nat} {cells : List AV} {y : AV} (h : growC H0 ty es n cells y H) (hm : ∀ b, H0 b = none → H b ≠ none → M b = H b) : ∃ H1, growC H1 ty es n cells y M ∧ ∀ H2, Le H2 M → (∀ b, H0 b = none → H2 b = none) → Le H2 H1 := by
  rcases h with ⟨rfl, rfl, rfl, rfl⟩ | ⟨hn, hl, b, hb, rfl, rfl⟩
  · exact ⟨M, growC_nil, fun _ h _ => h⟩
  · have e := hm b hb (by rw [upd_same]; simp)
    rw [upd_same] at e
    refine ⟨M.upd b none, .inr ⟨hn, hl, b, upd_same _ _ _, rfl, by rw [upd_upd, upd_back _ e]⟩, fun H2 h h3 i x hi => ?_⟩
    have hib : i ≠ b := by rintro rfl; rw [h3 _ hb] at hi; cases hi
    rw [upd_other _ _ hib]; exact h i x hi
theorem growC_le2 {H1 H2 M : AHeap} {ty es n : Nat} {cells : List AV} {y : AV} (h : growC H1 ty es n cells y M) (hl : Le H2 H1) : ∃ M2, growC H2 ty es n cells y M2 ∧ Le M2 M := by
  rcases h with ⟨rfl, rfl, rfl, rfl⟩ | ⟨hn, hlen, b, hb, rfl, rfl⟩
  · exact ⟨H2, growC_nil, hl⟩
  · have hb2 : H2 b = none := by
      cases e : H2 b with
      | none => rfl
      | some x => have := hl b x e; rw [hb] at this; cases this
    refine ⟨_, .inr ⟨hn, hlen, b, hb2, rfl, rfl⟩, fun i x hi => ?_⟩
    by_cases e : i = b
    · subst e; rw [upd_same] at hi ⊢; exact hi
    · rw [upd_other _ _ e] at hi ⊢; exact hl i x hi
theorem growC_none {H0 H : AHeap} {ty es n : Nat} {cells : List AV} {y : AV} (h : growC H0 ty es n cells y H) {b : Nat} (hb : H b = none) : H0 b = none := by
  cases e : H0 b with
  | none => rfl
  | some x => rw [growC_le h b x e] at hb; cases hb
theorem growC_upd {H0 H : AHeap} {ty es n : Nat} {cells : List AV} {y : AV} (h : growC H0 ty es n cells y H) {q : Nat} {r : ABlk} (hq : H q = none) : growC (H0.upd q (some r)) ty es n cells y (H.upd q (some r)) := by
  rcases h with ⟨rfl, rfl, rfl, rfl⟩ | ⟨hn, hlen, b, hb, rfl, rfl⟩
  · exact growC_nil
  · obtain ⟨e, e2⟩ := upd_none.1 hq
    refine .inr ⟨hn, hlen, b, upd_none.2 ⟨Ne.symm e, hb⟩, rfl, upd_comm _ _ _ (Ne.symm e)⟩
end Go.Proofs.YtanchgkiomfhhaaDoor.Fw

/- Rows lent: what only reads may be handed rows that are one's own. -/
namespace Go.Proofs.YtanchgkiomfhhaaDoor.Fw
set_option linter.unusedSimpArgs false
set_option linter.unusedVariables false
open Go Go.Proofs.YtanchgkiomfhhaaDoor.Ma
set_option maxRecDepth 20000

def scal : AV → Bool
  | .int _ _ => true
  | .bool _ => true
  | .str _ => true
  | _ => false
theorem le_nil {H : AHeap} : Le nilH H := fun _ _ h => by cases h
def Lent (H : AHeap) (x y : AV) : Prop := ∀ (c : Ctx), c.H = H → Ok c → ∀ v, Enc c x v → Enc (c.dropTo nilH) y v
theorem Lent.same {H : AHeap} {x : AV} : Lent H x x := fun c _ _ _ h => h.later (c.dropTo_later le_nil)
theorem Lent.own {H : AHeap} {b ty es n : Nat} {t : Bool} {cells : List AV} (hH : H b = some (.row ty es cells)) (hL : cells.length = n * es) : Lent H (.own b (n * es) 0 n t) (.seq n cells t) := by
  intro c hc hok v he
  have h1 := Enc.freeze hok he (hc ▸ hH) hL (.inr (by omega))
  rw [List.drop_zero, List.take_of_length_le (by omega)] at h1
  exact h1.later ((c.drop b).dropTo_later le_nil)
theorem Lent.grown {H0 H : AHeap} {ty es n : Nat} {cells : List AV} {x : AV} (h : growC H0 ty es n cells x H) : Lent H x (.seq n cells false) := by
  rcases h with ⟨rfl, rfl, rfl, rfl⟩ | ⟨hn, hl, b, hb, rfl, rfl⟩
  · intro c _ _ v he
    exact enc_loose _ _ (he.later (c.dropTo_later le_nil))
  · exact Lent.own (upd_same _ _ _) hl
def LentL (H : AHeap) : List AV → List AV → Prop
  | [], [] => True
  | x :: xs, y :: ys => Lent H x y ∧ LentL H xs ys
  | _, _ => False
theorem LentL.len {H : AHeap} : ∀ {xs ys : List AV}, LentL H xs ys → ys.length = xs.length
  | [], [], _ => rfl
  | _ :: _, _ :: _, h => by simp [LentL.len h.2]
  | [], _ :: _, h => h.elim
  | _ :: _, [], h => h.elim
theorem LentL.get {H : AHeap} : ∀ {xs ys : List AV}, LentL H xs ys → ∀ i (h : i < xs.length) (h' : i < ys.length), Lent H (xs[i]) (ys[i])
  | _ :: _, _ :: _, h, 0, _, _ => h.1
  | _ :: _, _ :: _, h, i + 1, a, b => LentL.get h.2 i (by simpa using a) (by simpa using b)
  | [], [], _, _, a, _ => absurd a (by simp)
  | [], _ :: _, h, _, _, _ => h.elim
  | _ :: _, [], h, _, _, _ => h.elim
theorem PFn.frozen {P : Program} {f : FuncId} {args : List AV} {ty es n : Nat} {cells : List AV} (h : ∀ (H : AHeap) (Q : AV → AHeap → Prop), (∀ x H', growC H ty es n cells x H' → Q x H') → Run P f args H Q) : PFn P f args (.seq n cells false) := fun H Q hq =>
  Run.settle (h H _ fun _ _ g => growC_fin g hq)
/-! ### integers and rows, as they are read -/
section
variable {K : AV → Prop} {K2 : AV → AHeap → Prop} {H : AHeap} {k : IntKind} {n m : Int} {t : Bool}
theorem neq_int : binW .neq (.int k n) (.int k m) K ↔ K (.bool (!decide (n = m))) := by simp [binW, binInt]
theorem len_rw {n : Nat} {c : List AV} (h : n < 9223372036854775808) : lenW false (.seq n c t) K = K (.int .i64 ((n : Nat) : Int)) := by simp [lenW, h]
theorem idx_rw {es n i : Nat} {c : List AV} (hl : c.length = n * es) (h : i < n) : idxAW es (.seq n c t) (.int k (i : Int)) K = K (.cptr (c.drop (i * es))) := by simp [idxAW, hl, h]
end
end Go.Proofs.YtanchgkiomfhhaaDoor.Fw

/- The looked-up code of one function, and that it is: by a program (wip/tools/ac.py); Lean checks it. -/
namespace Go.Proofs.YtanchgkiomfhhaaDoor.Fw
open Go
set_option maxRecDepth 100000
end Go.Proofs.YtanchgkiomfhhaaDoor.Fw

/- Fractions: what the reference's functions answer. -/
namespace Go.Proofs.YtanchgkiomfhhaaDoor.Fw
set_option linter.unusedSimpArgs false
set_option linter.unusedVariables false
open Go Go.Proofs.YtanchgkiomfhhaaDoor.Ma
set_option maxRecDepth 20000

def RaxR (a b : Int) : AV := .agg [RefB a, RefD a, RefB b, RefD b]
def RatR (q : QQ) : AV := RaxR q.num (q.den : Int)
end Go.Proofs.YtanchgkiomfhhaaDoor.Fw

/- Fractions: more of the reference, and what holds the two against each other. -/
namespace Go.Proofs.YtanchgkiomfhhaaDoor.Fw
set_option linter.unusedSimpArgs false
set_option linter.unusedVariables false
open Go Go.Proofs.YtanchgkiomfhhaaDoor.Ma
set_option maxRecDepth 20000

end Go.Proofs.YtanchgkiomfhhaaDoor.Fw

/- Fractions: the laws that hold the program against the reference: true. -/
namespace Go.Proofs.YtanchgkiomfhhaaDoor.Fw
set_option linter.unusedSimpArgs false
set_option linter.unusedVariables false
open Go Go.Proofs.YtanchgkiomfhhaaDoor.Ma
set_option maxRecDepth 20000

end Go.Proofs.YtanchgkiomfhhaaDoor.Fw

/- Fractions: all over one denominator: plain numbers. -/
namespace Go.Proofs.YtanchgkiomfhhaaDoor.Fw
set_option linter.unusedSimpArgs false
set_option linter.unusedVariables false
open Go Go.Proofs.YtanchgkiomfhhaaDoor.Ma

def comS (d : Int) (q : QQ) : Int := d * ((q.den : Int) / ((Int.gcd d (q.den : Int) : Nat) : Int))
def comD : Int → List QQ → Int
  | d, [] => d
  | d, q :: l => comD (comS d q) l
def comN (d : Int) (q : QQ) : Int := q.num * (d / (q.den : Int))
theorem com_g (d : Int) (q : QQ) : (q.den : Int) = ((Int.gcd d (q.den : Int) : Nat) : Int) * ((q.den : Int) / ((Int.gcd d (q.den : Int) : Nat) : Int)) := (Int.mul_ediv_cancel' (Int.gcd_dvd_right ..)).symm
theorem com_gpos (d : Int) (q : QQ) : 0 < ((Int.gcd d (q.den : Int) : Nat) : Int) := q_gcd q.den_pos
theorem com_q0 (d : Int) (q : QQ) : 0 < (q.den : Int) / ((Int.gcd d (q.den : Int) : Nat) : Int) :=
  Int.ediv_pos_of_pos_of_dvd (q_pos q) (by omega) (Int.gcd_dvd_right ..)
theorem comS_pos {d : Int} (q : QQ) (h : 0 < d) : 0 < comS d q := Int.mul_pos h (com_q0 d q)
theorem comS_dvd1 (d : Int) (q : QQ) : d ∣ comS d q := Int.dvd_mul_right ..
theorem comS_dvd2 (d : Int) (q : QQ) : (q.den : Int) ∣ comS d q := by
  obtain ⟨a, ha⟩ := Int.gcd_dvd_left d (q.den : Int)
  refine ⟨a, ?_⟩
  have hg := com_g d q
  unfold comS
  generalize (q.den : Int) / ((Int.gcd d (q.den : Int) : Nat) : Int) = c at *
  generalize ((Int.gcd d (q.den : Int) : Nat) : Int) = g at *
  rw [hg, ha, Int.mul_assoc, Int.mul_assoc, Int.mul_comm a c]
theorem comS_bd {d : Int} {q : QQ} {k k' : Nat} (hd : Bd k d) (hq : RB k' q) : Bd (k + k') (comS d q) := hd.mul hq.2.ediv
theorem comD_dvd : ∀ (l : List QQ) (d : Int), d ∣ comD d l
  | [], d => Int.dvd_refl d
  | q :: l, d => Int.dvd_trans (comS_dvd1 d q) (comD_dvd l _)
theorem comD_den : ∀ (l : List QQ) (d : Int) (q : QQ), q ∈ l → (q.den : Int) ∣ comD d l
  | p :: l, d, q, h => by
    rcases List.mem_cons.1 h with rfl | h
    · exact Int.dvd_trans (comS_dvd2 d q) (comD_dvd l _)
    · exact comD_den l _ q h
def sumQ : QQ → List QQ → QQ
  | s, [] => s
  | s, q :: l => sumQ (s + q) l
end Go.Proofs.YtanchgkiomfhhaaDoor.Fw

/- Programs, grids, points: how they stand in memory. -/
namespace Go.Proofs.YtanchgkiomfhhaaDoor.Fw
set_option linter.unusedSimpArgs false
set_option linter.unusedVariables false
open Go Go.Proofs.YtanchgkiomfhhaaDoor.Ma
set_option maxRecDepth 20000

theorem flat_len {α : Type} {f : α → List AV} {es : Nat} (hf : ∀ q, (f q).length = es) : ∀ l : List α, (l.flatMap f).length = l.length * es
  | [] => by simp
  | a :: l => by rw [List.flatMap_cons, List.length_append, hf, flat_len hf l, List.length_cons, Nat.add_mul]; omega
theorem drop_past {l m : List AV} {n k : Nat} (h : l.length = n) : (l ++ m).drop (n + k) = m.drop k := by subst h; simp
theorem flat_drop {α : Type} {f : α → List AV} {es : Nat} (hf : ∀ q, (f q).length = es) : ∀ (l : List α) (i : Nat) (h : i < l.length), (l.flatMap f).drop (i * es) = f (l[i]) ++ (l.flatMap f).drop ((i + 1) * es)
  | a :: l, 0, _ => by
    have e := drop_past (m := l.flatMap f) (k := 0) (hf a)
    rw [List.flatMap_cons, Nat.zero_mul, List.drop_zero, Nat.zero_add, Nat.one_mul, show es = es + 0 from rfl, e]; rfl
  | a :: l, i + 1, h => by
    have ih := flat_drop hf l i (by simpa using h)
    rw [List.flatMap_cons, show (i + 1) * es = es + i * es by rw [Nat.add_mul]; omega, show (i + 1 + 1) * es = es + (i + 1) * es by simp only [Nat.add_mul]; omega, drop_past (hf a), drop_past (hf a), ih]; rfl
structure Ins where
  op : Int
  to : Int
  a : Int
  b : Int
  c : Int
def I64 (n : Int) : Prop := -9223372036854775808 ≤ n ∧ n < 9223372036854775808
def Ins.ok (i : Ins) : Prop := I64 i.op ∧ I64 i.to ∧ I64 i.a ∧ I64 i.b ∧ I64 i.c
def insC (i : Ins) : List AV := [.int .i64 i.op, .int .i64 i.to, .int .i64 i.a, .int .i64 i.b, .int .i64 i.c]
structure PR where
  ins : Int
  regs : Int
  code : List Ins
  outs : List Int
def outC (n : Int) : List AV := [.int .i64 n]
def CodeA (l : List Ins) (t : Bool) : AV := .seq l.length (l.flatMap insC) t
def OutsA (l : List Int) (t : Bool) : AV := .seq l.length (l.map fun n => .int .i64 n) t
def ProgA (p : PR) : AV := .agg [.int .i64 p.ins, .int .i64 p.regs, CodeA p.code false, OutsA p.outs false]
def PR.ok (p : PR) : Prop := I64 p.ins ∧ I64 p.regs ∧ (∀ i, i ∈ p.code → i.ok) ∧ p.code.length ≤ 140737488355328 ∧ (∀ n, n ∈ p.outs → I64 n) ∧ p.outs.length ≤ 140737488355328
def gridC (l : List Int) : List AV := [OutsA l false]
def GridA (g : List (List Int)) : AV := .seq g.length (g.flatMap gridC) false
def GoodRow (l : List Int) : Prop := (∀ n, n ∈ l → I64 n) ∧ l.length ≤ 140737488355328
structure Pt where
  a : Int
  b : Int
def ptC (p : Pt) : List AV := [.int .i64 p.a, .int .i64 p.b]
def Pt.ok (p : Pt) : Prop := I64 p.a ∧ I64 p.b
def PtsA (l : List Pt) (t : Bool) : AV := .seq l.length (l.flatMap ptC) t
structure Cl where
  kind : Int
  who : Int
  k : Int
def clC (p : Cl) : List AV := [.int .i64 p.kind, .int .i64 p.who, .int .i64 p.k]
def Cl.ok (p : Cl) : Prop := I64 p.kind ∧ I64 p.who ∧ I64 p.k
def ClsA (l : List Cl) (t : Bool) : AV := .seq l.length (l.flatMap clC) t
end Go.Proofs.YtanchgkiomfhhaaDoor.Fw

/- Rows of whole numbers: frozen or owned, read alike. -/
namespace Go.Proofs.YtanchgkiomfhhaaDoor.Fw
set_option linter.unusedSimpArgs false
set_option linter.unusedVariables false
open Go Go.Proofs.YtanchgkiomfhhaaDoor.Ma
set_option maxRecDepth 20000

def IC (zs : List Int) : List AV := zs.flatMap fun z => [IntB z, IntD z]
theorem IC_len (zs : List Int) : (IC zs).length = zs.length * 2 := by
  induction zs with
  | nil => rfl
  | cons a l ih => simp only [IC, List.flatMap_cons, List.length_append, List.length_cons, List.length_nil] at *; omega
theorem IC_snoc (zs : List Int) (z : Int) : IC (zs ++ [z]) = IC zs ++ [IntB z, IntD z] := by simp [IC, List.flatMap_append]
theorem IC_drop : ∀ (l : List Int) (i : Nat) (h : i < l.length), (IC l).drop (i * 2) = IntB (l[i]) :: IntD (l[i]) :: (IC l).drop (i * 2 + 2)
  | a :: l, 0, _ => rfl
  | a :: l, i + 1, h => by
    have := IC_drop l i (by simpa using h)
    rw [show (i + 1) * 2 = i * 2 + 2 by omega]
    show ((IntB a :: IntD a :: IC l).drop (i * 2 + 2)) = _
    simp only [List.drop_succ_cons, List.getElem_cons_succ]
    rw [this]
    show _ = _ :: _ :: ((IntB a :: IntD a :: IC l).drop (i * 2 + 2 + 2))
    simp only [List.drop_succ_cons]
def RowI (H : AHeap) (x : AV) (zs : List Int) : Prop :=
  (∃ t, x = .seq zs.length (IC zs) t) ∨ ∃ b ty t, x = .own b (zs.length * 2) 0 zs.length t ∧ H b = some (.row ty 2 (IC zs))
theorem RowI.le {H H' : AHeap} {x : AV} {zs : List Int} (h : RowI H x zs) (hl : Le H H') : RowI H' x zs := by
  rcases h with h | ⟨b, ty, t, e, hb⟩
  · exact .inl h
  · exact .inr ⟨b, ty, t, e, hl b _ hb⟩
theorem RowI.nil {H : AHeap} : RowI H (.seq 0 [] true) [] := .inl ⟨true, rfl⟩
theorem RowI.grown {H0 H : AHeap} {ty : TypeId} {x : AV} {zs : List Int} (h : growC H0 ty 2 zs.length (IC zs) x H) : RowI H x zs := by
  rcases h with ⟨h1, h2, rfl, rfl⟩ | ⟨h1, h2, b, hb, rfl, rfl⟩
  · have : zs = [] := List.length_eq_zero_iff.1 h1
    subst this; exact RowI.nil
  · exact .inr ⟨b, ty, false, rfl, upd_same _ _ _⟩
theorem RowI.len {H : AHeap} {x : AV} {zs : List Int} (h : RowI H x zs) (hn : zs.length < 9223372036854775808) {K : AV → Prop} : lenW false x K = K (.int .i64 ((zs.length : Nat) : Int)) := by
  rcases h with ⟨t, rfl⟩ | ⟨b, ty, t, rfl, hb⟩ <;> simp [lenW, hn]
theorem RowI.get {H : AHeap} {x : AV} {zs : List Int} (h : RowI H x zs) {i : Nat} (hi : i < zs.length) : ∃ p, (∀ {k : IntKind} {K : AV → Prop}, (liveS H x ∧ idxAW 2 x (.int k (i : Int)) K) ↔ K p) ∧ ∀ {K : AV → Prop}, loadW H (some 2) p K ↔ K (IntA (zs[i])) := by
  rcases h with ⟨t, rfl⟩ | ⟨b, ty, t, rfl, hb⟩
  · refine ⟨.cptr ((IC zs).drop (i * 2)), fun {k K} => ?_, fun {K} => ?_⟩
    · simp [liveS, idxAW, IC_len, hi]
    · simp only [loadW, cellsAt, IC_drop zs i hi]; simp [IntA_eq]
  · have hl := IC_len zs
    refine ⟨.ptr b (zs.length * 2) (i * 2), fun {k K} => ?_, fun {K} => ?_⟩
    · simp [liveS, idxAW, hb, hl, hi]
    · simp only [loadW, cellsAt, hb, IC_drop zs i hi]
      simp [IntA_eq, hl]
      omega
end Go.Proofs.YtanchgkiomfhhaaDoor.Fw

/- Rows of whole numbers: plain laws. -/
namespace Go.Proofs.YtanchgkiomfhhaaDoor.Fw
set_option linter.unusedSimpArgs false
set_option linter.unusedVariables false
open Go Go.Proofs.YtanchgkiomfhhaaDoor.Ma

def cmpL : List Int → List Int → Int
  | x :: xs, y :: ys => if cmpI x y = 0 then cmpL xs ys else cmpI x y
  | _, _ => 0
def cmpR (zs ws : List Int) : Int := if zs.length < ws.length then -1 else if ws.length < zs.length then ((1 : Nat) : Int) else cmpL zs ws
def widS (w x : Int) : Int := if w < (x.natAbs : Int) then (x.natAbs : Int) else w
def widF (w : Int) (zs : List Int) : Int := zs.foldl widS w
theorem Bd.widS {k : Nat} {w x : Int} (hw : Bd k w) (hx : Bd k x) : Bd k (widS w x) := by
  unfold Fw.widS
  split
  · exact hx.abs
  · exact hw
theorem Bd.widF {k : Nat} : ∀ {zs : List Int} {w : Int}, Bd k w → (∀ z, z ∈ zs → Bd k z) → Bd k (widF w zs)
  | [], _, h, _ => h
  | z :: zs, w, h, h2 => Bd.widF (zs := zs) (h.widS (h2 z (by simp))) fun y hy => h2 y (by simp [hy])
def gcdF (g : Nat) (zs : List Int) : Nat := zs.foldl (fun g x => Int.gcd (g : Int) x) g
def contN (zs : List Int) : Nat := gcdF 0 zs
theorem Bd.gcdF {k : Nat} : ∀ {zs : List Int} {g : Nat}, Bd k (g : Int) → (∀ z, z ∈ zs → Bd k z) → Bd k ((gcdF g zs : Nat) : Int)
  | [], _, h, _ => h
  | z :: zs, g, h, h2 => by
    refine Bd.gcdF (zs := zs) (g := Int.gcd (g : Int) z) ?_ fun y hy => h2 y (by simp [hy])
    have hz := h2 z (by simp)
    unfold Bd at *
    by_cases hg : g = 0
    · subst hg
      rw [show Int.gcd ((0 : Nat) : Int) z = z.natAbs by simp [Int.gcd]]
      simpa using hz
    · have : Int.gcd (g : Int) z ≤ g := Nat.le_of_dvd (by omega) (Int.ofNat_dvd.1 (Int.gcd_dvd_left (g : Int) z))
      simp only [Int.natAbs_natCast] at h ⊢
      omega
def primG (zs : List Int) : Int := match zs.find? (fun z => decide (z ≠ 0)) with
  | some z => if z < 0 then -((contN zs : Nat) : Int) else ((contN zs : Nat) : Int)
  | none => 0
def primR (zs : List Int) : List Int := zs.map (· / primG zs)
def zipI (f : Int → Int → Int) (zs ws : List Int) : List Int := List.zipWith f zs ws
def dotF (s : Int) (zs ws : List Int) : Int := (zipI (· * ·) zs ws).foldl (· + ·) s
end Go.Proofs.YtanchgkiomfhhaaDoor.Fw

/- Rows of whole numbers: what package row's functions answer. -/
namespace Go.Proofs.YtanchgkiomfhhaaDoor.Fw
set_option linter.unusedSimpArgs false
set_option linter.unusedVariables false
open Go Go.Proofs.YtanchgkiomfhhaaDoor.Ma
set_option maxRecDepth 20000

end Go.Proofs.YtanchgkiomfhhaaDoor.Fw

/- Rows of whole numbers: what the functions that read them answer, the program's and the reference's. -/
namespace Go.Proofs.YtanchgkiomfhhaaDoor.Fw
set_option linter.unusedSimpArgs false
set_option linter.unusedVariables false
open Go Go.Proofs.YtanchgkiomfhhaaDoor.Ma
set_option maxRecDepth 20000

abbrev RowA (zs : List Int) (t : Bool) : AV := .seq zs.length (IC zs) t
def RC (zs : List Int) : List AV := zs.flatMap fun z => [RefB z, RefD z]
abbrev RefR (zs : List Int) (t : Bool) : AV := .seq zs.length (RC zs) t
section
variable {K : AV → Prop} {H : AHeap} {k : IntKind} {t : Bool} {zs : List Int} {i : Nat}
theorem load_IC (h : i < zs.length) : loadW H (some 2) (.cptr ((IC zs).drop (i * 2))) K = K (IntA (zs[i])) := by
  simp only [loadW, cellsAt, IC_drop zs i h]; simp [IntA_eq]
end
def RB4 (k : Nat) (zs : List Int) : Prop := (∀ z, z ∈ zs → Bd k z) ∧ zs.length < 4611686018427387904
theorem RB4.at {k : Nat} {zs : List Int} (h : RB4 k zs) {i : Nat} (hi : i < zs.length) : Bd k (zs[i]) := h.1 _ (List.getElem_mem hi)

/-! ### the reference -/
end Go.Proofs.YtanchgkiomfhhaaDoor.Fw

/- Rows of whole numbers: what is made of them. -/
namespace Go.Proofs.YtanchgkiomfhhaaDoor.Fw
set_option linter.unusedSimpArgs false
set_option linter.unusedVariables false
open Go Go.Proofs.YtanchgkiomfhhaaDoor.Ma
set_option maxRecDepth 20000

theorem repI1 {a b : AV} : repA [a, b] 2 = [a, b] := by simp [repA, List.range, List.range.loop]
theorem cellI {z : Int} : [IntB z, IntD z].all AV.cell = true := rfl
theorem IC_take {zs : List Int} {i : Nat} (h : i < zs.length) : IC (zs.take (i + 1)) = IC (zs.take i) ++ [IntB (zs[i]), IntD (zs[i])] := by
  rw [List.take_add_one, List.getElem?_eq_getElem h, Option.toList_some, IC_snoc]
section
variable {H : AHeap} {Q : AV → AHeap → Prop} {zs ws : List Int} {t t' : Bool} {k : Nat}
end
end Go.Proofs.YtanchgkiomfhhaaDoor.Fw

/- Rows of fractions: summed, put over one denominator. -/
namespace Go.Proofs.YtanchgkiomfhhaaDoor.Fw
set_option linter.unusedSimpArgs false
set_option linter.unusedVariables false
open Go Go.Proofs.YtanchgkiomfhhaaDoor.Ma
set_option maxRecDepth 20000

def qC (q : QQ) : List AV := [IntB q.num, IntD q.num, IntB ((q.den : Int) - 1), IntD ((q.den : Int) - 1)]
def qR (q : QQ) : List AV := [RefB q.num, RefD q.num, RefB (q.den : Int), RefD (q.den : Int)]
theorem qC_len (q : QQ) : (qC q).length = 4 := rfl
def QC (l : List QQ) : List AV := l.flatMap qC
def QR (l : List QQ) : List AV := l.flatMap qR
def RatsA (l : List QQ) (t : Bool) : AV := .seq l.length (QC l) t
def RatsR (l : List QQ) (t : Bool) : AV := .seq l.length (QR l) t
section
variable {H : AHeap} {K : AV → Prop} {k : IntKind} {t : Bool} {l : List QQ} {i : Nat}
theorem idx_QC (h : i < l.length) : idxAW 4 (.seq l.length (QC l) t) (.int k (i : Int)) K = K (.cptr ((QC l).drop (i * 4))) := idx_rw (flat_len qC_len l) h
theorem load_QC (h : i < l.length) : loadW H (some 4) (.cptr ((QC l).drop (i * 4))) K = K (RatA (l[i])) := by
  have e := flat_drop qC_len l i h
  unfold QC
  rw [e]
  simp [loadW, cellsAt, qC, RatA, RawR]
end
theorem rsum_fn {l : List QQ} {t : Bool} {k : Nat} (hb : ∀ q, q ∈ l → RB k q) (hl : l.length ≤ 12) (hk : k ≤ 10000) : PFn Tryd.prog 112 [RatsA l t] (RatA (sumQ 0 l)) := by
  intro H Q hq
  refine enter112 (by simp) ?_
  simp (disch := first | assumption | (apply Ap.symm; assumption) | omega | decide | (simp only [Xd] <;> omega)) only [ac112, RatsA, ↓Xa, Xb, Xc, ↓reduceIte, Nat.reduceLT, Nat.reduceEqDiff, Nat.reduceBEq, Nat.reduceLeDiff, Nat.reduceAdd, Nat.reduceMul]
  refine alloc_i fun p1 hp1 => ?_
  have n1 := hp1
  simp (disch := first | assumption | (apply Ap.symm; assumption) | omega | decide | (simp only [Xd] <;> omega)) only [↓Xa, Xb, Xc, ↓reduceIte, Nat.reduceLT, Nat.reduceEqDiff, Nat.reduceBEq, Nat.reduceLeDiff, Nat.reduceAdd, Nat.reduceMul]
  refine alloc_i fun p2 hp2 => ?_
  have n2 := hp2
  simp only [upd_none] at n2
  obtain ⟨_, n2⟩ := n2
  simp (disch := first | assumption | (apply Ap.symm; assumption) | omega | decide | (simp only [Xd] <;> omega)) only [len_rw, ↓Xa, Xb, Xc, ↓reduceIte, Nat.reduceLT, Nat.reduceEqDiff, Nat.reduceBEq, Nat.reduceLeDiff, Nat.reduceAdd, Nat.reduceMul]
  refine W_loop (fun s : Nat × QQ => ⟨[], [(2, .ptr p1 4 0), (3, .ptr p2 4 0), (6, .seq l.length (QC l) t), (7, .int .i64 l.length), (8, .int .i64 s.1)], (H.upd p1 (some (.row 121 0 [.bool false, .seq 0 [] true, .bool false, .seq 0 [] true]))).upd p2 (some (.row 121 0 (qC s.2)))⟩)
    (fun s => s.1 ≤ l.length ∧ RB (1 + (k + 1) * s.1) s.2 ∧ sumQ s.2 (l.drop s.1) = sumQ 0 l) (fun s => l.length - s.1) (0, 0) (Settle.now (by simp [qC, IntB, IntD, digs_zero, LS, U])) ⟨Nat.zero_le _, ⟨Bd.zero _, Bd.oneQ 0⟩, rfl⟩ ?_
  rintro ⟨i, s⟩ ⟨h3, hs, hc⟩
  dsimp only at h3 hs hc ⊢
  by_cases hi : i < l.length
  · rw [List.drop_eq_getElem_cons hi, sumQ] at hc
    have hbi := hb _ (List.getElem_mem hi)
    have hm : (k + 1) * i ≤ 10001 * 12 := Nat.mul_le_mul (by omega) (by omega)
    simp (disch := first | assumption | (apply Ap.symm; assumption) | omega | decide | (simp only [Xd] <;> omega)) only [hi, idx_QC, load_QC, ↓Xa, Xb, Xc, ↓reduceIte, Nat.reduceLT, Nat.reduceEqDiff, Nat.reduceBEq, Nat.reduceLeDiff, Nat.reduceAdd, Nat.reduceMul]
    refine alloc_i fun p3 hp3 => ?_
    have n3 := hp3
    simp only [upd_none] at n3
    obtain ⟨_, _, n3⟩ := n3
    simp (disch := first | assumption | (apply Ap.symm; assumption) | omega | decide | (simp only [Xd] <;> omega)) only [cells_RatA, qC, fold_Raw, fold_RatA, ↓Xa, Xb, Xc, ↓reduceIte, Nat.reduceLT, Nat.reduceEqDiff, Nat.reduceBEq, Nat.reduceLeDiff, Nat.reduceAdd, Nat.reduceMul]
    refine (radd_fn hs hbi (by omega)).call ?_
    simp (disch := first | assumption | (apply Ap.symm; assumption) | omega | decide | (simp only [Xd] <;> omega)) only [cells_RatA, ↓Xa, Xb, Xc, ↓reduceIte, Nat.reduceLT, Nat.reduceEqDiff, Nat.reduceBEq, Nat.reduceLeDiff, Nat.reduceAdd, Nat.reduceMul]
    refine Settle.dropTo ((Le.refl _).updB (upd_none.2 ⟨by assumption, upd_none.2 ⟨by assumption, n3⟩⟩)) ?_
    refine Settle.now ⟨(i + 1, s + l[i]), by dsimp only; omega, ⟨by dsimp only; omega, ?_, hc⟩, rfl⟩
    have := hs.add hbi
    rwa [show 1 + (k + 1) * i + k + 1 = 1 + (k + 1) * (i + 1) by rw [Nat.mul_add]; omega] at this
  · rw [List.drop_eq_nil_of_le (by omega)] at hc
    have hc : s = sumQ 0 l := hc
    rw [← hc] at hq
    simp (disch := first | assumption | (apply Ap.symm; assumption) | omega | decide | (simp only [Xd] <;> omega)) only [hi, ↓Xa, Xb, Xc, ↓reduceIte, Nat.reduceLT, Nat.reduceEqDiff, Nat.reduceBEq, Nat.reduceLeDiff, Nat.reduceAdd, Nat.reduceMul]
    refine Settle.now ?_
    simp (disch := first | assumption | (apply Ap.symm; assumption) | omega | decide | (simp only [Xd] <;> omega)) only [qC, cells_RatA, fold_Raw, fold_RatA, rs112, ↓Xa, Xb, Xc, ↓reduceIte, Nat.reduceLT, Nat.reduceEqDiff, Nat.reduceBEq, Nat.reduceLeDiff, Nat.reduceAdd, Nat.reduceMul]
    exact SetR.dropTo (((Le.refl H).updB n1).updB n2) (SetR.now hq)
theorem SetR.weak {Q : AV → AHeap → Prop} {r r' : AV} {H : AHeap} (hw : Wk r r') (h : SetR Q r' H) : SetR Q r H := fun c v hH hok he => h c v hH hok (hw c v he)
theorem Wk.tup1 {a a' b : AV} (h : Wk a a') : Wk (.tup [a, b]) (.tup [a', b]) := fun c v he => by
  cases he with
  | tup _ vs hl hc =>
    refine .tup _ vs hl fun i hi hi' => ?_
    match i, hi with
    | 0, _ => exact h _ _ (hc 0 (by simp) hi')
    | 1, _ => exact hc 1 (by simp) hi'
theorem Wk.l1 {n : Nat} {cells : List AV} {t : Bool} : Wk (.seq n cells t) (.seq n cells false) := fun _ v he => enc_loose1 (.seq n cells t) v he
theorem growC_finA {H0 H : AHeap} {ty es n : Nat} {cells : List AV} {x : AV} {z : Int} {Q : AV → AHeap → Prop} (h : growC H0 ty es n cells x H) (hq : Q (.tup [.seq n cells false, IntA z]) H0) : SetR Q (.tup [x, IntA z]) H := by
  rcases h with ⟨rfl, rfl, rfl, rfl⟩ | ⟨hn, hl, b, hb, rfl, rfl⟩
  · exact SetR.weak (Wk.tup1 Wk.l1) (SetR.now hq)
  · refine SetR.frz b (upd_same _ _ _) ?_
    rw [upd_upd, upd_back _ hb]
    have e : frz b es cells (.tup [.own b (n * es) 0 n false, IntA z]) = .tup [.seq n cells false, IntA z] := by simp [frz, frz2, frz1, hl, List.take_of_length_le, IntA, LS]
    rw [e]; exact SetR.now hq
theorem Bd.gcd2 {d : Int} {q : QQ} {k : Nat} (hq : Bd k (q.den : Int)) : Bd k ((Int.gcd d (q.den : Int) : Nat) : Int) := hq.le (by
  have h1 : Int.gcd d (q.den : Int) ≤ q.den := Nat.le_of_dvd q.den_pos (Int.ofNat_dvd.1 (Int.gcd_dvd_right d (q.den : Int)))
  omega)
theorem rcommon_fn {l : List QQ} {t : Bool} {k : Nat} (hb : ∀ q, q ∈ l → RB k q) (hl : l.length ≤ 12) (hk : k ≤ 10000) (hk1 : 2 ≤ k) : PFn Tryd.prog 109 [RatsA l t] (.tup [.seq l.length (IC (l.map (comN (comD 1 l)))) false, IntA (comD 1 l)]) := by
  intro H Q hq
  refine enter109 (by simp) ?_
  simp (disch := first | assumption | (apply Ap.symm; assumption) | omega | decide | (simp only [Xd] <;> omega)) only [ac109, RatsA, ↓Xa, Xb, Xc, ↓reduceIte, Nat.reduceLT, Nat.reduceEqDiff, Nat.reduceBEq, Nat.reduceLeDiff, Nat.reduceAdd, Nat.reduceMul]
  refine alloc_i fun p1 hp1 => ?_
  have n1 := hp1
  simp (disch := first | assumption | (apply Ap.symm; assumption) | omega | decide | (simp only [Xd] <;> omega)) only [↓Xa, Xb, Xc, ↓reduceIte, Nat.reduceLT, Nat.reduceEqDiff, Nat.reduceBEq, Nat.reduceLeDiff, Nat.reduceAdd, Nat.reduceMul]
  refine (of_fn (n := ((1 : Nat) : Int)) (by omega)).call ?_
  simp (disch := first | assumption | (apply Ap.symm; assumption) | omega | decide | (simp only [Xd] <;> omega)) only [↓Xa, Xb, Xc, ↓reduceIte, Nat.reduceLT, Nat.reduceEqDiff, Nat.reduceBEq, Nat.reduceLeDiff, Nat.reduceAdd, Nat.reduceMul]
  refine alloc_i fun p2 hp2 => ?_
  have n2 := hp2
  simp only [upd_none] at n2
  obtain ⟨_, n2⟩ := n2
  simp (disch := first | assumption | (apply Ap.symm; assumption) | omega | decide | (simp only [Xd] <;> omega)) only [cells_IntA, len_rw, ↓Xa, Xb, Xc, ↓reduceIte, Nat.reduceLT, Nat.reduceEqDiff, Nat.reduceBEq, Nat.reduceLeDiff, Nat.reduceAdd, Nat.reduceMul]
  refine W_loop (fun s : Nat × Int => ⟨[], [(0, .seq l.length (QC l) t), (3, .ptr p1 2 0), (4, .ptr p2 2 0), (17, .seq l.length (QC l) t), (18, .int .i64 l.length), (19, .int .i64 s.1)], (H.upd p1 (some (.row 28 0 [.bool false, .seq 0 [] true]))).upd p2 (some (.row 28 0 [IntB s.2, IntD s.2]))⟩)
    (fun s => s.1 ≤ l.length ∧ Bd (2 + k * s.1) s.2 ∧ 0 < s.2 ∧ comD s.2 (l.drop s.1) = comD 1 l) (fun s => l.length - s.1) (0, ((1 : Nat) : Int)) (Settle.now rfl) ⟨Nat.zero_le _, Bd.i64 (by omega), by dsimp only; omega, rfl⟩ ?_
  rintro ⟨i, d⟩ ⟨h3, hd, h0, hc⟩
  dsimp only at h3 hd h0 hc ⊢
  by_cases hi : i < l.length
  · rw [List.drop_eq_getElem_cons hi, comD] at hc
    have hbi := hb _ (List.getElem_mem hi)
    have hm : k * i ≤ 10000 * 12 := Nat.mul_le_mul (by omega) (by omega)
    have hg0 := com_gpos d (l[i])
    simp (disch := first | assumption | (apply Ap.symm; assumption) | omega | decide | (simp only [Xd] <;> omega)) only [hi, idx_QC, load_QC, ↓Xa, Xb, Xc, ↓reduceIte, Nat.reduceLT, Nat.reduceEqDiff, Nat.reduceBEq, Nat.reduceLeDiff, Nat.reduceAdd, Nat.reduceMul]
    refine alloc_i fun p3 hp3 => ?_
    have n3 := hp3
    simp only [upd_none] at n3
    obtain ⟨_, _, n3⟩ := n3
    simp (disch := first | assumption | (apply Ap.symm; assumption) | omega | decide | (simp only [Xd] <;> omega)) only [cells_RatA, fold_Raw, fold_RatA, ↓Xa, Xb, Xc, ↓reduceIte, Nat.reduceLT, Nat.reduceEqDiff, Nat.reduceBEq, Nat.reduceLeDiff, Nat.reduceAdd, Nat.reduceMul]
    refine PFn.dcall (rden_fn hbi (by omega)) ?_
    simp (disch := first | assumption | (apply Ap.symm; assumption) | omega | decide | (simp only [Xd] <;> omega)) only [fold_IntA, fold_Raw, fold_RatA, ↓Xa, Xb, Xc, ↓reduceIte, Nat.reduceLT, Nat.reduceEqDiff, Nat.reduceBEq, Nat.reduceLeDiff, Nat.reduceAdd, Nat.reduceMul]
    refine PFn.dcall (rden_fn hbi (by omega)) ?_
    simp (disch := first | assumption | (apply Ap.symm; assumption) | omega | decide | (simp only [Xd] <;> omega)) only [fold_IntA, ↓Xa, Xb, Xc, ↓reduceIte, Nat.reduceLT, Nat.reduceEqDiff, Nat.reduceBEq, Nat.reduceLeDiff, Nat.reduceAdd, Nat.reduceMul]
    refine PFn.dcall (igcd_fn (k := 2 + k * i + k) (hd.mono (by omega)) (by omega) (hbi.2.mono (by omega))) ?_
    simp (disch := first | assumption | (apply Ap.symm; assumption) | omega | decide | (simp only [Xd] <;> omega)) only [↓Xa, Xb, Xc, ↓reduceIte, Nat.reduceLT, Nat.reduceEqDiff, Nat.reduceBEq, Nat.reduceLeDiff, Nat.reduceAdd, Nat.reduceMul]
    refine PFn.dcall (idivmod_fn hbi.2 (by omega) (Bd.gcd2 hbi.2) (by omega) (by omega)) ?_
    simp (disch := first | assumption | (apply Ap.symm; assumption) | omega | decide | (simp only [Xd] <;> omega)) only [↓Xa, Xb, Xc, ↓reduceIte, Nat.reduceLT, Nat.reduceEqDiff, Nat.reduceBEq, Nat.reduceLeDiff, Nat.reduceAdd, Nat.reduceMul]
    refine dalloc_i fun p4 hp4 => ?_
    have n4 := hp4
    simp only [upd_none] at n4
    obtain ⟨_, _, _, n4⟩ := n4
    simp (disch := first | assumption | (apply Ap.symm; assumption) | omega | decide | (simp only [Xd] <;> omega)) only [↓Xa, Xb, Xc, ↓reduceIte, Nat.reduceLT, Nat.reduceEqDiff, Nat.reduceBEq, Nat.reduceLeDiff, Nat.reduceAdd, Nat.reduceMul]
    refine dalloc_i fun p5 hp5 => ?_
    have n5 := hp5
    simp only [upd_none] at n5
    obtain ⟨_, _, _, _, n5⟩ := n5
    simp (disch := first | assumption | (apply Ap.symm; assumption) | omega | decide | (simp only [Xd] <;> omega)) only [cells_IntA, fold_IntA, ↓Xa, Xb, Xc, ↓reduceIte, Nat.reduceLT, Nat.reduceEqDiff, Nat.reduceBEq, Nat.reduceLeDiff, Nat.reduceAdd, Nat.reduceMul]
    refine (muli_fn hd (by omega) hbi.2.ediv (by omega)).call ?_
    simp (disch := first | assumption | (apply Ap.symm; assumption) | omega | decide | (simp only [Xd] <;> omega)) only [cells_IntA, ↓Xa, Xb, Xc, ↓reduceIte, Nat.reduceLT, Nat.reduceEqDiff, Nat.reduceBEq, Nat.reduceLeDiff, Nat.reduceAdd, Nat.reduceMul]
    refine Settle.dropTo ((((Le.refl _).updB (upd_none.2 ⟨by assumption, upd_none.2 ⟨by assumption, n3⟩⟩)).updB (upd_none.2 ⟨by assumption, upd_none.2 ⟨by assumption, n4⟩⟩)).updB (upd_none.2 ⟨by assumption, upd_none.2 ⟨by assumption, n5⟩⟩)) ?_
    refine Settle.now ⟨(i + 1, comS d (l[i])), by dsimp only; omega, ⟨by dsimp only; omega, ?_, comS_pos _ h0, hc⟩, rfl⟩
    have := comS_bd hd hbi
    rwa [show 2 + k * i + k = 2 + k * (i + 1) by rw [Nat.mul_add]; omega] at this
  · rw [List.drop_eq_nil_of_le (by omega)] at hc
    have hc : d = comD 1 l := hc
    rw [← hc] at hq
    have hdv : ∀ q, q ∈ l → (q.den : Int) ∣ d := fun q hm => hc ▸ comD_den l 1 q hm
    have hm : k * i ≤ 10000 * 12 := Nat.mul_le_mul (by omega) (by omega)
    clear h3
    simp (disch := first | assumption | (apply Ap.symm; assumption) | omega | decide | (simp only [Xd] <;> omega)) only [hi, ↓Xa, Xb, Xc, ↓reduceIte, Nat.reduceLT, Nat.reduceEqDiff, Nat.reduceBEq, Nat.reduceLeDiff, Nat.reduceAdd, Nat.reduceMul]
    refine Settle.now ?_
    simp (disch := first | assumption | (apply Ap.symm; assumption) | omega | decide | (simp only [Xd] <;> omega)) only [len_rw, ↓Xa, Xb, Xc, ↓reduceIte, Nat.reduceLT, Nat.reduceEqDiff, Nat.reduceBEq, Nat.reduceLeDiff, Nat.reduceAdd, Nat.reduceMul]
    generalize hG : ((H.upd p1 (some (.row 28 0 [.bool false, .seq 0 [] true]))).upd p2 (some (.row 28 0 [IntB d, IntD d]))) = G
    have G2 : G p2 = some (.row 28 0 [IntB d, IntD d]) := by rw [← hG, upd_same]
    have G1 : G p1 = some (.row 28 0 [.bool false, .seq 0 [] true]) := by rw [← hG, upd_other _ _ (Ne.symm (by assumption)), upd_same]
    have hHG : Le H G := hG ▸ ((Le.refl H).updB n1).updB n2
    refine W_loop (fun s : Nat × AV × AHeap => ⟨[], [(3, .ptr p1 2 0), (4, .ptr p2 2 0), (10, s.2.1), (38, .seq l.length (QC l) t), (39, .int .i64 l.length), (40, .int .i64 s.1)], s.2.2⟩)
      (fun s => s.1 ≤ l.length ∧ growC G 28 2 s.1 (IC ((l.map (comN d)).take s.1)) s.2.1 s.2.2) (fun s => l.length - s.1) (0, .seq 0 [] true, _) (Settle.now rfl) ⟨Nat.zero_le _, growC_nil⟩ ?_
    rintro ⟨j, y, M⟩ ⟨h3, hg⟩
    dsimp only at h3 hg ⊢
    have m1 : M p1 = some (.row 28 0 [.bool false, .seq 0 [] true]) := growC_old hg G1
    have m2 : M p2 = some (.row 28 0 [IntB d, IntD d]) := growC_old hg G2
    by_cases hj : j < l.length
    · have hbi := hb _ (List.getElem_mem hj)
      have hj2 : j < (l.map (comN d)).length := by simpa using hj
      simp (disch := first | assumption | (apply Ap.symm; assumption) | omega | decide | (simp only [Xd] <;> omega)) only [hj, idx_QC, load_QC, ↓Xa, Xb, Xc, ↓reduceIte, Nat.reduceLT, Nat.reduceEqDiff, Nat.reduceBEq, Nat.reduceLeDiff, Nat.reduceAdd, Nat.reduceMul]
      refine alloc_i fun q1 hq1 => ?_
      have a1 := ne_of_some m2 hq1
      simp (disch := first | assumption | (apply Ap.symm; assumption) | omega | decide | (simp only [Xd] <;> omega)) only [cells_RatA, fold_Raw, fold_RatA, m2, fold_IntA, ↓Xa, Xb, Xc, ↓reduceIte, Nat.reduceLT, Nat.reduceEqDiff, Nat.reduceBEq, Nat.reduceLeDiff, Nat.reduceAdd, Nat.reduceMul]
      have hg1 := growC_upd (r := .row 121 0 [IntB (l[j]).num, IntD (l[j]).num, IntB ((l[j]).den - 1 : Int), IntD ((l[j]).den - 1 : Int)]) hg hq1
      refine PFn.dcall (rden_fn hbi (by omega)) ?_
      simp (disch := first | assumption | (apply Ap.symm; assumption) | omega | decide | (simp only [Xd] <;> omega)) only [fold_IntA, ↓Xa, Xb, Xc, ↓reduceIte, Nat.reduceLT, Nat.reduceEqDiff, Nat.reduceBEq, Nat.reduceLeDiff, Nat.reduceAdd, Nat.reduceMul]
      refine PFn.dcall (idivmod_fn hd (by omega) hbi.2 (by omega) (by have := q_pos (l[j]); omega)) ?_
      simp (disch := first | assumption | (apply Ap.symm; assumption) | omega | decide | (simp only [Xd] <;> omega)) only [↓Xa, Xb, Xc, ↓reduceIte, Nat.reduceLT, Nat.reduceEqDiff, Nat.reduceBEq, Nat.reduceLeDiff, Nat.reduceAdd, Nat.reduceMul]
      refine dalloc_i fun q2 hq2 => ?_
      have a2 := ne_of_some m2 (upd_none.1 hq2).2
      have b21 := (upd_none.1 hq2).1
      simp (disch := first | assumption | (apply Ap.symm; assumption) | omega | decide | (simp only [Xd] <;> omega)) only [↓Xa, Xb, Xc, ↓reduceIte, Nat.reduceLT, Nat.reduceEqDiff, Nat.reduceBEq, Nat.reduceLeDiff, Nat.reduceAdd, Nat.reduceMul]
      refine dalloc_i fun q3 hq3 => ?_
      have a3 := ne_of_some m2 (upd_none.1 (upd_none.1 hq3).2).2
      have b31 := (upd_none.1 (upd_none.1 hq3).2).1
      have b32 := (upd_none.1 hq3).1
      simp (disch := first | assumption | (apply Ap.symm; assumption) | omega | decide | (simp only [Xd] <;> omega)) only [cells_IntA, fold_IntA, repI1, ↓Xa, Xb, Xc, ↓reduceIte, Nat.reduceLT, Nat.reduceEqDiff, Nat.reduceBEq, Nat.reduceLeDiff, Nat.reduceAdd, Nat.reduceMul]
      have hg2 := growC_upd (r := .row 28 0 [IntB (d / ((l[j]).den : Int)), IntD (d / ((l[j]).den : Int))]) hg1 hq2
      have hq3' : ((M.upd q1 (some (.row 121 0 [IntB (l[j]).num, IntD (l[j]).num, IntB ((l[j]).den - 1 : Int), IntD ((l[j]).den - 1 : Int)]))).upd q2 (some (.row 28 0 [IntB (d / ((l[j]).den : Int)), IntD (d / ((l[j]).den : Int))]))) q3 = none := upd_none.2 ⟨b32, upd_none.2 ⟨b31, (upd_none.1 (upd_none.1 hq3).2).2⟩⟩
      have hg3 := growC_upd (r := .row 28 0 [IntB (d % ((l[j]).den : Int)), IntD (d % ((l[j]).den : Int))]) hg2 hq3'
      refine (muli_fn hbi.1 (by omega) hd.ediv (by omega)).call ?_
      simp (disch := first | assumption | (apply Ap.symm; assumption) | omega | decide | (simp only [Xd] <;> omega)) only [cells_IntA, fold_IntA, repI1, ↓Xa, Xb, Xc, ↓reduceIte, Nat.reduceLT, Nat.reduceEqDiff, Nat.reduceBEq, Nat.reduceLeDiff, Nat.reduceAdd, Nat.reduceMul]
      refine app_C (m := 1) hg3 rfl cellI (by omega) (by omega) (by omega) fun y' M2 hg4 => ?_
      have et : (l.map (comN d))[j] = (l[j]).num * (d / ((l[j]).den : Int)) := by simp [comN]
      rw [← et, ← IC_take hj2] at hg4

      obtain ⟨M3, hg5, hl5⟩ := growC_le2 hg4 ((((Le.refl G).updB (growC_none hg hq1)).updB (growC_none hg (upd_none.1 hq2).2)).updB (growC_none hg (upd_none.1 (upd_none.1 hq3).2).2))
      simp (disch := first | assumption | (apply Ap.symm; assumption) | omega | decide | (simp only [Xd] <;> omega)) only [↓Xa, Xb, Xc, ↓reduceIte, Nat.reduceLT, Nat.reduceEqDiff, Nat.reduceBEq, Nat.reduceLeDiff, Nat.reduceAdd, Nat.reduceMul]
      exact Settle.dropTo hl5 (Settle.now ⟨(j + 1, y', M3), by dsimp only; omega, ⟨by dsimp only; omega, hg5⟩, rfl⟩)
    · obtain rfl : j = l.length := by omega
      rw [List.take_of_length_le (by simp)] at hg
      simp (disch := first | assumption | (apply Ap.symm; assumption) | omega | decide | (simp only [Xd] <;> omega)) only [hj, ↓Xa, Xb, Xc, ↓reduceIte, Nat.reduceLT, Nat.reduceEqDiff, Nat.reduceBEq, Nat.reduceLeDiff, Nat.reduceAdd, Nat.reduceMul]
      refine Settle.now ?_
      simp (disch := first | assumption | (apply Ap.symm; assumption) | omega | decide | (simp only [Xd] <;> omega)) only [m1, m2, fold_IntA, cells_IntA, rs109, ↓Xa, Xb, Xc, ↓reduceIte, Nat.reduceLT, Nat.reduceEqDiff, Nat.reduceBEq, Nat.reduceLeDiff, Nat.reduceAdd, Nat.reduceMul]
      obtain ⟨H1, hg1, hl1⟩ := growC_move (M := M.upd p1 (some (.row 28 0 [IntB d, IntD d]))) hg fun b hb _ => upd_other _ _ (by rintro rfl; rw [G1] at hb; cases hb)
      have hle : Le H H1 := hl1 H (fun o x ho => by
        have e : o ≠ p1 := by rintro rfl; rw [n1] at ho; cases ho
        rw [upd_other _ _ e]; exact growC_le hg o x (hHG o x ho)) fun b hb => hHG.none hb
      obtain ⟨M2, hg2, hl2⟩ := growC_le2 hg1 hle
      exact SetR.dropTo hl2 (growC_finA hg2 hq)
end Go.Proofs.YtanchgkiomfhhaaDoor.Fw

/- The looked-up code of one function, and that it is: by a program (wip/tools/ac.py); Lean checks it. -/
namespace Go.Proofs.YtanchgkiomfhhaaDoor.Fw
open Go
set_option maxRecDepth 100000
def ac22 : ACode := (.seq (.reg [⟨(some 0), none, (.mov (.k (.bool false)))⟩] []) (.seq (.seq (.reg [⟨(some 19), none, (.call (.k (.fn (.func 94) [] [])) [])⟩, ⟨(some 20), none, (.un .not (.t 19))⟩] [20]) (.cond (.t 20) (.seq (.reg [⟨(some 0), none, (.mov (.k (.bool false)))⟩] [0]) .ret) .skip)) (.seq (.reg [⟨(some 1), none, (.mov (.k (.fn (.func 130) [] [])))⟩] [1]) (.seq (.reg [⟨(some 22), none, (.call (.k (.fn (.func 58) [] [])) [(.k (.int .i64 ((1 : Nat) : Int)))])⟩, ⟨(some 23), none, (.call (.k (.fn (.func 58) [] [])) [(.k (.int .i64 ((0 : Nat) : Int)))])⟩, ⟨(some 24), none, (.call (.k (.fn (.func 126) [] [])) [(.t 22), (.t 23)])⟩, ⟨(some 21), none, (.mov (.t 24))⟩, ⟨(some 25), none, (.ext (.t 21) 0)⟩, ⟨(some 26), none, (.ext (.t 21) 1)⟩, ⟨(some 2), none, (.alloc 121 0 [(.bool false), (.seq 0 [] true), (.bool false), (.seq 0 [] true)])⟩, ⟨none, none, (.store 4 (.t 2) (.t 25))⟩, ⟨(some 3), none, (.mov (.t 26))⟩] [1, 3]) (.seq (.reg [⟨(some 28), none, (.call (.k (.fn (.func 58) [] [])) [(.k (.int .i64 ((0 : Nat) : Int)))])⟩, ⟨(some 29), none, (.call (.k (.fn (.func 58) [] [])) [(.k (.int .i64 (-5)))])⟩, ⟨(some 30), none, (.call (.k (.fn (.func 126) [] [])) [(.t 28), (.t 29)])⟩, ⟨(some 27), none, (.mov (.t 30))⟩, ⟨(some 31), none, (.ext (.t 27) 0)⟩, ⟨(some 32), none, (.ext (.t 27) 1)⟩, ⟨(some 4), none, (.alloc 121 0 [(.bool false), (.seq 0 [] true), (.bool false), (.seq 0 [] true)])⟩, ⟨none, none, (.store 4 (.t 4) (.t 31))⟩, ⟨(some 5), none, (.mov (.t 32))⟩] [1, 3, 4, 5]) (.seq (.reg [⟨(some 34), none, (.mov (.t 1))⟩, ⟨(some 35), none, (.call (.t 34) [(.k (.str ⟨#[49, 47, 50]⟩))])⟩, ⟨(some 36), none, (.mov (.t 1))⟩, ⟨(some 37), none, (.call (.t 36) [(.k (.str ⟨#[48]⟩))])⟩, ⟨(some 38), none, (.call (.k (.fn (.func 101) [] [])) [(.t 35), (.t 37)])⟩, ⟨(some 33), none, (.mov (.t 38))⟩, ⟨(some 39), none, (.ext (.t 33) 0)⟩, ⟨(some 40), none, (.ext (.t 33) 1)⟩, ⟨(some 6), none, (.alloc 121 0 [(.bool false), (.seq 0 [] true), (.bool false), (.seq 0 [] true)])⟩, ⟨none, none, (.store 4 (.t 6) (.t 39))⟩, ⟨(some 7), none, (.mov (.t 40))⟩] [1, 3, 4, 5, 7]) (.seq (.reg [⟨(some 42), none, (.mov (.t 1))⟩, ⟨(some 43), none, (.call (.t 42) [(.k (.str ⟨#[49, 47, 50]⟩))])⟩, ⟨(some 44), none, (.mov (.t 1))⟩, ⟨(some 45), none, (.call (.t 44) [(.k (.str ⟨#[49, 47, 51]⟩))])⟩, ⟨(some 46), none, (.call (.k (.fn (.func 101) [] [])) [(.t 43), (.t 45)])⟩, ⟨(some 41), none, (.mov (.t 46))⟩, ⟨(some 47), none, (.ext (.t 41) 0)⟩, ⟨(some 48), none, (.ext (.t 41) 1)⟩, ⟨(some 8), none, (.alloc 121 0 [(.bool false), (.seq 0 [] true), (.bool false), (.seq 0 [] true)])⟩, ⟨none, none, (.store 4 (.t 8) (.t 47))⟩, ⟨(some 9), none, (.mov (.t 48))⟩] [1, 3, 4, 5, 7, 8, 9]) (.seq (.seq (.reg [⟨(some 49), none, (.mov (.t 3))⟩, ⟨(some 50), none, (.bin .neq (.t 49) (.k (.int .i64 ((2 : Nat) : Int))))⟩, ⟨(some 51), none, (.mov (.t 50))⟩, ⟨(some 52), (some (51, false)), (.mov (.t 5))⟩, ⟨(some 53), (some (51, false)), (.bin .neq (.t 52) (.k (.int .i64 ((0 : Nat) : Int))))⟩, ⟨(some 54), none, (.pick (.t 51) (.k (.bool true)) (.t 53))⟩, ⟨(some 55), none, (.mov (.t 54))⟩, ⟨(some 56), (some (55, false)), (.load (some 4) (.t 4))⟩, ⟨(some 57), (some (55, false)), (.call (.k (.fn (.func 128) [] [])) [(.t 56)])⟩, ⟨(some 58), (some (55, false)), (.bin .neq (.t 57) (.k (.str ⟨#[48]⟩)))⟩, ⟨(some 59), none, (.pick (.t 55) (.k (.bool true)) (.t 58))⟩, ⟨(some 60), none, (.mov (.t 59))⟩, ⟨(some 61), (some (60, false)), (.mov (.t 7))⟩, ⟨(some 62), (some (60, false)), (.bin .neq (.t 61) (.k (.int .i64 ((2 : Nat) : Int))))⟩, ⟨(some 63), none, (.pick (.t 60) (.k (.bool true)) (.t 62))⟩, ⟨(some 64), none, (.mov (.t 63))⟩, ⟨(some 65), (some (64, false)), (.mov (.t 9))⟩, ⟨(some 66), (some (64, false)), (.bin .neq (.t 65) (.k (.int .i64 ((0 : Nat) : Int))))⟩, ⟨(some 67), none, (.pick (.t 64) (.k (.bool true)) (.t 66))⟩, ⟨(some 68), none, (.mov (.t 67))⟩, ⟨(some 69), (some (68, false)), (.load (some 4) (.t 8))⟩, ⟨(some 70), (some (68, false)), (.call (.k (.fn (.func 128) [] [])) [(.t 69)])⟩, ⟨(some 71), (some (68, false)), (.bin .neq (.t 70) (.k (.str ⟨#[51, 47, 50]⟩)))⟩, ⟨(some 72), none, (.pick (.t 68) (.k (.bool true)) (.t 71))⟩] [1, 4, 72]) (.cond (.t 72) (.seq (.reg [⟨(some 0), none, (.mov (.k (.bool false)))⟩] [0]) .ret) .skip)) (.seq (.reg [⟨(some 10), none, (.alloc 121 0 [(.bool false), (.seq 0 [] true), (.bool false), (.seq 0 [] true)])⟩] [1, 4, 10]) (.seq (.seq (.draw [⟨(some 73), none, (.load (some 4) (.t 10))⟩, ⟨(some 74), none, (.call (.k (.fn (.func 128) [] [])) [(.t 73)])⟩, ⟨(some 75), none, (.bin .neq (.t 74) (.k (.str ⟨#[48]⟩)))⟩, ⟨(some 76), none, (.mov (.t 75))⟩, ⟨(some 77), (some (76, false)), (.load (some 4) (.t 10))⟩, ⟨(some 78), (some (76, false)), (.call (.k (.fn (.func 125) [] [])) [(.t 77)])⟩, ⟨(some 79), (some (76, false)), (.call (.k (.fn (.func 28) [] [])) [(.t 78)])⟩, ⟨(some 80), (some (76, false)), (.bin .neq (.t 79) (.k (.str ⟨#[49]⟩)))⟩, ⟨(some 81), none, (.pick (.t 76) (.k (.bool true)) (.t 80))⟩, ⟨(some 82), none, (.mov (.t 81))⟩, ⟨(some 83), (some (82, false)), (.load (some 4) (.t 10))⟩, ⟨(some 84), (some (82, false)), (.call (.k (.fn (.func 106) [] [])) [(.t 83)])⟩, ⟨(some 85), (some (82, false)), (.un .not (.t 84))⟩, ⟨(some 86), none, (.pick (.t 82) (.k (.bool true)) (.t 85))⟩, ⟨(some 87), none, (.mov (.t 86))⟩, ⟨(some 88), (some (87, false)), (.load (some 4) (.t 10))⟩, ⟨(some 89), (some (87, false)), (.call (.k (.fn (.func 102) [] [])) [(.t 88)])⟩, ⟨(some 90), (some (87, false)), (.bin .neq (.t 89) (.k (.int .i64 ((0 : Nat) : Int))))⟩, ⟨(some 91), none, (.pick (.t 87) (.k (.bool true)) (.t 90))⟩, ⟨(some 92), none, (.mov (.t 91))⟩, ⟨(some 93), (some (92, false)), (.load (some 4) (.t 10))⟩, ⟨(some 94), (some (92, false)), (.mov (.t 1))⟩, ⟨(some 95), (some (92, false)), (.call (.t 94) [(.k (.str ⟨#[49, 47, 50]⟩))])⟩, ⟨(some 96), (some (92, false)), (.call (.k (.fn (.func 97) [] [])) [(.t 93), (.t 95)])⟩, ⟨(some 97), (some (92, false)), (.call (.k (.fn (.func 128) [] [])) [(.t 96)])⟩, ⟨(some 98), (some (92, false)), (.bin .neq (.t 97) (.k (.str ⟨#[49, 47, 50]⟩)))⟩, ⟨(some 99), none, (.pick (.t 92) (.k (.bool true)) (.t 98))⟩, ⟨(some 100), none, (.mov (.t 99))⟩, ⟨(some 101), (some (100, false)), (.load (some 4) (.t 10))⟩, ⟨(some 102), (some (100, false)), (.mov (.t 1))⟩, ⟨(some 103), (some (100, false)), (.call (.t 102) [(.k (.str ⟨#[49, 47, 50]⟩))])⟩, ⟨(some 104), (some (100, false)), (.call (.k (.fn (.func 98) [] [])) [(.t 101), (.t 103)])⟩, ⟨(some 105), (some (100, false)), (.call (.k (.fn (.func 128) [] [])) [(.t 104)])⟩, ⟨(some 106), (some (100, false)), (.bin .neq (.t 105) (.k (.str ⟨#[48]⟩)))⟩, ⟨(some 107), none, (.pick (.t 100) (.k (.bool true)) (.t 106))⟩, ⟨(some 108), none, (.mov (.t 107))⟩, ⟨(some 109), (some (108, false)), (.load (some 4) (.t 10))⟩, ⟨(some 110), (some (108, false)), (.load (some 4) (.t 4))⟩] [⟨(some 111), (some (108, false)), (.call (.k (.fn (.func 103) [] [])) [(.t 109), (.t 110)])⟩, ⟨(some 112), (some (108, false)), (.bin .neq (.t 111) (.k (.int .i64 ((0 : Nat) : Int))))⟩, ⟨(some 113), none, (.pick (.t 108) (.k (.bool true)) (.t 112))⟩, ⟨(some 114), none, (.mov (.t 113))⟩, ⟨(some 115), (some (114, false)), (.load (some 4) (.t 10))⟩, ⟨(some 116), (some (114, false)), (.call (.k (.fn (.func 100) [] [])) [(.t 115)])⟩, ⟨(some 117), (some (114, false)), (.call (.k (.fn (.func 128) [] [])) [(.t 116)])⟩, ⟨(some 118), (some (114, false)), (.bin .neq (.t 117) (.k (.str ⟨#[48]⟩)))⟩, ⟨(some 119), none, (.pick (.t 114) (.k (.bool true)) (.t 118))⟩] [0, 0, 0, 0, 0, 0, 0, 0, 0, 0, 0, 0, 0, 0, 0, 0, 0, 0, 0, 0, 0, 1048576, 1048576, 0, 0, 0, 0, 0, 0, 268435456, 268435456, 0, 0, 0, 0, 0, 0, 68719476736] [1, 119]) (.cond (.t 119) (.seq (.reg [⟨(some 0), none, (.mov (.k (.bool false)))⟩] [0]) .ret) .skip)) (.seq (.seq (.reg [⟨(some 120), none, (.mov (.t 1))⟩, ⟨(some 121), none, (.call (.t 120) [(.k (.str ⟨#[49, 47, 50]⟩))])⟩, ⟨(some 122), none, (.mov (.t 1))⟩, ⟨(some 123), none, (.call (.t 122) [(.k (.str ⟨#[49, 47, 51]⟩))])⟩, ⟨(some 124), none, (.call (.k (.fn (.func 97) [] [])) [(.t 121), (.t 123)])⟩, ⟨(some 125), none, (.call (.k (.fn (.func 128) [] [])) [(.t 124)])⟩, ⟨(some 126), none, (.bin .neq (.t 125) (.k (.str ⟨#[53, 47, 54]⟩)))⟩, ⟨(some 127), none, (.mov (.t 126))⟩, ⟨(some 128), (some (127, false)), (.mov (.t 1))⟩, ⟨(some 129), (some (127, false)), (.call (.t 128) [(.k (.str ⟨#[49, 47, 50]⟩))])⟩, ⟨(some 130), (some (127, false)), (.mov (.t 1))⟩, ⟨(some 131), (some (127, false)), (.call (.t 130) [(.k (.str ⟨#[49, 47, 51]⟩))])⟩, ⟨(some 132), (some (127, false)), (.call (.k (.fn (.func 99) [] [])) [(.t 129), (.t 131)])⟩, ⟨(some 133), (some (127, false)), (.call (.k (.fn (.func 128) [] [])) [(.t 132)])⟩, ⟨(some 134), (some (127, false)), (.bin .neq (.t 133) (.k (.str ⟨#[49, 47, 54]⟩)))⟩, ⟨(some 135), none, (.pick (.t 127) (.k (.bool true)) (.t 134))⟩, ⟨(some 136), none, (.mov (.t 135))⟩, ⟨(some 137), (some (136, false)), (.mov (.t 1))⟩, ⟨(some 138), (some (136, false)), (.call (.t 137) [(.k (.str ⟨#[49, 47, 50]⟩))])⟩, ⟨(some 139), (some (136, false)), (.mov (.t 1))⟩, ⟨(some 140), (some (136, false)), (.call (.t 139) [(.k (.str ⟨#[49, 47, 51]⟩))])⟩, ⟨(some 141), (some (136, false)), (.call (.k (.fn (.func 98) [] [])) [(.t 138), (.t 140)])⟩, ⟨(some 142), (some (136, false)), (.call (.k (.fn (.func 128) [] [])) [(.t 141)])⟩, ⟨(some 143), (some (136, false)), (.bin .neq (.t 142) (.k (.str ⟨#[49, 47, 54]⟩)))⟩, ⟨(some 144), none, (.pick (.t 136) (.k (.bool true)) (.t 143))⟩, ⟨(some 145), none, (.mov (.t 144))⟩, ⟨(some 146), (some (145, false)), (.mov (.t 1))⟩, ⟨(some 147), (some (145, false)), (.call (.t 146) [(.k (.str ⟨#[49, 47, 50]⟩))])⟩, ⟨(some 148), (some (145, false)), (.mov (.t 1))⟩, ⟨(some 149), (some (145, false)), (.call (.t 148) [(.k (.str ⟨#[49, 47, 51]⟩))])⟩, ⟨(some 150), (some (145, false)), (.call (.k (.fn (.func 103) [] [])) [(.t 147), (.t 149)])⟩, ⟨(some 151), (some (145, false)), (.bin .neq (.t 150) (.k (.int .i64 ((1 : Nat) : Int))))⟩, ⟨(some 152), none, (.pick (.t 145) (.k (.bool true)) (.t 151))⟩] [1, 152]) (.cond (.t 152) (.seq (.reg [⟨(some 0), none, (.mov (.k (.bool false)))⟩] [0]) .ret) .skip)) (.seq (.reg [⟨(some 154), none, (.mov (.t 1))⟩, ⟨(some 155), none, (.call (.t 154) [(.k (.str ⟨#[49, 47, 50]⟩))])⟩, ⟨(some 156), none, (.mov (.t 1))⟩, ⟨(some 157), none, (.call (.t 156) [(.k (.str ⟨#[45, 50, 47, 51]⟩))])⟩, ⟨(some 158), none, (.mov (.t 1))⟩, ⟨(some 159), none, (.call (.t 158) [(.k (.str ⟨#[52]⟩))])⟩, ⟨(some 160), none, (.bsl [(.bool false), (.seq 0 [] true), (.bool false), (.seq 0 [] true)] 3 4 [(0, (4, (.t 155))), (4, (4, (.t 157))), (8, (4, (.t 159)))])⟩, ⟨(some 161), none, (.call (.k (.fn (.func 109) [] [])) [(.t 160)])⟩, ⟨(some 153), none, (.mov (.t 161))⟩, ⟨(some 162), none, (.ext (.t 153) 0)⟩, ⟨(some 163), none, (.ext (.t 153) 1)⟩, ⟨(some 12), none, (.alloc 28 0 [(.bool false), (.seq 0 [] true)])⟩, ⟨(some 11), none, (.mov (.t 162))⟩, ⟨none, none, (.store 2 (.t 12) (.t 163))⟩] [1, 11, 12]) (.seq (.reg [⟨(some 165), none, (.call (.k (.fn (.func 109) [] [])) [(.k (.seq 0 [] true))])⟩, ⟨(some 164), none, (.mov (.t 165))⟩, ⟨(some 166), none, (.ext (.t 164) 0)⟩, ⟨(some 167), none, (.ext (.t 164) 1)⟩, ⟨(some 14), none, (.alloc 28 0 [(.bool false), (.seq 0 [] true)])⟩, ⟨(some 13), none, (.mov (.t 166))⟩, ⟨none, none, (.store 2 (.t 14) (.t 167))⟩] [1, 11, 12, 13, 14]) (.seq (.seq (.reg [⟨(some 168), none, (.mov (.t 11))⟩, ⟨(some 169), none, (.len false (.t 168))⟩, ⟨(some 170), none, (.bin .neq (.t 169) (.k (.int .i64 ((3 : Nat) : Int))))⟩, ⟨(some 171), none, (.mov (.t 170))⟩, ⟨(some 172), (some (171, false)), (.mov (.t 11))⟩, ⟨(some 173), (some (171, false)), (.idxA 2 (.t 172) (.k (.int .i64 ((0 : Nat) : Int))))⟩, ⟨(some 174), (some (171, false)), (.load (some 2) (.t 173))⟩, ⟨(some 175), (some (171, false)), (.call (.k (.fn (.func 28) [] [])) [(.t 174)])⟩, ⟨(some 176), (some (171, false)), (.bin .neq (.t 175) (.k (.str ⟨#[51]⟩)))⟩, ⟨(some 177), none, (.pick (.t 171) (.k (.bool true)) (.t 176))⟩, ⟨(some 178), none, (.mov (.t 177))⟩, ⟨(some 179), (some (178, false)), (.mov (.t 11))⟩, ⟨(some 180), (some (178, false)), (.idxA 2 (.t 179) (.k (.int .i64 ((1 : Nat) : Int))))⟩, ⟨(some 181), (some (178, false)), (.load (some 2) (.t 180))⟩, ⟨(some 182), (some (178, false)), (.call (.k (.fn (.func 28) [] [])) [(.t 181)])⟩, ⟨(some 183), (some (178, false)), (.bin .neq (.t 182) (.k (.str ⟨#[45, 52]⟩)))⟩, ⟨(some 184), none, (.pick (.t 178) (.k (.bool true)) (.t 183))⟩, ⟨(some 185), none, (.mov (.t 184))⟩, ⟨(some 186), (some (185, false)), (.mov (.t 11))⟩, ⟨(some 187), (some (185, false)), (.idxA 2 (.t 186) (.k (.int .i64 ((2 : Nat) : Int))))⟩, ⟨(some 188), (some (185, false)), (.load (some 2) (.t 187))⟩, ⟨(some 189), (some (185, false)), (.call (.k (.fn (.func 28) [] [])) [(.t 188)])⟩, ⟨(some 190), (some (185, false)), (.bin .neq (.t 189) (.k (.str ⟨#[50, 52]⟩)))⟩, ⟨(some 191), none, (.pick (.t 185) (.k (.bool true)) (.t 190))⟩, ⟨(some 192), none, (.mov (.t 191))⟩, ⟨(some 193), (some (192, false)), (.load (some 2) (.t 12))⟩, ⟨(some 194), (some (192, false)), (.call (.k (.fn (.func 28) [] [])) [(.t 193)])⟩, ⟨(some 195), (some (192, false)), (.bin .neq (.t 194) (.k (.str ⟨#[54]⟩)))⟩, ⟨(some 196), none, (.pick (.t 192) (.k (.bool true)) (.t 195))⟩, ⟨(some 197), none, (.mov (.t 196))⟩, ⟨(some 198), (some (197, false)), (.mov (.t 13))⟩, ⟨(some 199), (some (197, false)), (.len false (.t 198))⟩, ⟨(some 200), (some (197, false)), (.bin .neq (.t 199) (.k (.int .i64 ((0 : Nat) : Int))))⟩, ⟨(some 201), none, (.pick (.t 197) (.k (.bool true)) (.t 200))⟩, ⟨(some 202), none, (.mov (.t 201))⟩, ⟨(some 203), (some (202, false)), (.load (some 2) (.t 14))⟩, ⟨(some 204), (some (202, false)), (.call (.k (.fn (.func 28) [] [])) [(.t 203)])⟩, ⟨(some 205), (some (202, false)), (.bin .neq (.t 204) (.k (.str ⟨#[49]⟩)))⟩, ⟨(some 206), none, (.pick (.t 202) (.k (.bool true)) (.t 205))⟩, ⟨(some 207), none, (.mov (.t 206))⟩, ⟨(some 208), (some (207, false)), (.mov (.t 1))⟩, ⟨(some 209), (some (207, false)), (.call (.t 208) [(.k (.str ⟨#[49, 47, 50]⟩))])⟩, ⟨(some 210), (some (207, false)), (.mov (.t 1))⟩, ⟨(some 211), (some (207, false)), (.call (.t 210) [(.k (.str ⟨#[49, 47, 51]⟩))])⟩, ⟨(some 212), (some (207, false)), (.mov (.t 1))⟩, ⟨(some 213), (some (207, false)), (.call (.t 212) [(.k (.str ⟨#[49, 47, 54]⟩))])⟩, ⟨(some 214), (some (207, false)), (.bsl [(.bool false), (.seq 0 [] true), (.bool false), (.seq 0 [] true)] 3 4 [(0, (4, (.t 209))), (4, (4, (.t 211))), (8, (4, (.t 213)))])⟩, ⟨(some 215), (some (207, false)), (.call (.k (.fn (.func 112) [] [])) [(.t 214)])⟩, ⟨(some 216), (some (207, false)), (.call (.k (.fn (.func 128) [] [])) [(.t 215)])⟩, ⟨(some 217), (some (207, false)), (.bin .neq (.t 216) (.k (.str ⟨#[49]⟩)))⟩, ⟨(some 218), none, (.pick (.t 207) (.k (.bool true)) (.t 217))⟩, ⟨(some 219), none, (.mov (.t 218))⟩, ⟨(some 220), (some (219, false)), (.call (.k (.fn (.func 112) [] [])) [(.k (.seq 0 [] true))])⟩, ⟨(some 221), (some (219, false)), (.call (.k (.fn (.func 128) [] [])) [(.t 220)])⟩, ⟨(some 222), (some (219, false)), (.bin .neq (.t 221) (.k (.str ⟨#[48]⟩)))⟩, ⟨(some 223), none, (.pick (.t 219) (.k (.bool true)) (.t 222))⟩] [1, 223]) (.cond (.t 223) (.seq (.reg [⟨(some 0), none, (.mov (.k (.bool false)))⟩] [0]) .ret) .skip)) (.seq (.seq (.reg [⟨(some 224), none, (.build [(.str ⟨#[]⟩), (.int .i64 ((0 : Nat) : Int))] [(0, (1, (.k (.str ⟨#[52, 47, 54]⟩)))), (1, (1, (.k (.int .i64 ((3 : Nat) : Int)))))])⟩, ⟨(some 225), none, (.build [(.str ⟨#[]⟩), (.int .i64 ((0 : Nat) : Int))] [(0, (1, (.k (.str ⟨#[51, 47, 49]⟩)))), (1, (1, (.k (.int .i64 ((3 : Nat) : Int)))))])⟩, ⟨(some 226), none, (.build [(.str ⟨#[]⟩), (.int .i64 ((0 : Nat) : Int))] [(0, (1, (.k (.str ⟨#[48, 47, 53]⟩)))), (1, (1, (.k (.int .i64 ((3 : Nat) : Int)))))])⟩, ⟨(some 227), none, (.build [(.str ⟨#[]⟩), (.int .i64 ((0 : Nat) : Int))] [(0, (1, (.k (.str ⟨#[]⟩)))), (1, (1, (.k (.int .i64 ((0 : Nat) : Int)))))])⟩, ⟨(some 228), none, (.build [(.str ⟨#[]⟩), (.int .i64 ((0 : Nat) : Int))] [(0, (1, (.k (.str ⟨#[45]⟩)))), (1, (1, (.k (.int .i64 ((1 : Nat) : Int)))))])⟩, ⟨(some 229), none, (.build [(.str ⟨#[]⟩), (.int .i64 ((0 : Nat) : Int))] [(0, (1, (.k (.str ⟨#[49, 47]⟩)))), (1, (1, (.k (.int .i64 ((2 : Nat) : Int)))))])⟩, ⟨(some 230), none, (.build [(.str ⟨#[]⟩), (.int .i64 ((0 : Nat) : Int))] [(0, (1, (.k (.str ⟨#[49, 47, 45, 50]⟩)))), (1, (1, (.k (.int .i64 ((2 : Nat) : Int)))))])⟩, ⟨(some 231), none, (.build [(.str ⟨#[]⟩), (.int .i64 ((0 : Nat) : Int))] [(0, (1, (.k (.str ⟨#[49, 47, 48, 50]⟩)))), (1, (1, (.k (.int .i64 ((2 : Nat) : Int)))))])⟩, ⟨(some 232), none, (.build [(.str ⟨#[]⟩), (.int .i64 ((0 : Nat) : Int))] [(0, (1, (.k (.str ⟨#[45, 48]⟩)))), (1, (1, (.k (.int .i64 ((1 : Nat) : Int)))))])⟩, ⟨(some 233), none, (.build [(.str ⟨#[]⟩), (.int .i64 ((0 : Nat) : Int))] [(0, (1, (.k (.str ⟨#[48, 49]⟩)))), (1, (1, (.k (.int .i64 ((1 : Nat) : Int)))))])⟩, ⟨(some 234), none, (.build [(.str ⟨#[]⟩), (.int .i64 ((0 : Nat) : Int))] [(0, (1, (.k (.str ⟨#[49, 47, 50, 120]⟩)))), (1, (1, (.k (.int .i64 ((3 : Nat) : Int)))))])⟩, ⟨(some 235), none, (.bsl [(.str ⟨#[]⟩), (.int .i64 ((0 : Nat) : Int))] 11 2 [(0, (2, (.t 224))), (2, (2, (.t 225))), (4, (2, (.t 226))), (6, (2, (.t 227))), (8, (2, (.t 228))), (10, (2, (.t 229))), (12, (2, (.t 230))), (14, (2, (.t 231))), (16, (2, (.t 232))), (18, (2, (.t 233))), (20, (2, (.t 234)))])⟩, ⟨(some 236), none, (.len false (.t 235))⟩, ⟨(some 237), none, (.mov (.k (.int .i64 ((0 : Nat) : Int))))⟩] [1, 235, 236, 237]) (.block 0 (.loop (.seq (.reg [⟨(some 238), none, (.bin .lss (.t 237) (.t 236))⟩] [1, 235, 236, 237, 238]) (.seq (.cond (.t 238) .skip (.exit 0)) (.seq (.block 1 (.seq (.reg [⟨(some 239), none, (.idxA 2 (.t 235) (.t 237))⟩, ⟨(some 240), none, (.load (some 2) (.t 239))⟩, ⟨(some 16), none, (.alloc 164 0 [(.str ⟨#[]⟩), (.int .i64 ((0 : Nat) : Int))])⟩, ⟨none, none, (.store 2 (.t 16) (.t 240))⟩] [1, 16, 235, 236, 237]) (.seq (.reg [⟨(some 242), none, (.fldA 0 (.t 16))⟩, ⟨(some 243), none, (.load none (.t 242))⟩, ⟨(some 244), none, (.call (.k (.fn (.func 127) [] [])) [(.t 243)])⟩, ⟨(some 241), none, (.mov (.t 244))⟩, ⟨(some 245), none, (.ext (.t 241) 0)⟩, ⟨(some 246), none, (.ext (.t 241) 1)⟩, ⟨(some 17), none, (.alloc 121 0 [(.bool false), (.seq 0 [] true), (.bool false), (.seq 0 [] true)])⟩, ⟨(some 18), none, (.alloc 105 0 [(.int .i64 ((0 : Nat) : Int)), (.int .i64 ((0 : Nat) : Int))])⟩, ⟨none, none, (.store 4 (.t 17) (.t 245))⟩, ⟨none, none, (.store 2 (.t 18) (.t 246))⟩] [1, 16, 17, 18, 235, 236, 237]) (.seq (.reg [⟨(some 247), none, (.load (some 4) (.t 17))⟩, ⟨(some 248), none, (.call (.k (.fn (.func 128) [] [])) [(.t 247)])⟩, ⟨(some 249), none, (.bin .neq (.t 248) (.k (.str ⟨#[48]⟩)))⟩, ⟨(some 250), none, (.mov (.t 249))⟩, ⟨(some 251), (some (250, false)), (.load (some 2) (.t 18))⟩, ⟨(some 252), (some (250, false)), (.fldA 1 (.t 16))⟩, ⟨(some 253), (some (250, false)), (.load none (.t 252))⟩, ⟨(some 254), (some (250, false)), (.build [(.int .i64 ((0 : Nat) : Int)), (.int .i64 ((0 : Nat) : Int))] [(0, (1, (.k (.int .i64 ((6 : Nat) : Int))))), (1, (1, (.t 253)))])⟩, ⟨(some 255), (some (250, false)), (.prim (.aeq true) [(.t 251), (.t 254)])⟩, ⟨(some 256), none, (.pick (.t 250) (.k (.bool true)) (.t 255))⟩] [1, 235, 236, 237, 256]) (.cond (.t 256) (.seq (.reg [⟨(some 0), none, (.mov (.k (.bool false)))⟩] [0]) .ret) .skip))))) (.reg [⟨(some 257), none, (.bin .add (.t 237) (.k (.int .i64 ((1 : Nat) : Int))))⟩, ⟨(some 237), none, (.mov (.t 257))⟩] [1, 235, 236, 237]))))))) (.seq (.reg [⟨(some 258), none, (.mov (.t 1))⟩, ⟨(some 259), none, (.call (.t 258) [(.k (.str ⟨#[45, 51, 47, 50]⟩))])⟩, ⟨(some 260), none, (.call (.k (.fn (.func 128) [] [])) [(.t 259)])⟩, ⟨(some 261), none, (.bin .eql (.t 260) (.k (.str ⟨#[45, 51, 47, 50]⟩)))⟩, ⟨(some 262), none, (.mov (.t 261))⟩, ⟨(some 263), (some (262, true)), (.mov (.t 1))⟩, ⟨(some 264), (some (262, true)), (.call (.t 263) [(.k (.str ⟨#[52]⟩))])⟩, ⟨(some 265), (some (262, true)), (.call (.k (.fn (.func 128) [] [])) [(.t 264)])⟩, ⟨(some 266), (some (262, true)), (.bin .eql (.t 265) (.k (.str ⟨#[52]⟩)))⟩, ⟨(some 267), none, (.pick (.t 262) (.t 266) (.k (.bool false)))⟩, ⟨(some 0), none, (.mov (.t 267))⟩] [0]) .ret))))))))))))))))
def rs22 : List RV := [(.t 0)]
theorem co22 : compFn Go.Proofs.Tryd.prog Go.Proofs.Tryd.f22 pl22 = some (ac22, rs22) := by kernel_rfl
theorem enter22 {args : List AV} {H : AHeap} {Q : AV → AHeap → Prop} (hn : args.length ≤ 268) (h : W Go.Proofs.Tryd.prog ac22 (retN rs22 Q) ⟨[], initE args 0, H⟩) : Run Go.Proofs.Tryd.prog 22 args H Q := Run_fn2 mixed Go.Proofs.Tryd.func22 (by kernel_rfl) co22 (n := 268) (by kernel_rfl) hn h
end Go.Proofs.YtanchgkiomfhhaaDoor.Fw
