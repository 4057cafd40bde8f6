/- What the reference computes on rows of one's own: comparing, taking away, striking high noughts. -/
import Derived.Test.YtipbcjnniamcgaaDoorIo
import Derived.Test.YtipbcjnniamcgaaDoorFwW
namespace Go.Proofs.YtipbcjnniamcgaaDoor.Fw
set_option linter.unusedSimpArgs false
set_option linter.unusedVariables false
open Go Go.Proofs.YtipbcjnniamcgaaDoor.Ma
set_option maxRecDepth 20000

theorem cells_o2 {b : Bool} {bb L off n : Nat} {t : Bool} : (AV.agg [.bool b, .own bb L off n t]).cells = some [.bool b, .own bb L off n t] := id rfl
theorem size_own {H : AHeap} {Q : AV → AHeap → Prop} {bb ty L : Nat} (m n : Nat) (ta tb : Bool) (hH : H bb = some (.row ty 1 (U (digs 65536 m)))) (hL : (digs 65536 m).length = L) (hq : Q (.int .i64 (cmpZ m n)) H) (hm : (digs 65536 m).length ≤ 1099511627776) (hn : (digs 65536 n).length ≤ 1099511627776) : Run Tryd.prog 115 [.own bb L 0 L ta, LS (digs 65536 n) tb] H Q := by
  subst hL
  have hx := lim_digs (B := 65536) (by omega) m
  have hy := lim_digs (B := 65536) (by omega) n
  have vx := val_digs (B := 65536) (by omega) m
  have vy := val_digs (B := 65536) (by omega) n
  have lt1 := digs_lt_len (B := 65536) (a := m) (b := n) (by omega)
  have lt2 := digs_lt_len (B := 65536) (a := n) (b := m) (by omega)
  generalize digs 65536 m = x at *
  generalize digs 65536 n = y at *
  have less : m < n → SetR Q (.int .i64 (-1)) H := fun h => by
    have : cmpZ m n = -1 := by simp [cmpZ, h]
    rw [← this]; exact SetR.now hq
  have more : n < m → SetR Q (.int .i64 ((1 : Nat) : Int)) H := fun h => by
    have : cmpZ m n = ((1 : Nat) : Int) := by simp [cmpZ, h, Nat.not_lt_of_lt h]
    rw [← this]; exact SetR.now hq
  refine enter115 (by simp) ?_
  by_cases c0 : x.length = y.length
  · have c0' := c0
    simp (disch := first | assumption | (apply Ap.symm; assumption) | omega | decide | (simp only [U_len, List.length_append, List.length_replicate, List.length_cons, List.length_nil, List.length_set] <;> omega) | fail) only [ac115, c0, ↓Xa, Xb, Xc, ↓reduceIte, Nat.reduceLT, Nat.reduceEqDiff, Nat.reduceBEq, Nat.reduceLeDiff, Nat.reduceAdd, Nat.reduceMul]
    refine W_loop (fun k : Nat => ⟨[], [(0, .own bb y.length 0 y.length ta), (1, LS y tb), (5, .int .i64 (dn k))], H⟩) (fun k => k ≤ x.length ∧ x.drop k = y.drop k) id y.length (Settle.now rfl) ⟨by omega, by rw [List.drop_of_length_le (by omega), List.drop_of_length_le (by omega)]⟩ ?_
    rintro k ⟨hk, hd⟩
    cases k with
    | zero =>
      simp (disch := first | assumption | (apply Ap.symm; assumption) | omega | decide | (simp only [U_len, List.length_append, List.length_replicate, List.length_cons, List.length_nil, List.length_set] <;> omega) | fail) only [hH, ↓Xa, Xb, Xc, ↓reduceIte, Nat.reduceLT, Nat.reduceEqDiff, Nat.reduceBEq, Nat.reduceLeDiff, Nat.reduceAdd, Nat.reduceMul]
      refine Settle.now ?_
      simp (disch := first | assumption | (apply Ap.symm; assumption) | omega | decide | (simp only [U_len, List.length_append, List.length_replicate, List.length_cons, List.length_nil, List.length_set] <;> omega) | fail) only [hH, rs115, ↓Xa, Xb, Xc, ↓reduceIte, Nat.reduceLT, Nat.reduceEqDiff, Nat.reduceBEq, Nat.reduceLeDiff, Nat.reduceAdd, Nat.reduceMul]
      have e : m = n := by rw [← vx, ← vy]; rw [List.drop_zero, List.drop_zero] at hd; rw [hd]
      have : cmpZ m n = ((0 : Nat) : Int) := by simp [cmpZ, e]
      rw [← this]; exact SetR.now hq
    | succ k =>
      by_cases d1 : x.getD k 0 < y.getD k 0
      · simp (disch := first | assumption | (apply Ap.symm; assumption) | omega | decide | (simp only [U_len, List.length_append, List.length_replicate, List.length_cons, List.length_nil, List.length_set] <;> omega) | fail) only [hH, d1, rs115, ↓Xa, Xb, Xc, ↓reduceIte, Nat.reduceLT, Nat.reduceEqDiff, Nat.reduceBEq, Nat.reduceLeDiff, Nat.reduceAdd, Nat.reduceMul]
        exact less (by rw [← vx, ← vy]; exact val_lt_high hx (by omega) k (by omega) c0 hd d1)
      by_cases d2 : y.getD k 0 < x.getD k 0
      · simp (disch := first | assumption | (apply Ap.symm; assumption) | omega | decide | (simp only [U_len, List.length_append, List.length_replicate, List.length_cons, List.length_nil, List.length_set] <;> omega) | fail) only [hH, d1, d2, rs115, ↓Xa, Xb, Xc, ↓reduceIte, Nat.reduceLT, Nat.reduceEqDiff, Nat.reduceBEq, Nat.reduceLeDiff, Nat.reduceAdd, Nat.reduceMul]
        exact more (by rw [← vx, ← vy]; exact val_lt_high hy (by omega) k (by omega) c0.symm hd.symm d2)
      simp (disch := first | assumption | (apply Ap.symm; assumption) | omega | decide | (simp only [U_len, List.length_append, List.length_replicate, List.length_cons, List.length_nil, List.length_set] <;> omega) | fail) only [hH, d1, d2, ↓Xa, Xb, Xc, ↓reduceIte, Nat.reduceLT, Nat.reduceEqDiff, Nat.reduceBEq, Nat.reduceLeDiff, Nat.reduceAdd, Nat.reduceMul]
      refine Settle.now ⟨k, Nat.lt_succ_self k, ⟨by omega, ?_⟩, rfl⟩
      rw [List.drop_eq_getElem_cons (by omega), List.drop_eq_getElem_cons (i := k) (l := y) (by omega), hd]
      congr 1
      have e1 : x.getD k 0 = x[k] := by simp [List.getD_eq_getElem?_getD, List.getElem?_eq_getElem (show k < x.length by omega)]
      have e2 : y.getD k 0 = y[k] := by simp [List.getD_eq_getElem?_getD, List.getElem?_eq_getElem (show k < y.length by omega)]
      omega
  · by_cases c1 : x.length < y.length
    · simp (disch := first | assumption | (apply Ap.symm; assumption) | omega | decide | (simp only [U_len, List.length_append, List.length_replicate, List.length_cons, List.length_nil, List.length_set] <;> omega) | fail) only [hH, ac115, c0, c1, rs115, ↓Xa, Xb, Xc, ↓reduceIte, Nat.reduceLT, Nat.reduceEqDiff, Nat.reduceBEq, Nat.reduceLeDiff, Nat.reduceAdd, Nat.reduceMul]
      exact less (lt1 c1)
    · simp (disch := first | assumption | (apply Ap.symm; assumption) | omega | decide | (simp only [U_len, List.length_append, List.length_replicate, List.length_cons, List.length_nil, List.length_set] <;> omega) | fail) only [hH, ac115, c0, c1, rs115, ↓Xa, Xb, Xc, ↓reduceIte, Nat.reduceLT, Nat.reduceEqDiff, Nat.reduceBEq, Nat.reduceLeDiff, Nat.reduceAdd, Nat.reduceMul]
      exact more (lt2 (by omega))

theorem minus_own {H : AHeap} {Q : AV → AHeap → Prop} {bb ty L : Nat} (m n : Nat) (ta tb : Bool) (hH : H bb = some (.row ty 1 (U (digs 65536 m)))) (hL : (digs 65536 m).length = L) (hq : ∀ x H', grow H 45 (pad 65536 (m - n) (digs 65536 m).length) x H' → Q x H') (hmn : n ≤ m) (hm : (digs 65536 m).length ≤ 1099511627776) : Run Tryd.prog 116 [.own bb L 0 L ta, LS (digs 65536 n) tb] H Q := by
  subst hL
  have la := lim_digs (B := 65536) (by omega) m
  have lb := lim_digs (B := 65536) (by omega) n
  have va := val_digs (B := 65536) (by omega) m
  have vb := val_digs (B := 65536) (by omega) n
  have hlb : (digs 65536 n).length ≤ (digs 65536 m).length := by
    rcases Nat.lt_or_ge (digs 65536 m).length (digs 65536 n).length with h | h
    · have := digs_lt_len (by omega) h; omega
    · exact h
  refine enter116 (by simp) ?_
  simp (disch := first | assumption | (apply Ap.symm; assumption) | omega | decide | (simp only [U_len, List.length_append, List.length_replicate, List.length_cons, List.length_nil, List.length_set] <;> omega) | fail) only [ac116, ↓Xa, Xb, Xc, ↓reduceIte, Nat.reduceLT, Nat.reduceEqDiff, Nat.reduceBEq, Nat.reduceLeDiff, Nat.reduceAdd, Nat.reduceMul]
  refine W_loop (fun s : Nat × Nat × List Nat × AV × AHeap => ⟨[], [(0, .own bb (digs 65536 m).length 0 (digs 65536 m).length ta), (1, LS (digs 65536 n) tb), (5, s.2.2.2.1), (6, .int .u32 s.2.1), (7, .int .i64 s.1)], s.2.2.2.2⟩)
    (fun s => s.1 ≤ (digs 65536 m).length ∧ grow H 45 s.2.2.1 s.2.2.2.1 s.2.2.2.2 ∧ MinI (digs 65536 m) (digs 65536 n) s.1 s.2.1 s.2.2.1) (fun s => (digs 65536 m).length - s.1)
    (0, 0, [], _, _) (Settle.now rfl) ⟨by simp, grow_nil, MinI.zero _ _⟩ ?_
  rintro ⟨i, c, done, x, H'⟩ ⟨g0, hg, h1⟩
  dsimp only at g0 hg h1 ⊢
  have hold := grow_old hg hH
  have hd := h1.1
  have hc := h1.2.2.1
  have hx := la.getD (by omega) i
  have hy := lb.getD (by omega) i
  by_cases hi : i < (digs 65536 m).length
  · by_cases hj : i < (digs 65536 n).length
    · by_cases hv : (digs 65536 m).getD i 0 < c + (digs 65536 n).getD i 0
      · simp (disch := first | assumption | (apply Ap.symm; assumption) | omega | decide | (simp only [U_len, List.length_append, List.length_replicate, List.length_cons, List.length_nil, List.length_set] <;> omega) | fail) only [hold, hi, hj, hv, ↓Xa, Xb, Xc, ↓reduceIte, Nat.reduceLT, Nat.reduceEqDiff, Nat.reduceBEq, Nat.reduceLeDiff, Nat.reduceAdd, Nat.reduceMul]
        refine app_grow (m := [(digs 65536 m).getD i 0 + 65536 - (c + (digs 65536 n).getD i 0)]) hg rfl (by simp) (by simp; omega) fun x' H2 hg2 => ?_
        have hold2 := grow_old hg2 hH
        simp (disch := first | assumption | (apply Ap.symm; assumption) | omega | decide | (simp only [U_len, List.length_append, List.length_replicate, List.length_cons, List.length_nil, List.length_set] <;> omega) | fail) only [↓Xa, Xb, Xc, ↓reduceIte, Nat.reduceLT, Nat.reduceEqDiff, Nat.reduceBEq, Nat.reduceLeDiff, Nat.reduceAdd, Nat.reduceMul]
        refine Settle.now ⟨(i + 1, 1, _, _, _), by dsimp only; omega, ⟨by dsimp only; omega, hg2, h1.step (c' := 1) (by omega) rfl (by omega) (by omega)⟩, rfl⟩
      · simp (disch := first | assumption | (apply Ap.symm; assumption) | omega | decide | (simp only [U_len, List.length_append, List.length_replicate, List.length_cons, List.length_nil, List.length_set] <;> omega) | fail) only [hold, hi, hj, hv, ↓Xa, Xb, Xc, ↓reduceIte, Nat.reduceLT, Nat.reduceEqDiff, Nat.reduceBEq, Nat.reduceLeDiff, Nat.reduceAdd, Nat.reduceMul]
        refine app_grow (m := [(digs 65536 m).getD i 0 - (c + (digs 65536 n).getD i 0)]) hg rfl (by simp) (by simp; omega) fun x' H2 hg2 => ?_
        have hold2 := grow_old hg2 hH
        simp (disch := first | assumption | (apply Ap.symm; assumption) | omega | decide | (simp only [U_len, List.length_append, List.length_replicate, List.length_cons, List.length_nil, List.length_set] <;> omega) | fail) only [↓Xa, Xb, Xc, ↓reduceIte, Nat.reduceLT, Nat.reduceEqDiff, Nat.reduceBEq, Nat.reduceLeDiff, Nat.reduceAdd, Nat.reduceMul]
        refine Settle.now ⟨(i + 1, 0, _, _, _), by dsimp only; omega, ⟨by dsimp only; omega, hg2, h1.step (c' := 0) (by omega) rfl (by omega) (by omega)⟩, rfl⟩
    · have b := getD_beyond (show (digs 65536 n).length ≤ i by omega)
      by_cases hv : (digs 65536 m).getD i 0 < c
      · simp (disch := first | assumption | (apply Ap.symm; assumption) | omega | decide | (simp only [U_len, List.length_append, List.length_replicate, List.length_cons, List.length_nil, List.length_set] <;> omega) | fail) only [hold, hi, hj, hv, ↓Xa, Xb, Xc, ↓reduceIte, Nat.reduceLT, Nat.reduceEqDiff, Nat.reduceBEq, Nat.reduceLeDiff, Nat.reduceAdd, Nat.reduceMul]
        refine app_grow (m := [(digs 65536 m).getD i 0 + 65536 - c]) hg rfl (by simp) (by simp; omega) fun x' H2 hg2 => ?_
        have hold2 := grow_old hg2 hH
        simp (disch := first | assumption | (apply Ap.symm; assumption) | omega | decide | (simp only [U_len, List.length_append, List.length_replicate, List.length_cons, List.length_nil, List.length_set] <;> omega) | fail) only [↓Xa, Xb, Xc, ↓reduceIte, Nat.reduceLT, Nat.reduceEqDiff, Nat.reduceBEq, Nat.reduceLeDiff, Nat.reduceAdd, Nat.reduceMul]
        refine Settle.now ⟨(i + 1, 1, _, _, _), by dsimp only; omega, ⟨by dsimp only; omega, hg2, h1.step (c' := 1) (by omega) rfl (by omega) (by omega)⟩, rfl⟩
      · simp (disch := first | assumption | (apply Ap.symm; assumption) | omega | decide | (simp only [U_len, List.length_append, List.length_replicate, List.length_cons, List.length_nil, List.length_set] <;> omega) | fail) only [hold, hi, hj, hv, ↓Xa, Xb, Xc, ↓reduceIte, Nat.reduceLT, Nat.reduceEqDiff, Nat.reduceBEq, Nat.reduceLeDiff, Nat.reduceAdd, Nat.reduceMul]
        refine app_grow (m := [(digs 65536 m).getD i 0 - c]) hg rfl (by simp) (by simp; omega) fun x' H2 hg2 => ?_
        have hold2 := grow_old hg2 hH
        simp (disch := first | assumption | (apply Ap.symm; assumption) | omega | decide | (simp only [U_len, List.length_append, List.length_replicate, List.length_cons, List.length_nil, List.length_set] <;> omega) | fail) only [↓Xa, Xb, Xc, ↓reduceIte, Nat.reduceLT, Nat.reduceEqDiff, Nat.reduceBEq, Nat.reduceLeDiff, Nat.reduceAdd, Nat.reduceMul]
        refine Settle.now ⟨(i + 1, 0, _, _, _), by dsimp only; omega, ⟨by dsimp only; omega, hg2, h1.step (c' := 0) (by omega) rfl (by omega) (by omega)⟩, rfl⟩
  · obtain rfl : i = (digs 65536 m).length := by omega
    simp (disch := first | assumption | (apply Ap.symm; assumption) | omega | decide | (simp only [U_len, List.length_append, List.length_replicate, List.length_cons, List.length_nil, List.length_set] <;> omega) | fail) only [hold, hi, ↓Xa, Xb, Xc, ↓reduceIte, Nat.reduceLT, Nat.reduceEqDiff, Nat.reduceBEq, Nat.reduceLeDiff, Nat.reduceAdd, Nat.reduceMul]
    refine Settle.now ?_
    simp (disch := first | assumption | (apply Ap.symm; assumption) | omega | decide | (simp only [U_len, List.length_append, List.length_replicate, List.length_cons, List.length_nil, List.length_set] <;> omega) | fail) only [rs116, ↓Xa, Xb, Xc, ↓reduceIte, Nat.reduceLT, Nat.reduceEqDiff, Nat.reduceBEq, Nat.reduceLeDiff, Nat.reduceAdd, Nat.reduceMul]
    have e := h1.end la hlb (by omega)
    rw [va, vb] at e
    rw [e] at hg
    exact SetR.now (hq _ _ hg)

theorem rnorm_own {H : AHeap} {Q : AV → AHeap → Prop} {bb ty L : Nat} {l : List Nat} (neg t : Bool) (hH : H bb = some (.row ty 1 (U l))) (hL : l.length = L) (hq : ∀ ti, Q (.agg [.bool (neg && decide (0 < (tr l).length)), .own bb L 0 (tr l).length ti]) H) (hl : Lim 65536 l) (hn : l.length ≤ 8796093022208) : Run Tryd.prog 88 [.bool neg, .own bb L 0 L t] H Q := by
  subst hL
  refine enter88 (by simp) ?_
  simp (disch := first | assumption | (apply Ap.symm; assumption) | omega | decide | (simp only [U_len, List.length_append, List.length_replicate, List.length_cons, List.length_nil, List.length_set] <;> omega) | fail) only [ac88, ↓Xa, Xb, Xc, ↓reduceIte, Nat.reduceLT, Nat.reduceEqDiff, Nat.reduceBEq, Nat.reduceLeDiff, Nat.reduceAdd, Nat.reduceMul]
  refine alloc_i fun p hp => ?_
  have hAp : Ap bb p := fun e => by rw [e, hp] at hH; cases hH
  simp (disch := first | assumption | (apply Ap.symm; assumption) | omega | decide | (simp only [U_len, List.length_append, List.length_replicate, List.length_cons, List.length_nil, List.length_set] <;> omega) | fail) only [↓Xa, Xb, Xc, ↓reduceIte, Nat.reduceLT, Nat.reduceEqDiff, Nat.reduceBEq, Nat.reduceLeDiff, Nat.reduceAdd, Nat.reduceMul]
  refine W_loop (fun n : Nat => ⟨[], [(0, .bool neg), (1, .own bb l.length 0 l.length t), (4, .ptr p 2 0), (5, .int .i64 n)], H.upd p (some (.row 30 0 [.bool false, .seq 0 [] true]))⟩) (fun n => n ≤ l.length ∧ ∀ i, n ≤ i → i < l.length → l.getD i 0 = 0) id l.length (Settle.now rfl) ⟨Nat.le_refl _, fun i h1 h2 => absurd h1 (by omega)⟩ ?_
  rintro n ⟨h1, hz⟩
  have fin : ∀ ti, (n = 0 ∨ l.getD (n - 1) 0 ≠ 0) → SetR Q (.agg [.bool (neg && decide (0 < n)), .own bb l.length 0 n ti]) (H.upd p (some (.row 30 0 [.bool (neg && decide (0 < n)), .own bb l.length 0 n ti]))) := fun ti h => by
    have e2 : n = (tr l).length := by
      have := congrArg List.length (tr_take h1 hz h)
      rw [List.length_take, Nat.min_eq_left h1] at this; exact this
    have := hq ti
    rw [← e2] at this
    exact SetR.dropTo ((Le.refl H).upd hp) (SetR.now this)
  have last : (n = 0 ∨ l.getD (n - 1) 0 ≠ 0) → W Tryd.prog (sndC (sndC (sndC ac88))) (retN rs88 Q) ⟨[], [(0, .bool neg), (1, .own bb l.length 0 l.length t), (4, .ptr p 2 0), (5, .int .i64 n), (17, .bool false)], H.upd p (some (.row 30 0 [.bool false, .seq 0 [] true]))⟩ := fun h => by
    have f := fun ti => fin ti h
    cases neg
    · simp (disch := first | assumption | (apply Ap.symm; assumption) | omega | decide | (simp only [U_len, List.length_append, List.length_replicate, List.length_cons, List.length_nil, List.length_set] <;> omega) | fail) only [hH, cells_o2, ac88, rs88, sndC, ↓Xa, Xb, Xc, ↓reduceIte, Nat.reduceLT, Nat.reduceEqDiff, Nat.reduceBEq, Nat.reduceLeDiff, Nat.reduceAdd, Nat.reduceMul]
      exact f _
    · simp (disch := first | assumption | (apply Ap.symm; assumption) | omega | decide | (simp only [U_len, List.length_append, List.length_replicate, List.length_cons, List.length_nil, List.length_set] <;> omega) | fail) only [hH, cells_o2, ac88, rs88, sndC, ↓Xa, Xb, Xc, ↓reduceIte, Nat.reduceLT, Nat.reduceEqDiff, Nat.reduceBEq, Nat.reduceLeDiff, Nat.reduceAdd, Nat.reduceMul]
      exact f _
  by_cases h0 : 0 < n
  · by_cases h2 : l.getD (n - 1) 0 = 0
    · simp (disch := first | assumption | (apply Ap.symm; assumption) | omega | decide | (simp only [U_len, List.length_append, List.length_replicate, List.length_cons, List.length_nil, List.length_set] <;> omega) | fail) only [hH, h0, h2, ↓Xa, Xb, Xc, ↓reduceIte, Nat.reduceLT, Nat.reduceEqDiff, Nat.reduceBEq, Nat.reduceLeDiff, Nat.reduceAdd, Nat.reduceMul]
      refine Settle.now ⟨n - 1, ?_, ⟨by omega, fun i hi hl' => ?_⟩, rfl⟩
      · show n - 1 < n; omega
      · rcases Nat.lt_or_ge i n with h | h
        · rw [show i = n - 1 by omega]; exact h2
        · exact hz i h hl'
    · simp (disch := first | assumption | (apply Ap.symm; assumption) | omega | decide | (simp only [U_len, List.length_append, List.length_replicate, List.length_cons, List.length_nil, List.length_set] <;> omega) | fail) only [hH, h0, h2, ↓Xa, Xb, Xc, ↓reduceIte, Nat.reduceLT, Nat.reduceEqDiff, Nat.reduceBEq, Nat.reduceLeDiff, Nat.reduceAdd, Nat.reduceMul]
      exact Settle.now (last (.inr h2))
  · simp (disch := first | assumption | (apply Ap.symm; assumption) | omega | decide | (simp only [U_len, List.length_append, List.length_replicate, List.length_cons, List.length_nil, List.length_set] <;> omega) | fail) only [hH, h0, ↓Xa, Xb, Xc, ↓reduceIte, Nat.reduceLT, Nat.reduceEqDiff, Nat.reduceBEq, Nat.reduceLeDiff, Nat.reduceAdd, Nat.reduceMul]
    exact Settle.now (last (.inl (by omega)))

end Go.Proofs.YtipbcjnniamcgaaDoor.Fw
