/- What package limb computes: trimming, copies, comparing. -/
import Derived.Test.YtipbcjnniamcgaaDoorFwY
import Derived.Test.YtipbcjnniamcgaaDoorAc
namespace Go.Proofs.YtipbcjnniamcgaaDoor.Fw
set_option linter.unusedSimpArgs false
set_option linter.unusedVariables false
open Go Go.Proofs.YtipbcjnniamcgaaDoor.Ma

theorem load_LS0 {H : AHeap} {K : AV → Prop} {l : List Nat} (h : 0 < l.length) : loadW H none (.cptr (U l)) K = K (.int .u32 ((l.getD 0 0 : Nat) : Int)) := by
  have := load_LS (H := H) (K := K) (l := l) (i := 0) h
  rwa [List.drop_zero] at this
theorem digs_len0 {B n : Nat} (hB : 2 ≤ B) : ((digs B n).length = 0) = (n = 0) := by
  rw [List.length_eq_zero_iff]; exact propext (digs_nil hB)
theorem digs_pos_len {B n : Nat} (hB : 2 ≤ B) : (0 < (digs B n).length) = (0 < n) := by
  apply propext
  have := digs_nil (n := n) hB
  cases h : digs B n with
  | nil => have := this.1 h; simp [this]
  | cons x l => rcases Nat.eq_zero_or_pos n with e | e
                · rw [e, digs_zero] at h; cases h
                · simp [e]
theorem trim_fn (l : List Nat) (t : Bool) : PFn Tryd.prog 90 [LS l t] (LS (tr l) true) := by
  intro H Q hq
  refine enter90 (by simp) ?_
  simp (disch := first | assumption | (apply Ap.symm; assumption) | omega | decide | (simp only [U_len, List.length_append, List.length_replicate, List.length_cons, List.length_nil, List.length_set] <;> omega) | fail) only [ac90, len_LS, len_own, ↓Xa, Xb, Xc, ↓reduceIte, Nat.reduceLT, Nat.reduceEqDiff, Nat.reduceBEq, Nat.reduceLeDiff, Nat.reduceAdd, Nat.reduceMul]
  intro hl
  refine W_loop (fun n : Nat => ⟨[], [(0, LS l t), (3, .int .i64 n)], H⟩) (fun n => n ≤ l.length ∧ ∀ i, n ≤ i → i < l.length → l.getD i 0 = 0) id l.length (Settle.now rfl) ⟨Nat.le_refl _, fun i h1 h2 => absurd h1 (by omega)⟩ ?_
  rintro n ⟨hn, hz⟩
  have fin : (n = 0 ∨ l.getD (n - 1) 0 ≠ 0) → SetR Q (LS (l.take n) true) H := fun h => by rw [tr_take hn hz h]; exact SetR.now hq
  by_cases h0 : 0 < n
  · by_cases h1 : l.getD (n - 1) 0 = 0
    · simp (disch := first | assumption | (apply Ap.symm; assumption) | omega | decide | (simp only [U_len, List.length_append, List.length_replicate, List.length_cons, List.length_nil, List.length_set] <;> omega) | fail) only [h0, h1, len_LS, len_own, ↓Xa, Xb, Xc, ↓reduceIte, Nat.reduceLT, Nat.reduceEqDiff, Nat.reduceBEq, Nat.reduceLeDiff, Nat.reduceAdd, Nat.reduceMul]
      refine Settle.now ⟨n - 1, ?_, ⟨by omega, fun i hi hl' => ?_⟩, rfl⟩
      · show n - 1 < n; omega
      · rcases Nat.lt_or_ge i n with h | h
        · rw [show i = n - 1 by omega]; exact h1
        · exact hz i h hl'
    · simp (disch := first | assumption | (apply Ap.symm; assumption) | omega | decide | (simp only [U_len, List.length_append, List.length_replicate, List.length_cons, List.length_nil, List.length_set] <;> omega) | fail) only [h0, h1, len_LS, len_own, ↓Xa, Xb, Xc, ↓reduceIte, Nat.reduceLT, Nat.reduceEqDiff, Nat.reduceBEq, Nat.reduceLeDiff, Nat.reduceAdd, Nat.reduceMul]
      refine Settle.now ?_
      simp (disch := first | assumption | (apply Ap.symm; assumption) | omega | decide | (simp only [U_len, List.length_append, List.length_replicate, List.length_cons, List.length_nil, List.length_set] <;> omega) | fail) only [rs90, len_LS, len_own, ↓Xa, Xb, Xc, ↓reduceIte, Nat.reduceLT, Nat.reduceEqDiff, Nat.reduceBEq, Nat.reduceLeDiff, Nat.reduceAdd, Nat.reduceMul]
      exact fin (.inr h1)
  · simp (disch := first | assumption | (apply Ap.symm; assumption) | omega | decide | (simp only [U_len, List.length_append, List.length_replicate, List.length_cons, List.length_nil, List.length_set] <;> omega) | fail) only [h0, len_LS, len_own, ↓Xa, Xb, Xc, ↓reduceIte, Nat.reduceLT, Nat.reduceEqDiff, Nat.reduceBEq, Nat.reduceLeDiff, Nat.reduceAdd, Nat.reduceMul]
    refine Settle.now ?_
    simp (disch := first | assumption | (apply Ap.symm; assumption) | omega | decide | (simp only [U_len, List.length_append, List.length_replicate, List.length_cons, List.length_nil, List.length_set] <;> omega) | fail) only [rs90, len_LS, len_own, ↓Xa, Xb, Xc, ↓reduceIte, Nat.reduceLT, Nat.reduceEqDiff, Nat.reduceBEq, Nat.reduceLeDiff, Nat.reduceAdd, Nat.reduceMul]
    exact fin (.inl (by omega))

/-- .. of a row of one's own. -/
theorem trim_own {l : List Nat} {b ty n : Nat} {t : Bool} {H : AHeap} {Q : AV → AHeap → Prop} (hH : H b = some (.row ty 1 (U l))) (hn : l.length = n) (hq : Q (.own b n 0 (tr l).length true) H) : Run Tryd.prog 90 [.own b n 0 n t] H Q := by
  subst hn
  refine enter90 (by simp) ?_
  simp (disch := first | assumption | (apply Ap.symm; assumption) | omega | decide | (simp only [U_len, List.length_append, List.length_replicate, List.length_cons, List.length_nil, List.length_set] <;> omega) | fail) only [ac90, len_LS, len_own, ↓Xa, Xb, Xc, ↓reduceIte, Nat.reduceLT, Nat.reduceEqDiff, Nat.reduceBEq, Nat.reduceLeDiff, Nat.reduceAdd, Nat.reduceMul]
  intro hl
  refine W_loop (fun n : Nat => ⟨[], [(0, .own b l.length 0 l.length t), (3, .int .i64 n)], H⟩) (fun n => n ≤ l.length ∧ ∀ i, n ≤ i → i < l.length → l.getD i 0 = 0) id l.length (Settle.now rfl) ⟨Nat.le_refl _, fun i h1 h2 => absurd h1 (by omega)⟩ ?_
  rintro n ⟨hn, hz⟩
  have fin : (n = 0 ∨ l.getD (n - 1) 0 ≠ 0) → SetR Q (.own b l.length 0 n true) H := fun h => by
    have := congrArg List.length (tr_take hn hz h)
    rw [List.length_take, Nat.min_eq_left hn] at this
    rw [this]; exact SetR.now hq
  by_cases h0 : 0 < n
  · by_cases h1 : l.getD (n - 1) 0 = 0
    · simp (disch := first | assumption | (apply Ap.symm; assumption) | omega | decide | (simp only [U_len, List.length_append, List.length_replicate, List.length_cons, List.length_nil, List.length_set] <;> omega) | fail) only [h0, h1, hH, len_LS, len_own, ↓Xa, Xb, Xc, ↓reduceIte, Nat.reduceLT, Nat.reduceEqDiff, Nat.reduceBEq, Nat.reduceLeDiff, Nat.reduceAdd, Nat.reduceMul]
      refine Settle.now ⟨n - 1, ?_, ⟨by omega, fun i hi hl' => ?_⟩, rfl⟩
      · show n - 1 < n; omega
      · rcases Nat.lt_or_ge i n with h | h
        · rw [show i = n - 1 by omega]; exact h1
        · exact hz i h hl'
    · simp (disch := first | assumption | (apply Ap.symm; assumption) | omega | decide | (simp only [U_len, List.length_append, List.length_replicate, List.length_cons, List.length_nil, List.length_set] <;> omega) | fail) only [h0, h1, hH, len_LS, len_own, ↓Xa, Xb, Xc, ↓reduceIte, Nat.reduceLT, Nat.reduceEqDiff, Nat.reduceBEq, Nat.reduceLeDiff, Nat.reduceAdd, Nat.reduceMul]
      refine Settle.now ?_
      simp (disch := first | assumption | (apply Ap.symm; assumption) | omega | decide | (simp only [U_len, List.length_append, List.length_replicate, List.length_cons, List.length_nil, List.length_set] <;> omega) | fail) only [rs90, hH, len_LS, len_own, ↓Xa, Xb, Xc, ↓reduceIte, Nat.reduceLT, Nat.reduceEqDiff, Nat.reduceBEq, Nat.reduceLeDiff, Nat.reduceAdd, Nat.reduceMul]
      exact fin (.inr h1)
  · simp (disch := first | assumption | (apply Ap.symm; assumption) | omega | decide | (simp only [U_len, List.length_append, List.length_replicate, List.length_cons, List.length_nil, List.length_set] <;> omega) | fail) only [h0, hH, len_LS, len_own, ↓Xa, Xb, Xc, ↓reduceIte, Nat.reduceLT, Nat.reduceEqDiff, Nat.reduceBEq, Nat.reduceLeDiff, Nat.reduceAdd, Nat.reduceMul]
    refine Settle.now ?_
    simp (disch := first | assumption | (apply Ap.symm; assumption) | omega | decide | (simp only [U_len, List.length_append, List.length_replicate, List.length_cons, List.length_nil, List.length_set] <;> omega) | fail) only [rs90, hH, len_LS, len_own, ↓Xa, Xb, Xc, ↓reduceIte, Nat.reduceLT, Nat.reduceEqDiff, Nat.reduceBEq, Nat.reduceLeDiff, Nat.reduceAdd, Nat.reduceMul]
    exact fin (.inl (by omega))
theorem trim_call {l : List Nat} {b ty n : Nat} {t : Bool} {H : AHeap} {K : AV → AHeap → Prop} (hH : H b = some (.row ty 1 (U l))) (hn : l.length = n) (k : K (.own b n 0 (tr l).length true) H) : callW Tryd.prog (.fn (.func 90) [] []) [.own b n 0 n t] H K := by
  simpa [callW] using trim_own (t := t) hH hn k
/-- A new row, trimmed and handed back. -/
theorem frz_tr {l : List Nat} {b n : Nat} (hn : l.length = n) : frz b 1 (U l) (.own b n 0 (tr l).length true) = LS (tr l) true := by
  subst hn
  have h1 := tr_len l
  obtain ⟨k, h2⟩ := tr_pre l
  have h3 : (U l).take (tr l).length = U (tr l) := by
    rw [← U_take]; congr 1
    generalize tr l = x at *
    rw [h2]; simp
  simp [frz, frz2, frz1, LS, h1, h3]
theorem fin_tr {l : List Nat} {b ty n : Nat} {H : AHeap} {Q : AV → AHeap → Prop} (hb : H b = none) (hn : l.length = n) (hq : Q (LS (tr l) true) H) : SetR Q (.own b n 0 (tr l).length true) (H.upd b (some (.row ty 1 (U l)))) := by
  refine SetR.frz b (upd_same _ _ _) ?_
  rw [frz_tr hn, upd_upd, upd_back _ hb]
  exact SetR.now hq

theorem frz2_tr {l : List Nat} {b n : Nat} (hn : l.length = n) : frz2 b 1 (U l) (.own b n 0 (tr l).length true) = LS (tr l) true := frz_tr hn
theorem frz2_int {b es : Nat} {c : List AV} {k : IntKind} {n : Int} : frz2 b es c (.int k n) = .int k n := rfl
theorem fin_tr2 {l : List Nat} {b ty n : Nat} {H : AHeap} {Q : AV → AHeap → Prop} {k : IntKind} {m : Int} (hb : H b = none) (hn : l.length = n) (hq : Q (.tup [LS (tr l) true, .int k m]) H) : SetR Q (.tup [.own b n 0 (tr l).length true, .int k m]) (H.upd b (some (.row ty 1 (U l)))) := by
  refine SetR.frz b (upd_same _ _ _) ?_
  rw [upd_upd, upd_back _ hb, frz, List.map_cons, List.map_cons, List.map_nil, frz2_tr hn, frz2_int]
  exact SetR.now hq
theorem fin_tr3 {l : List Nat} {b ty n : Nat} {H : AHeap} {Q : AV → AHeap → Prop} {k k' : IntKind} {m m' : Int} (hb : H b = none) (hn : l.length = n) (hq : Q (.tup [LS (tr l) true, .int k m, .int k' m']) H) : SetR Q (.tup [.own b n 0 (tr l).length true, .int k m, .int k' m']) (H.upd b (some (.row ty 1 (U l)))) := by
  refine SetR.frz b (upd_same _ _ _) ?_
  rw [upd_upd, upd_back _ hb, frz, List.map_cons, List.map_cons, List.map_cons, List.map_nil, frz2_tr hn, frz2_int, frz2_int]
  exact SetR.now hq

theorem norm_fn {l : List Nat} (t : Bool) (hl : l.length ≤ 70368744177664) : PFn Tryd.prog 35 [LS l t] (LS (tr l) true) := by
  intro H Q hq
  refine enter35 (by simp) ?_
  simp (disch := first | assumption | (apply Ap.symm; assumption) | omega | decide | (simp only [U_len, List.length_append, List.length_replicate, List.length_cons, List.length_nil, List.length_set] <;> omega) | fail) only [ac35, len_LS, len_own, ↓Xa, Xb, Xc, ↓reduceIte, Nat.reduceLT, Nat.reduceEqDiff, Nat.reduceBEq, Nat.reduceLeDiff, Nat.reduceAdd, Nat.reduceMul]
  refine (trim_fn l t).call ?_
  have h1 := tr_len l
  simp (disch := first | assumption | (apply Ap.symm; assumption) | omega | decide | (simp only [U_len, List.length_append, List.length_replicate, List.length_cons, List.length_nil, List.length_set] <;> omega) | fail) only [len_LS, len_own, ↓Xa, Xb, Xc, ↓reduceIte, Nat.reduceLT, Nat.reduceEqDiff, Nat.reduceBEq, Nat.reduceLeDiff, Nat.reduceAdd, Nat.reduceMul]
  intro h2
  refine newU_i fun b hb => ?_
  simp (disch := first | assumption | (apply Ap.symm; assumption) | omega | decide | (simp only [U_len, List.length_append, List.length_replicate, List.length_cons, List.length_nil, List.length_set] <;> omega) | fail) only [len_LS, len_own, ↓Xa, Xb, Xc, ↓reduceIte, Nat.reduceLT, Nat.reduceEqDiff, Nat.reduceBEq, Nat.reduceLeDiff, Nat.reduceAdd, Nat.reduceMul]
  refine cpy_U (upd_same _ _ _) (by simp) rfl ?_
  simp (disch := first | assumption | (apply Ap.symm; assumption) | omega | decide | (simp only [U_len, List.length_append, List.length_replicate, List.length_cons, List.length_nil, List.length_set] <;> omega) | fail) only [rs35, len_LS, len_own, ↓Xa, Xb, Xc, ↓reduceIte, Nat.reduceLT, Nat.reduceEqDiff, Nat.reduceBEq, Nat.reduceLeDiff, Nat.reduceAdd, Nat.reduceMul]
  refine SetR.frz b (upd_same _ _ _) ?_
  rw [upd_upd, upd_back _ hb]
  have e : frz b 1 (U (tr l)) (.own b (tr l).length 0 (tr l).length true) = LS (tr l) true := by simp [frz, frz2, frz1, LS, List.take_of_length_le]
  rw [e]; exact SetR.now hq

/-- -1, 0, 1. -/
def cmpZ (a b : Nat) : Int := if a < b then -1 else if b < a then ((1 : Nat) : Int) else ((0 : Nat) : Int)

theorem cmp_fn {a b : List Nat} (ta tb : Bool) (ha : Lim 4294967296 a) (hb : Lim 4294967296 b) : PFn Tryd.prog 36 [LS a ta, LS b tb] (.int .i64 (cmpZ (val 4294967296 a) (val 4294967296 b))) := by
  intro H Q hq
  refine enter36 (by simp) ?_
  simp (disch := first | assumption | (apply Ap.symm; assumption) | omega | decide | (simp only [U_len, List.length_append, List.length_replicate, List.length_cons, List.length_nil, List.length_set] <;> omega) | fail) only [ac36, len_LS, len_own, ↓Xa, Xb, Xc, ↓reduceIte, Nat.reduceLT, Nat.reduceEqDiff, Nat.reduceBEq, Nat.reduceLeDiff, Nat.reduceAdd, Nat.reduceMul]
  refine (trim_fn a ta).call ?_
  simp (disch := first | assumption | (apply Ap.symm; assumption) | omega | decide | (simp only [U_len, List.length_append, List.length_replicate, List.length_cons, List.length_nil, List.length_set] <;> omega) | fail) only [len_LS, len_own, ↓Xa, Xb, Xc, ↓reduceIte, Nat.reduceLT, Nat.reduceEqDiff, Nat.reduceBEq, Nat.reduceLeDiff, Nat.reduceAdd, Nat.reduceMul]
  refine (trim_fn b tb).call ?_
  rw [tr_digs (by omega) ha, tr_digs (by omega) hb]
  generalize val 4294967296 a = m at *
  generalize val 4294967296 b = n at *
  have hx := lim_digs (B := 4294967296) (by omega) m
  have hy := lim_digs (B := 4294967296) (by omega) n
  have vx := val_digs (B := 4294967296) (by omega) m
  have vy := val_digs (B := 4294967296) (by omega) n
  have lt1 := digs_lt_len (B := 4294967296) (a := m) (b := n) (by omega)
  have lt2 := digs_lt_len (B := 4294967296) (a := n) (b := m) (by omega)
  generalize digs 4294967296 m = x at *
  generalize digs 4294967296 n = y at *
  have less : m < n → SetR Q (.int .i64 (-1)) H := fun h => by
    have : cmpZ m n = -1 := by simp [cmpZ, h]
    rw [← this]; exact SetR.now hq
  have more : n < m → SetR Q (.int .i64 ((1 : Nat) : Int)) H := fun h => by
    have : cmpZ m n = ((1 : Nat) : Int) := by simp [cmpZ, h, Nat.not_lt_of_lt h]
    rw [← this]; exact SetR.now hq
  by_cases c1 : x.length < y.length
  · simp (disch := first | assumption | (apply Ap.symm; assumption) | omega | decide | (simp only [U_len, List.length_append, List.length_replicate, List.length_cons, List.length_nil, List.length_set] <;> omega) | fail) only [c1, rs36, len_LS, len_own, ↓Xa, Xb, Xc, ↓reduceIte, Nat.reduceLT, Nat.reduceEqDiff, Nat.reduceBEq, Nat.reduceLeDiff, Nat.reduceAdd, Nat.reduceMul]
    intro _ _
    exact less (lt1 c1)
  by_cases c2 : y.length < x.length
  · simp (disch := first | assumption | (apply Ap.symm; assumption) | omega | decide | (simp only [U_len, List.length_append, List.length_replicate, List.length_cons, List.length_nil, List.length_set] <;> omega) | fail) only [c1, c2, rs36, len_LS, len_own, ↓Xa, Xb, Xc, ↓reduceIte, Nat.reduceLT, Nat.reduceEqDiff, Nat.reduceBEq, Nat.reduceLeDiff, Nat.reduceAdd, Nat.reduceMul]
    intro _ _ _ _
    exact more (lt2 c2)
  simp (disch := first | assumption | (apply Ap.symm; assumption) | omega | decide | (simp only [U_len, List.length_append, List.length_replicate, List.length_cons, List.length_nil, List.length_set] <;> omega) | fail) only [c1, c2, len_LS, len_own, ↓Xa, Xb, Xc, ↓reduceIte, Nat.reduceLT, Nat.reduceEqDiff, Nat.reduceBEq, Nat.reduceLeDiff, Nat.reduceAdd, Nat.reduceMul]
  intro l1 l2
  intros
  simp (disch := first | assumption | (apply Ap.symm; assumption) | omega | decide | (simp only [U_len, List.length_append, List.length_replicate, List.length_cons, List.length_nil, List.length_set] <;> omega) | fail) only [len_LS, len_own, ↓Xa, Xb, Xc, ↓reduceIte, Nat.reduceLT, Nat.reduceEqDiff, Nat.reduceBEq, Nat.reduceLeDiff, Nat.reduceAdd, Nat.reduceMul]
  have hlen : x.length = y.length := by omega
  refine W_loop (fun k : Nat => ⟨[], [(0, LS x true), (1, LS y true), (5, .int .i64 (dn k))], H⟩) (fun k => k ≤ x.length ∧ x.drop k = y.drop k) id x.length (Settle.now rfl) ⟨Nat.le_refl _, by rw [List.drop_of_length_le (Nat.le_refl _), List.drop_of_length_le (by omega)]⟩ ?_
  rintro k ⟨hk, hd⟩
  cases k with
  | zero =>
    simp (disch := first | assumption | (apply Ap.symm; assumption) | omega | decide | (simp only [U_len, List.length_append, List.length_replicate, List.length_cons, List.length_nil, List.length_set] <;> omega) | fail) only [len_LS, len_own, ↓Xa, Xb, Xc, ↓reduceIte, Nat.reduceLT, Nat.reduceEqDiff, Nat.reduceBEq, Nat.reduceLeDiff, Nat.reduceAdd, Nat.reduceMul]
    refine Settle.now ?_
    simp (disch := first | assumption | (apply Ap.symm; assumption) | omega | decide | (simp only [U_len, List.length_append, List.length_replicate, List.length_cons, List.length_nil, List.length_set] <;> omega) | fail) only [rs36, len_LS, len_own, ↓Xa, Xb, Xc, ↓reduceIte, Nat.reduceLT, Nat.reduceEqDiff, Nat.reduceBEq, Nat.reduceLeDiff, Nat.reduceAdd, Nat.reduceMul]
    have e : m = n := by rw [← vx, ← vy]; rw [List.drop_zero, List.drop_zero] at hd; rw [hd]
    have : cmpZ m n = ((0 : Nat) : Int) := by simp [cmpZ, e]
    rw [← this]; exact SetR.now hq
  | succ k =>
    by_cases d1 : x.getD k 0 < y.getD k 0
    · simp (disch := first | assumption | (apply Ap.symm; assumption) | omega | decide | (simp only [U_len, List.length_append, List.length_replicate, List.length_cons, List.length_nil, List.length_set] <;> omega) | fail) only [d1, rs36, len_LS, len_own, ↓Xa, Xb, Xc, ↓reduceIte, Nat.reduceLT, Nat.reduceEqDiff, Nat.reduceBEq, Nat.reduceLeDiff, Nat.reduceAdd, Nat.reduceMul]
      exact less (by rw [← vx, ← vy]; exact val_lt_high hx (by omega) k (by omega) hlen hd d1)
    by_cases d2 : y.getD k 0 < x.getD k 0
    · simp (disch := first | assumption | (apply Ap.symm; assumption) | omega | decide | (simp only [U_len, List.length_append, List.length_replicate, List.length_cons, List.length_nil, List.length_set] <;> omega) | fail) only [d1, d2, rs36, len_LS, len_own, ↓Xa, Xb, Xc, ↓reduceIte, Nat.reduceLT, Nat.reduceEqDiff, Nat.reduceBEq, Nat.reduceLeDiff, Nat.reduceAdd, Nat.reduceMul]
      exact more (by rw [← vx, ← vy]; exact val_lt_high hy (by omega) k (by omega) hlen.symm hd.symm d2)
    simp (disch := first | assumption | (apply Ap.symm; assumption) | omega | decide | (simp only [U_len, List.length_append, List.length_replicate, List.length_cons, List.length_nil, List.length_set] <;> omega) | fail) only [d1, d2, len_LS, len_own, ↓Xa, Xb, Xc, ↓reduceIte, Nat.reduceLT, Nat.reduceEqDiff, Nat.reduceBEq, Nat.reduceLeDiff, Nat.reduceAdd, Nat.reduceMul]
    refine Settle.now ⟨k, Nat.lt_succ_self k, ⟨by omega, ?_⟩, rfl⟩
    rw [List.drop_eq_getElem_cons (by omega), List.drop_eq_getElem_cons (i := k) (l := y) (by omega), hd]
    congr 1
    have e1 : x.getD k 0 = x[k] := by simp [List.getD_eq_getElem?_getD, List.getElem?_eq_getElem (show k < x.length by omega)]
    have e2 : y.getD k 0 = y[k] := by simp [List.getD_eq_getElem?_getD, List.getElem?_eq_getElem (show k < y.length by omega)]
    omega
end Go.Proofs.YtipbcjnniamcgaaDoor.Fw
