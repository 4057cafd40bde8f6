/- The texts Li Lj Lb Lk Ll Lm In Re Rf Rg Ri Rj Rk Rl Rm Rn Ro Io FwW Rp Rq, joined. -/
import Derived.Test.YtanchgkiomfhhaaDoorZ6
/- What package limb computes: trimming, copies, comparing. -/
namespace Go.Proofs.YtanchgkiomfhhaaDoor.Fw
set_option linter.unusedSimpArgs false
set_option linter.unusedVariables false
open Go Go.Proofs.YtanchgkiomfhhaaDoor.Ma

theorem load_LS0 {H : AHeap} {K : AV → Prop} {l : List Nat} (h : 0 < l.length) : loadW H none (.cptr (U l)) K = K (.int .u32 ((l.getD 0 0 : Nat) : Int)) := by
  have := load_LS (H := H) (K := K) (l := l) (i := 0) h
  rwa [List.drop_zero] at this
theorem digs_len0 {B n : Nat} (hB : 2 ≤ B) : ((digs B n).length = 0) = (n = 0) := by
  rw [List.length_eq_zero_iff]; exact propext (digs_nil hB)
theorem digs_pos_len {B n : Nat} (hB : 2 ≤ B) : (0 < (digs B n).length) = (0 < n) := by
  apply propext
  have := digs_nil (n := n) hB
  cases h : digs B n with
  | nil => have := this.1 h; simp [this]
  | cons x l => rcases Nat.eq_zero_or_pos n with e | e
                · rw [e, digs_zero] at h; cases h
                · simp [e]
theorem trim_fn (l : List Nat) (t : Bool) : PFn Tryd.prog 197 [LS l t] (LS (tr l) true) := by
  intro H Q hq
  refine enter197 (by simp) ?_
  simp (disch := first|exact Xe|fail) only [ac197, len_LS, len_own, ↓Xa,Xb,Xc,↓reduceIte,Nat.reduceLT,Nat.reduceEqDiff,Nat.reduceBEq,Nat.reduceLeDiff,Nat.reduceAdd,Nat.reduceMul]
  intro hl
  refine W_loop (fun n : Nat => ⟨[], [(0, LS l t), (3, .int .i64 n)], H⟩) (fun n => n ≤ l.length ∧ ∀ i, n ≤ i → i < l.length → l.getD i 0 = 0) id l.length (Settle.now rfl) ⟨Nat.le_refl _, fun i h1 h2 => absurd h1 (by omega)⟩ ?_
  rintro n ⟨hn, hz⟩
  have fin : (n = 0 ∨ l.getD (n - 1) 0 ≠ 0) → SetR Q (LS (l.take n) true) H := fun h => by rw [tr_take hn hz h]; exact SetR.now hq
  by_cases h0 : 0 < n
  · by_cases h1 : l.getD (n - 1) 0 = 0
    · simp (disch := first|exact Xe|fail) only [h0, h1, len_LS, len_own, ↓Xa,Xb,Xc,↓reduceIte,Nat.reduceLT,Nat.reduceEqDiff,Nat.reduceBEq,Nat.reduceLeDiff,Nat.reduceAdd,Nat.reduceMul]
      refine Settle.now ⟨n - 1, ?_, ⟨by omega, fun i hi hl' => ?_⟩, rfl⟩
      · show n - 1 < n; omega
      · rcases Nat.lt_or_ge i n with h | h
        · rw [show i = n - 1 by omega]; exact h1
        · exact hz i h hl'
    · simp (disch := first|exact Xe|fail) only [h0, h1, len_LS, len_own, ↓Xa,Xb,Xc,↓reduceIte,Nat.reduceLT,Nat.reduceEqDiff,Nat.reduceBEq,Nat.reduceLeDiff,Nat.reduceAdd,Nat.reduceMul]
      refine Settle.now ?_
      simp (disch := first|exact Xe|fail) only [rs197, len_LS, len_own, ↓Xa,Xb,Xc,↓reduceIte,Nat.reduceLT,Nat.reduceEqDiff,Nat.reduceBEq,Nat.reduceLeDiff,Nat.reduceAdd,Nat.reduceMul]
      exact fin (.inr h1)
  · simp (disch := first|exact Xe|fail) only [h0, len_LS, len_own, ↓Xa,Xb,Xc,↓reduceIte,Nat.reduceLT,Nat.reduceEqDiff,Nat.reduceBEq,Nat.reduceLeDiff,Nat.reduceAdd,Nat.reduceMul]
    refine Settle.now ?_
    simp (disch := first|exact Xe|fail) only [rs197, len_LS, len_own, ↓Xa,Xb,Xc,↓reduceIte,Nat.reduceLT,Nat.reduceEqDiff,Nat.reduceBEq,Nat.reduceLeDiff,Nat.reduceAdd,Nat.reduceMul]
    exact fin (.inl (by omega))

theorem trim_own {l : List Nat} {b ty n : Nat} {t : Bool} {H : AHeap} {Q : AV → AHeap → Prop} (hH : H b = some (.row ty 1 (U l))) (hn : l.length = n) (hq : Q (.own b n 0 (tr l).length true) H) : Run Tryd.prog 197 [.own b n 0 n t] H Q := by
  subst hn
  refine enter197 (by simp) ?_
  simp (disch := first|exact Xe|fail) only [ac197, len_LS, len_own, ↓Xa,Xb,Xc,↓reduceIte,Nat.reduceLT,Nat.reduceEqDiff,Nat.reduceBEq,Nat.reduceLeDiff,Nat.reduceAdd,Nat.reduceMul]
  intro hl
  refine W_loop (fun n : Nat => ⟨[], [(0, .own b l.length 0 l.length t), (3, .int .i64 n)], H⟩) (fun n => n ≤ l.length ∧ ∀ i, n ≤ i → i < l.length → l.getD i 0 = 0) id l.length (Settle.now rfl) ⟨Nat.le_refl _, fun i h1 h2 => absurd h1 (by omega)⟩ ?_
  rintro n ⟨hn, hz⟩
  have fin : (n = 0 ∨ l.getD (n - 1) 0 ≠ 0) → SetR Q (.own b l.length 0 n true) H := fun h => by
    have := congrArg List.length (tr_take hn hz h)
    rw [List.length_take, Nat.min_eq_left hn] at this
    rw [this]; exact SetR.now hq
  by_cases h0 : 0 < n
  · by_cases h1 : l.getD (n - 1) 0 = 0
    · simp (disch := first|exact Xe|fail) only [h0, h1, hH, len_LS, len_own, ↓Xa,Xb,Xc,↓reduceIte,Nat.reduceLT,Nat.reduceEqDiff,Nat.reduceBEq,Nat.reduceLeDiff,Nat.reduceAdd,Nat.reduceMul]
      refine Settle.now ⟨n - 1, ?_, ⟨by omega, fun i hi hl' => ?_⟩, rfl⟩
      · show n - 1 < n; omega
      · rcases Nat.lt_or_ge i n with h | h
        · rw [show i = n - 1 by omega]; exact h1
        · exact hz i h hl'
    · simp (disch := first|exact Xe|fail) only [h0, h1, hH, len_LS, len_own, ↓Xa,Xb,Xc,↓reduceIte,Nat.reduceLT,Nat.reduceEqDiff,Nat.reduceBEq,Nat.reduceLeDiff,Nat.reduceAdd,Nat.reduceMul]
      refine Settle.now ?_
      simp (disch := first|exact Xe|fail) only [rs197, hH, len_LS, len_own, ↓Xa,Xb,Xc,↓reduceIte,Nat.reduceLT,Nat.reduceEqDiff,Nat.reduceBEq,Nat.reduceLeDiff,Nat.reduceAdd,Nat.reduceMul]
      exact fin (.inr h1)
  · simp (disch := first|exact Xe|fail) only [h0, hH, len_LS, len_own, ↓Xa,Xb,Xc,↓reduceIte,Nat.reduceLT,Nat.reduceEqDiff,Nat.reduceBEq,Nat.reduceLeDiff,Nat.reduceAdd,Nat.reduceMul]
    refine Settle.now ?_
    simp (disch := first|exact Xe|fail) only [rs197, hH, len_LS, len_own, ↓Xa,Xb,Xc,↓reduceIte,Nat.reduceLT,Nat.reduceEqDiff,Nat.reduceBEq,Nat.reduceLeDiff,Nat.reduceAdd,Nat.reduceMul]
    exact fin (.inl (by omega))
theorem trim_call {l : List Nat} {b ty n : Nat} {t : Bool} {H : AHeap} {K : AV → AHeap → Prop} (hH : H b = some (.row ty 1 (U l))) (hn : l.length = n) (k : K (.own b n 0 (tr l).length true) H) : callW Tryd.prog (.fn (.func 197) [] []) [.own b n 0 n t] H K := by
  simpa [callW] using trim_own (t := t) hH hn k
theorem frz_tr {l : List Nat} {b n : Nat} (hn : l.length = n) : frz b 1 (U l) (.own b n 0 (tr l).length true) = LS (tr l) true := by
  subst hn
  have h1 := tr_len l
  obtain ⟨k, h2⟩ := tr_pre l
  have h3 : (U l).take (tr l).length = U (tr l) := by
    rw [← U_take]; congr 1
    generalize tr l = x at *
    rw [h2]; simp
  simp [frz, frz2, frz1, LS, h1, h3]
theorem fin_tr {l : List Nat} {b ty n : Nat} {H : AHeap} {Q : AV → AHeap → Prop} (hb : H b = none) (hn : l.length = n) (hq : Q (LS (tr l) true) H) : SetR Q (.own b n 0 (tr l).length true) (H.upd b (some (.row ty 1 (U l)))) := by
  refine SetR.frz b (upd_same _ _ _) ?_
  rw [frz_tr hn, upd_upd, upd_back _ hb]
  exact SetR.now hq

theorem frz2_tr {l : List Nat} {b n : Nat} (hn : l.length = n) : frz2 b 1 (U l) (.own b n 0 (tr l).length true) = LS (tr l) true := frz_tr hn
theorem frz2_int {b es : Nat} {c : List AV} {k : IntKind} {n : Int} : frz2 b es c (.int k n) = .int k n := rfl
theorem fin_tr2 {l : List Nat} {b ty n : Nat} {H : AHeap} {Q : AV → AHeap → Prop} {k : IntKind} {m : Int} (hb : H b = none) (hn : l.length = n) (hq : Q (.tup [LS (tr l) true, .int k m]) H) : SetR Q (.tup [.own b n 0 (tr l).length true, .int k m]) (H.upd b (some (.row ty 1 (U l)))) := by
  refine SetR.frz b (upd_same _ _ _) ?_
  rw [upd_upd, upd_back _ hb, frz, List.map_cons, List.map_cons, List.map_nil, frz2_tr hn, frz2_int]
  exact SetR.now hq
theorem fin_tr3 {l : List Nat} {b ty n : Nat} {H : AHeap} {Q : AV → AHeap → Prop} {k k' : IntKind} {m m' : Int} (hb : H b = none) (hn : l.length = n) (hq : Q (.tup [LS (tr l) true, .int k m, .int k' m']) H) : SetR Q (.tup [.own b n 0 (tr l).length true, .int k m, .int k' m']) (H.upd b (some (.row ty 1 (U l)))) := by
  refine SetR.frz b (upd_same _ _ _) ?_
  rw [upd_upd, upd_back _ hb, frz, List.map_cons, List.map_cons, List.map_cons, List.map_nil, frz2_tr hn, frz2_int, frz2_int]
  exact SetR.now hq

theorem norm_fn {l : List Nat} (t : Bool) (hl : l.length ≤ 70368744177664) : PFn Tryd.prog 138 [LS l t] (LS (tr l) true) := by
  intro H Q hq
  refine enter138 (by simp) ?_
  simp (disch := first|exact Xe|fail) only [ac138, len_LS, len_own, ↓Xa,Xb,Xc,↓reduceIte,Nat.reduceLT,Nat.reduceEqDiff,Nat.reduceBEq,Nat.reduceLeDiff,Nat.reduceAdd,Nat.reduceMul]
  refine (trim_fn l t).call ?_
  have h1 := tr_len l
  simp (disch := first|exact Xe|fail) only [len_LS, len_own, ↓Xa,Xb,Xc,↓reduceIte,Nat.reduceLT,Nat.reduceEqDiff,Nat.reduceBEq,Nat.reduceLeDiff,Nat.reduceAdd,Nat.reduceMul]
  intro h2
  refine newU_i fun b hb => ?_
  simp (disch := first|exact Xe|fail) only [len_LS, len_own, ↓Xa,Xb,Xc,↓reduceIte,Nat.reduceLT,Nat.reduceEqDiff,Nat.reduceBEq,Nat.reduceLeDiff,Nat.reduceAdd,Nat.reduceMul]
  refine cpy_U (upd_same _ _ _) (by simp) rfl ?_
  simp (disch := first|exact Xe|fail) only [rs138, len_LS, len_own, ↓Xa,Xb,Xc,↓reduceIte,Nat.reduceLT,Nat.reduceEqDiff,Nat.reduceBEq,Nat.reduceLeDiff,Nat.reduceAdd,Nat.reduceMul]
  refine SetR.frz b (upd_same _ _ _) ?_
  rw [upd_upd, upd_back _ hb]
  have e : frz b 1 (U (tr l)) (.own b (tr l).length 0 (tr l).length true) = LS (tr l) true := by simp [frz, frz2, frz1, LS, List.take_of_length_le]
  rw [e]; exact SetR.now hq

def cmpZ (a b : Nat) : Int := if a < b then -1 else if b < a then ((1 : Nat) : Int) else ((0 : Nat) : Int)

theorem cmp_fn {a b : List Nat} (ta tb : Bool) (ha : Lim 4294967296 a) (hb : Lim 4294967296 b) : PFn Tryd.prog 148 [LS a ta, LS b tb] (.int .i64 (cmpZ (val 4294967296 a) (val 4294967296 b))) := by
  intro H Q hq
  refine enter148 (by simp) ?_
  simp (disch := first|exact Xe|fail) only [ac148, len_LS, len_own, ↓Xa,Xb,Xc,↓reduceIte,Nat.reduceLT,Nat.reduceEqDiff,Nat.reduceBEq,Nat.reduceLeDiff,Nat.reduceAdd,Nat.reduceMul]
  refine (trim_fn a ta).call ?_
  simp (disch := first|exact Xe|fail) only [len_LS, len_own, ↓Xa,Xb,Xc,↓reduceIte,Nat.reduceLT,Nat.reduceEqDiff,Nat.reduceBEq,Nat.reduceLeDiff,Nat.reduceAdd,Nat.reduceMul]
  refine (trim_fn b tb).call ?_
  rw [tr_digs (by omega) ha, tr_digs (by omega) hb]
  generalize val 4294967296 a = m at *
  generalize val 4294967296 b = n at *
  have hx := lim_digs (B := 4294967296) (by omega) m
  have hy := lim_digs (B := 4294967296) (by omega) n
  have vx := val_digs (B := 4294967296) (by omega) m
  have vy := val_digs (B := 4294967296) (by omega) n
  have lt1 := digs_lt_len (B := 4294967296) (a := m) (b := n) (by omega)
  have lt2 := digs_lt_len (B := 4294967296) (a := n) (b := m) (by omega)
  generalize digs 4294967296 m = x at *
  generalize digs 4294967296 n = y at *
  have less : m < n → SetR Q (.int .i64 (-1)) H := fun h => by
    have : cmpZ m n = -1 := by simp [cmpZ, h]
    rw [← this]; exact SetR.now hq
  have more : n < m → SetR Q (.int .i64 ((1 : Nat) : Int)) H := fun h => by
    have : cmpZ m n = ((1 : Nat) : Int) := by simp [cmpZ, h, Nat.not_lt_of_lt h]
    rw [← this]; exact SetR.now hq
  by_cases c1 : x.length < y.length
  · simp (disch := first|exact Xe|fail) only [c1, rs148, len_LS, len_own, ↓Xa,Xb,Xc,↓reduceIte,Nat.reduceLT,Nat.reduceEqDiff,Nat.reduceBEq,Nat.reduceLeDiff,Nat.reduceAdd,Nat.reduceMul]
    intro _ _
    exact less (lt1 c1)
  by_cases c2 : y.length < x.length
  · simp (disch := first|exact Xe|fail) only [c1, c2, rs148, len_LS, len_own, ↓Xa,Xb,Xc,↓reduceIte,Nat.reduceLT,Nat.reduceEqDiff,Nat.reduceBEq,Nat.reduceLeDiff,Nat.reduceAdd,Nat.reduceMul]
    intro _ _ _ _
    exact more (lt2 c2)
  simp (disch := first|exact Xe|fail) only [c1, c2, len_LS, len_own, ↓Xa,Xb,Xc,↓reduceIte,Nat.reduceLT,Nat.reduceEqDiff,Nat.reduceBEq,Nat.reduceLeDiff,Nat.reduceAdd,Nat.reduceMul]
  intro l1 l2
  intros
  simp (disch := first|exact Xe|fail) only [len_LS, len_own, ↓Xa,Xb,Xc,↓reduceIte,Nat.reduceLT,Nat.reduceEqDiff,Nat.reduceBEq,Nat.reduceLeDiff,Nat.reduceAdd,Nat.reduceMul]
  have hlen : x.length = y.length := by omega
  refine W_loop (fun k : Nat => ⟨[], [(0, LS x true), (1, LS y true), (5, .int .i64 (dn k))], H⟩) (fun k => k ≤ x.length ∧ x.drop k = y.drop k) id x.length (Settle.now rfl) ⟨Nat.le_refl _, by rw [List.drop_of_length_le (Nat.le_refl _), List.drop_of_length_le (by omega)]⟩ ?_
  rintro k ⟨hk, hd⟩
  cases k with
  | zero =>
    simp (disch := first|exact Xe|fail) only [len_LS, len_own, ↓Xa,Xb,Xc,↓reduceIte,Nat.reduceLT,Nat.reduceEqDiff,Nat.reduceBEq,Nat.reduceLeDiff,Nat.reduceAdd,Nat.reduceMul]
    refine Settle.now ?_
    simp (disch := first|exact Xe|fail) only [rs148, len_LS, len_own, ↓Xa,Xb,Xc,↓reduceIte,Nat.reduceLT,Nat.reduceEqDiff,Nat.reduceBEq,Nat.reduceLeDiff,Nat.reduceAdd,Nat.reduceMul]
    have e : m = n := by rw [← vx, ← vy]; rw [List.drop_zero, List.drop_zero] at hd; rw [hd]
    have : cmpZ m n = ((0 : Nat) : Int) := by simp [cmpZ, e]
    rw [← this]; exact SetR.now hq
  | succ k =>
    by_cases d1 : x.getD k 0 < y.getD k 0
    · simp (disch := first|exact Xe|fail) only [d1, rs148, len_LS, len_own, ↓Xa,Xb,Xc,↓reduceIte,Nat.reduceLT,Nat.reduceEqDiff,Nat.reduceBEq,Nat.reduceLeDiff,Nat.reduceAdd,Nat.reduceMul]
      exact less (by rw [← vx, ← vy]; exact val_lt_high hx (by omega) k (by omega) hlen hd d1)
    by_cases d2 : y.getD k 0 < x.getD k 0
    · simp (disch := first|exact Xe|fail) only [d1, d2, rs148, len_LS, len_own, ↓Xa,Xb,Xc,↓reduceIte,Nat.reduceLT,Nat.reduceEqDiff,Nat.reduceBEq,Nat.reduceLeDiff,Nat.reduceAdd,Nat.reduceMul]
      exact more (by rw [← vx, ← vy]; exact val_lt_high hy (by omega) k (by omega) hlen.symm hd.symm d2)
    simp (disch := first|exact Xe|fail) only [d1, d2, len_LS, len_own, ↓Xa,Xb,Xc,↓reduceIte,Nat.reduceLT,Nat.reduceEqDiff,Nat.reduceBEq,Nat.reduceLeDiff,Nat.reduceAdd,Nat.reduceMul]
    refine Settle.now ⟨k, Nat.lt_succ_self k, ⟨by omega, ?_⟩, rfl⟩
    rw [List.drop_eq_getElem_cons (by omega), List.drop_eq_getElem_cons (i := k) (l := y) (by omega), hd]
    congr 1
    have e1 : x.getD k 0 = x[k] := by simp [List.getD_eq_getElem?_getD, List.getElem?_eq_getElem (show k < x.length by omega)]
    have e2 : y.getD k 0 = y[k] := by simp [List.getD_eq_getElem?_getD, List.getElem?_eq_getElem (show k < y.length by omega)]
    omega
end Go.Proofs.YtanchgkiomfhhaaDoor.Fw

/- What package limb computes: sums, differences, products, quotients by one limb. -/
namespace Go.Proofs.YtanchgkiomfhhaaDoor.Fw
set_option linter.unusedSimpArgs false
set_option linter.unusedVariables false
open Go Go.Proofs.YtanchgkiomfhhaaDoor.Ma
set_option maxRecDepth 20000

theorem add_tail {a b : List Nat} {ta tb : Bool} {H : AHeap} {Q : AV → AHeap → Prop} (hab : b.length ≤ a.length) (ha : Lim 4294967296 a) (hb : Lim 4294967296 b) (hl : a.length ≤ 1099511627776)
    (hq : Q (LS (digs 4294967296 (val 4294967296 a + val 4294967296 b)) true) H) : W Tryd.prog (hold (sndC (sndC ac186))) (retN rs186 Q) ⟨[], [(0, LS a ta), (1, LS b tb)], H⟩ := by
  simp (disch := first|exact Xe|fail) only [ac186, hold, sndC, ↓Xa,Xb,Xc,↓reduceIte,Nat.reduceLT,Nat.reduceEqDiff,Nat.reduceBEq,Nat.reduceLeDiff,Nat.reduceAdd,Nat.reduceMul]
  refine newU_i fun o ho => ?_
  simp (disch := first|exact Xe|fail) only [↓Xa,Xb,Xc,↓reduceIte,Nat.reduceLT,Nat.reduceEqDiff,Nat.reduceBEq,Nat.reduceLeDiff,Nat.reduceAdd,Nat.reduceMul]
  refine W_loop (fun p : Nat × Nat × List Nat => ⟨[], [(0, LS a ta), (1, LS b tb), (5, .own o (a.length + 1) 0 (a.length + 1) true), (6, .int .u64 p.2.1), (20, LS a ta), (21, .int .i64 a.length), (22, .int .i64 p.1)],
      H.upd o (some (.row 172 1 (U (p.2.2 ++ List.replicate (a.length + 1 - p.1) 0))))⟩)
    (fun p => p.1 ≤ a.length ∧ AddI a b p.1 p.2.1 p.2.2) (fun p => a.length - p.1) (0, 0, []) (Settle.now rfl) ⟨by simp, AddI.zero a b⟩ ?_
  rintro ⟨i, c, done⟩ ⟨h1, h2⟩
  dsimp only at h1 h2 ⊢
  have hdl := h2.1
  have hc := h2.2.2.1
  by_cases hi : i < a.length
  · have hx := ha.getD (by omega) i
    have hy := hb.getD (by omega) i
    by_cases hj : i < b.length
    · simp (disch := first|exact Xe|fail) only [hi, hj, ↓Xa,Xb,Xc,↓reduceIte,Nat.reduceLT,Nat.reduceEqDiff,Nat.reduceBEq,Nat.reduceLeDiff,Nat.reduceAdd,Nat.reduceMul]
      refine Settle.now ⟨(i + 1, _, done ++ [_]), by dsimp only; omega, ⟨by dsimp only; omega, h2.step ha hb rfl⟩, ?_⟩
      rw [set_zeros' _ _ _ _ hdl (by omega)]
    · simp (disch := first|exact Xe|fail) only [hi, hj, ↓Xa,Xb,Xc,↓reduceIte,Nat.reduceLT,Nat.reduceEqDiff,Nat.reduceBEq,Nat.reduceLeDiff,Nat.reduceAdd,Nat.reduceMul]
      have := getD_beyond (show b.length ≤ i by omega)
      refine Settle.now ⟨(i + 1, _, done ++ [_]), by dsimp only; omega, ⟨by dsimp only; omega, h2.step ha hb (s := c + a.getD i 0) (by omega)⟩, ?_⟩
      rw [set_zeros' _ _ _ _ hdl (by omega)]
  · obtain rfl : i = a.length := by omega
    simp (disch := first|exact Xe|fail) only [hi, ↓Xa,Xb,Xc,↓reduceIte,Nat.reduceLT,Nat.reduceEqDiff,Nat.reduceBEq,Nat.reduceLeDiff,Nat.reduceAdd,Nat.reduceMul]
    refine Settle.now ?_
    simp (disch := first|exact Xe|fail) only [↓Xa,Xb,Xc,↓reduceIte,Nat.reduceLT,Nat.reduceEqDiff,Nat.reduceBEq,Nat.reduceLeDiff,Nat.reduceAdd,Nat.reduceMul]
    rw [set_zeros _ _ _ _ hdl (by omega), show a.length + 1 - a.length - 1 = 0 by omega, List.replicate_zero, List.append_nil]
    refine trim_call (upd_same _ _ _) (by simp [hdl]) ?_
    simp (disch := first|exact Xe|fail) only [rs186, ↓Xa,Xb,Xc,↓reduceIte,Nat.reduceLT,Nat.reduceEqDiff,Nat.reduceBEq,Nat.reduceLeDiff,Nat.reduceAdd,Nat.reduceMul]
    exact fin_tr ho (by simp [hdl]) (by rw [h2.end hab]; exact hq)

theorem add_fn {a b : List Nat} (ta tb : Bool) (ha : Lim 4294967296 a) (hb : Lim 4294967296 b) (hla : a.length ≤ 1099511627776) (hlb : b.length ≤ 1099511627776) : PFn Tryd.prog 186 [LS a ta, LS b tb] (LS (digs 4294967296 (val 4294967296 a + val 4294967296 b)) true) := by
  intro H Q hq
  refine enter186 (by simp) ?_
  rw [show ac186 = .seq (fstC ac186) (.seq (fstC (sndC ac186)) (hold (sndC (sndC ac186)))) from rfl]
  by_cases c : a.length < b.length
  · simp (disch := first|exact Xe|fail) only [c, fstC, sndC, ac186, ↓Xa,Xb,Xc,↓reduceIte,Nat.reduceLT,Nat.reduceEqDiff,Nat.reduceBEq,Nat.reduceLeDiff,Nat.reduceAdd,Nat.reduceMul]
    exact add_tail (by omega) hb ha hlb (by rw [Nat.add_comm]; exact hq)
  · simp (disch := first|exact Xe|fail) only [c, fstC, sndC, ac186, ↓Xa,Xb,Xc,↓reduceIte,Nat.reduceLT,Nat.reduceEqDiff,Nat.reduceBEq,Nat.reduceLeDiff,Nat.reduceAdd,Nat.reduceMul]
    exact add_tail (by omega) ha hb hla hq

theorem sub_fn {a b : List Nat} (ta tb : Bool) (ha : Lim 4294967296 a) (hb : Lim 4294967296 b) (hab : val 4294967296 b ≤ val 4294967296 a) (hl : a.length ≤ 1099511627776) (hlb : b.length ≤ 1099511627776) :
    PFn Tryd.prog 187 [LS a ta, LS b tb] (.tup [LS (digs 4294967296 (val 4294967296 a - val 4294967296 b)) true, .int .i64 ((0 : Nat) : Int)]) := by
  intro H Q hq
  refine enter187 (by simp) ?_
  simp (disch := first|exact Xe|fail) only [ac187, ↓Xa,Xb,Xc,↓reduceIte,Nat.reduceLT,Nat.reduceEqDiff,Nat.reduceBEq,Nat.reduceLeDiff,Nat.reduceAdd,Nat.reduceMul]
  refine (cmp_fn ta tb ha hb).call ?_
  have hc : ∃ n : Nat, cmpZ (val 4294967296 a) (val 4294967296 b) = (n : Int) := by
    by_cases e : val 4294967296 b < val 4294967296 a
    · exact ⟨1, by simp [cmpZ, e, Nat.not_lt_of_lt e]⟩
    · exact ⟨0, by simp [cmpZ, show val 4294967296 a = val 4294967296 b by omega]⟩
  obtain ⟨n, hc⟩ := hc
  simp (disch := first|exact Xe|fail) only [hc, ↓Xa,Xb,Xc,↓reduceIte,Nat.reduceLT,Nat.reduceEqDiff,Nat.reduceBEq,Nat.reduceLeDiff,Nat.reduceAdd,Nat.reduceMul]
  refine newU_i fun o ho => ?_
  simp (disch := first|exact Xe|fail) only [↓Xa,Xb,Xc,↓reduceIte,Nat.reduceLT,Nat.reduceEqDiff,Nat.reduceBEq,Nat.reduceLeDiff,Nat.reduceAdd,Nat.reduceMul]
  refine W_loop (fun p : Nat × Nat × List Nat => ⟨[], [(1, LS b tb), (6, .own o a.length 0 a.length true), (7, .int .u64 p.2.1), (19, LS a ta), (20, .int .i64 a.length), (21, .int .i64 p.1)],
      H.upd o (some (.row 172 1 (U (p.2.2 ++ List.replicate (a.length - p.1) 0))))⟩)
    (fun p => p.1 ≤ a.length ∧ SubI a b p.1 p.2.1 p.2.2) (fun p => a.length - p.1) (0, 0, []) (Settle.now rfl) ⟨by simp, SubI.zero a b⟩ ?_
  rintro ⟨i, c, done⟩ ⟨h1, h2⟩
  dsimp only at h1 h2 ⊢
  have hdl := h2.1
  have hc := h2.2.2.1
  by_cases hi : i < a.length
  · have hx := ha.getD (by omega) i
    have hy := hb.getD (by omega) i
    by_cases hj : i < b.length
    · simp (disch := first|exact Xe|fail) only [hi, hj, ↓Xa,Xb,Xc,↓reduceIte,Nat.reduceLT,Nat.reduceEqDiff,Nat.reduceBEq,Nat.reduceLeDiff,Nat.reduceAdd,Nat.reduceMul]
      refine Settle.now ⟨(i + 1, _, done ++ [_]), by dsimp only; omega, ⟨by dsimp only; omega, h2.step ha hb rfl rfl⟩, ?_⟩
      rw [set_zeros' _ _ _ _ hdl (by omega)]
    · simp (disch := first|exact Xe|fail) only [hi, hj, ↓Xa,Xb,Xc,↓reduceIte,Nat.reduceLT,Nat.reduceEqDiff,Nat.reduceBEq,Nat.reduceLeDiff,Nat.reduceAdd,Nat.reduceMul]
      have := getD_beyond (show b.length ≤ i by omega)
      refine Settle.now ⟨(i + 1, _, done ++ [_]), by dsimp only; omega, ⟨by dsimp only; omega, h2.step ha hb (y := c) (by omega) rfl⟩, ?_⟩
      rw [set_zeros' _ _ _ _ hdl (by omega)]
  · obtain rfl : i = a.length := by omega
    simp (disch := first|exact Xe|fail) only [hi, ↓Xa,Xb,Xc,↓reduceIte,Nat.reduceLT,Nat.reduceEqDiff,Nat.reduceBEq,Nat.reduceLeDiff,Nat.reduceAdd,Nat.reduceMul]
    refine Settle.now ?_
    simp (disch := first|exact Xe|fail) only [Nat.sub_self, List.replicate_zero, ↓Xa,Xb,Xc,↓reduceIte,Nat.reduceLT,Nat.reduceEqDiff,Nat.reduceBEq,Nat.reduceLeDiff,Nat.reduceAdd,Nat.reduceMul]
    refine trim_call (upd_same _ _ _) hdl ?_
    simp (disch := first|exact Xe|fail) only [rs187, ↓Xa,Xb,Xc,↓reduceIte,Nat.reduceLT,Nat.reduceEqDiff,Nat.reduceBEq,Nat.reduceLeDiff,Nat.reduceAdd,Nat.reduceMul]
    exact fin_tr2 ho hdl (by rw [h2.end ha hab]; exact hq)

theorem mul_fn {a b : List Nat} (ta tb : Bool) (ha : Lim 4294967296 a) (hb : Lim 4294967296 b) (hla : a.length ≤ 1099511627776) (hlb : b.length ≤ 1099511627776) :
    PFn Tryd.prog 171 [LS a ta, LS b tb] (LS (digs 4294967296 (val 4294967296 a * val 4294967296 b)) true) := by
  intro H Q hq
  refine enter171 (by simp) ?_
  simp (disch := first|exact Xe|fail) only [ac171, ↓Xa,Xb,Xc,↓reduceIte,Nat.reduceLT,Nat.reduceEqDiff,Nat.reduceBEq,Nat.reduceLeDiff,Nat.reduceAdd,Nat.reduceMul]
  refine newU_i fun o ho => ?_
  simp (disch := first|exact Xe|fail) only [↓Xa,Xb,Xc,↓reduceIte,Nat.reduceLT,Nat.reduceEqDiff,Nat.reduceBEq,Nat.reduceLeDiff,Nat.reduceAdd,Nat.reduceMul]
  refine W_loop (fun p : Nat × List Nat => ⟨[], [(1, LS b tb), (5, .own o (a.length + b.length) 0 (a.length + b.length) true), (17, LS a ta), (18, .int .i64 a.length), (19, .int .i64 p.1)],
      H.upd o (some (.row 172 1 (U p.2)))⟩)
    (fun p => p.1 ≤ a.length ∧ MulI a b p.1 p.2) (fun p => a.length - p.1) (0, List.replicate (a.length + b.length) 0) (Settle.now rfl) ⟨by simp, MulI.zero a b⟩ ?_
  rintro ⟨i, out⟩ ⟨h1, h2⟩
  dsimp only at h1 h2 ⊢
  have hol := h2.1
  by_cases hi : i < a.length
  · simp (disch := first|exact Xe|fail) only [hi, ↓Xa,Xb,Xc,↓reduceIte,Nat.reduceLT,Nat.reduceEqDiff,Nat.reduceBEq,Nat.reduceLeDiff,Nat.reduceAdd,Nat.reduceMul]
    refine W_loop (fun p : Nat × Nat × List Nat => ⟨[], [(1, LS b tb), (5, .own o (a.length + b.length) 0 (a.length + b.length) true), (6, .int .i64 i), (7, .int .u32 (a.getD i 0 : Nat)), (8, .int .u64 p.2.1), (17, LS a ta), (18, .int .i64 a.length), (19, .int .i64 i), (24, LS b tb), (25, .int .i64 b.length), (26, .int .i64 p.1)],
      H.upd o (some (.row 172 1 (U p.2.2)))⟩)
      (fun p => p.1 ≤ b.length ∧ MulK a b i p.1 p.2.1 p.2.2) (fun p => b.length - p.1) (0, 0, out) (Settle.now rfl) ⟨by simp, MulK.start h2⟩ ?_
    rintro ⟨k, c, out⟩ ⟨g1, g2⟩
    dsimp only at g1 g2 ⊢
    have gol := g2.1
    have gc := g2.2.2.1
    have hx := ha.getD (by omega) i
    by_cases hk : k < b.length
    · have hy := hb.getD (by omega) k
      have ho := g2.2.1.getD (by omega) (i + k)
      have hm : a.getD i 0 * b.getD k 0 ≤ 4294967295 * 4294967295 := Nat.mul_le_mul (by omega) (by omega)
      simp (disch := first|exact Xe|fail) only [hk, ↓Xa,Xb,Xc,↓reduceIte,Nat.reduceLT,Nat.reduceEqDiff,Nat.reduceBEq,Nat.reduceLeDiff,Nat.reduceAdd,Nat.reduceMul]
      refine Settle.now ⟨(k + 1, _, _), by dsimp only; omega, ⟨by dsimp only; omega, g2.step hi hk ha hb rfl⟩, rfl⟩
    · obtain rfl : k = b.length := by omega
      simp (disch := first|exact Xe|fail) only [hk, ↓Xa,Xb,Xc,↓reduceIte,Nat.reduceLT,Nat.reduceEqDiff,Nat.reduceBEq,Nat.reduceLeDiff,Nat.reduceAdd,Nat.reduceMul]
      refine Settle.now ?_
      simp (disch := first|exact Xe|fail) only [↓Xa,Xb,Xc,↓reduceIte,Nat.reduceLT,Nat.reduceEqDiff,Nat.reduceBEq,Nat.reduceLeDiff,Nat.reduceAdd,Nat.reduceMul]
      refine Settle.now ⟨(i + 1, _), by dsimp only; omega, ⟨by dsimp only; omega, g2.end hi⟩, rfl⟩
  · obtain rfl : i = a.length := by omega
    simp (disch := first|exact Xe|fail) only [hi, ↓Xa,Xb,Xc,↓reduceIte,Nat.reduceLT,Nat.reduceEqDiff,Nat.reduceBEq,Nat.reduceLeDiff,Nat.reduceAdd,Nat.reduceMul]
    refine Settle.now ?_
    simp (disch := first|exact Xe|fail) only [↓Xa,Xb,Xc,↓reduceIte,Nat.reduceLT,Nat.reduceEqDiff,Nat.reduceBEq,Nat.reduceLeDiff,Nat.reduceAdd,Nat.reduceMul]
    refine trim_call (upd_same _ _ _) hol ?_
    simp (disch := first|exact Xe|fail) only [rs171, ↓Xa,Xb,Xc,↓reduceIte,Nat.reduceLT,Nat.reduceEqDiff,Nat.reduceBEq,Nat.reduceLeDiff,Nat.reduceAdd,Nat.reduceMul]
    exact fin_tr ho hol (by rw [h2.end]; exact hq)

theorem divsmall_fn {a : List Nat} {d : Nat} (ta : Bool) (ha : Lim 4294967296 a) (hd : 0 < d) (hd' : d < 4294967296) (hla : a.length ≤ 1099511627776) :
    PFn Tryd.prog 212 [LS a ta, .int .u32 (d : Nat)] (.tup [LS (digs 4294967296 (val 4294967296 a / d)) true, .int .u32 ((val 4294967296 a % d : Nat) : Int), .int .i64 ((0 : Nat) : Int)]) := by
  intro H Q hq
  refine enter212 (by simp) ?_
  have hne : (d = 0) = False := by simp; omega
  simp (disch := first|exact Xe|fail) only [ac212, hne, ↓Xa,Xb,Xc,↓reduceIte,Nat.reduceLT,Nat.reduceEqDiff,Nat.reduceBEq,Nat.reduceLeDiff,Nat.reduceAdd,Nat.reduceMul]
  refine newU_i fun o ho => ?_
  simp (disch := first|exact Xe|fail) only [↓Xa,Xb,Xc,↓reduceIte,Nat.reduceLT,Nat.reduceEqDiff,Nat.reduceBEq,Nat.reduceLeDiff,Nat.reduceAdd,Nat.reduceMul]
  refine W_loop (fun p : Nat × Nat × List Nat => ⟨[], [(0, LS a ta), (1, .int .u32 (d : Nat)), (7, .own o a.length 0 a.length true), (8, .int .u64 p.2.1), (9, .int .i64 (dn p.1))],
      H.upd o (some (.row 172 1 (U p.2.2)))⟩)
    (fun p => p.1 ≤ a.length ∧ DivI a d p.1 p.2.1 p.2.2) (fun p => p.1) (a.length, 0, List.replicate a.length 0) (Settle.now rfl) ⟨by simp, DivI.zero a hd⟩ ?_
  rintro ⟨k, r, out⟩ ⟨h1, h2⟩
  dsimp only at h1 h2 ⊢
  have hol := h2.1
  have hr := h2.2.2.1
  cases k with
  | zero =>
    simp (disch := first|exact Xe|fail) only [↓Xa,Xb,Xc,↓reduceIte,Nat.reduceLT,Nat.reduceEqDiff,Nat.reduceBEq,Nat.reduceLeDiff,Nat.reduceAdd,Nat.reduceMul]
    refine Settle.now ?_
    simp (disch := first|exact Xe|fail) only [↓Xa,Xb,Xc,↓reduceIte,Nat.reduceLT,Nat.reduceEqDiff,Nat.reduceBEq,Nat.reduceLeDiff,Nat.reduceAdd,Nat.reduceMul]
    refine trim_call (upd_same _ _ _) hol ?_
    simp (disch := first|exact Xe|fail) only [rs212, ↓Xa,Xb,Xc,↓reduceIte,Nat.reduceLT,Nat.reduceEqDiff,Nat.reduceBEq,Nat.reduceLeDiff,Nat.reduceAdd,Nat.reduceMul]
    rw [h2.end.2]
    exact fin_tr3 ho hol (by rw [h2.end.1]; exact hq)
  | succ k =>
    have hx := ha.getD (by omega) k
    have hs : r * 2 ^ 32 + a.getD k 0 < 18446744073709551616 := by omega
    have hq : (r * 2 ^ 32 + a.getD k 0) / d < 18446744073709551616 := Nat.lt_of_le_of_lt (Nat.div_le_self _ _) hs
    simp (disch := first|exact Xe|fail) only [hne, ne_eq, ↓Xa,Xb,Xc,↓reduceIte,Nat.reduceLT,Nat.reduceEqDiff,Nat.reduceBEq,Nat.reduceLeDiff,Nat.reduceAdd,Nat.reduceMul]
    refine Settle.now ⟨(k, _, _), by dsimp only; omega, ⟨by dsimp only; omega, h2.step (by omega) ha hd' rfl⟩, rfl⟩
end Go.Proofs.YtanchgkiomfhhaaDoor.Fw

/- Binary digits of limbs. -/
namespace Go.Proofs.YtanchgkiomfhhaaDoor.Fw
set_option linter.unusedSimpArgs false
set_option linter.unusedVariables false
open Go Go.Proofs.YtanchgkiomfhhaaDoor.Ma
set_option maxRecDepth 20000

theorem lss_f {n : Nat} {K : AV → Prop} : binW .lss (.int .i64 (n : Int)) (.int .i64 ((0 : Nat) : Int)) K ↔ K (.bool false) := by rw [bin_lss]; simp
theorem idxS_nat {s : ByteArray} {k : IntKind} {j : Nat} {K : AV → Prop} (h : j < s.size) : idxSW (.str s) (.int k (j : Int)) K = K (.int .u8 ((byteAt s j : Nat) : Int)) := by
  simp [idxSW, h]
theorem len8 : ∀ j, j < 256 → byteAt ⟨#[0, 1, 2, 2, 3, 3, 3, 3, 4, 4, 4, 4, 4, 4, 4, 4, 5, 5, 5, 5, 5, 5, 5, 5, 5, 5, 5, 5, 5, 5, 5, 5, 6, 6, 6, 6, 6, 6, 6, 6, 6, 6, 6, 6, 6, 6, 6, 6, 6, 6, 6, 6, 6, 6, 6, 6, 6, 6, 6, 6, 6, 6, 6, 6, 7, 7, 7, 7, 7, 7, 7, 7, 7, 7, 7, 7, 7, 7, 7, 7, 7, 7, 7, 7, 7, 7, 7, 7, 7, 7, 7, 7, 7, 7, 7, 7, 7, 7, 7, 7, 7, 7, 7, 7, 7, 7, 7, 7, 7, 7, 7, 7, 7, 7, 7, 7, 7, 7, 7, 7, 7, 7, 7, 7, 7, 7, 7, 7, 8, 8, 8, 8, 8, 8, 8, 8, 8, 8, 8, 8, 8, 8, 8, 8, 8, 8, 8, 8, 8, 8, 8, 8, 8, 8, 8, 8, 8, 8, 8, 8, 8, 8, 8, 8, 8, 8, 8, 8, 8, 8, 8, 8, 8, 8, 8, 8, 8, 8, 8, 8, 8, 8, 8, 8, 8, 8, 8, 8, 8, 8, 8, 8, 8, 8, 8, 8, 8, 8, 8, 8, 8, 8, 8, 8, 8, 8, 8, 8, 8, 8, 8, 8, 8, 8, 8, 8, 8, 8, 8, 8, 8, 8, 8, 8, 8, 8, 8, 8, 8, 8, 8, 8, 8, 8, 8, 8, 8, 8, 8, 8, 8, 8, 8, 8, 8, 8, 8, 8, 8, 8, 8, 8, 8, 8, 8, 8]⟩ j = blen j := by decide +kernel
theorem idx8 {k : IntKind} {j : Nat} {K : AV → Prop} (h : j < 256) : idxSW (.str ⟨#[0, 1, 2, 2, 3, 3, 3, 3, 4, 4, 4, 4, 4, 4, 4, 4, 5, 5, 5, 5, 5, 5, 5, 5, 5, 5, 5, 5, 5, 5, 5, 5, 6, 6, 6, 6, 6, 6, 6, 6, 6, 6, 6, 6, 6, 6, 6, 6, 6, 6, 6, 6, 6, 6, 6, 6, 6, 6, 6, 6, 6, 6, 6, 6, 7, 7, 7, 7, 7, 7, 7, 7, 7, 7, 7, 7, 7, 7, 7, 7, 7, 7, 7, 7, 7, 7, 7, 7, 7, 7, 7, 7, 7, 7, 7, 7, 7, 7, 7, 7, 7, 7, 7, 7, 7, 7, 7, 7, 7, 7, 7, 7, 7, 7, 7, 7, 7, 7, 7, 7, 7, 7, 7, 7, 7, 7, 7, 7, 8, 8, 8, 8, 8, 8, 8, 8, 8, 8, 8, 8, 8, 8, 8, 8, 8, 8, 8, 8, 8, 8, 8, 8, 8, 8, 8, 8, 8, 8, 8, 8, 8, 8, 8, 8, 8, 8, 8, 8, 8, 8, 8, 8, 8, 8, 8, 8, 8, 8, 8, 8, 8, 8, 8, 8, 8, 8, 8, 8, 8, 8, 8, 8, 8, 8, 8, 8, 8, 8, 8, 8, 8, 8, 8, 8, 8, 8, 8, 8, 8, 8, 8, 8, 8, 8, 8, 8, 8, 8, 8, 8, 8, 8, 8, 8, 8, 8, 8, 8, 8, 8, 8, 8, 8, 8, 8, 8, 8, 8, 8, 8, 8, 8, 8, 8, 8, 8, 8, 8, 8, 8, 8, 8, 8, 8, 8, 8]⟩) (.int k (j : Int)) K = K (.int .u8 ((blen j : Nat) : Int)) := by
  have sz : (⟨#[0, 1, 2, 2, 3, 3, 3, 3, 4, 4, 4, 4, 4, 4, 4, 4, 5, 5, 5, 5, 5, 5, 5, 5, 5, 5, 5, 5, 5, 5, 5, 5, 6, 6, 6, 6, 6, 6, 6, 6, 6, 6, 6, 6, 6, 6, 6, 6, 6, 6, 6, 6, 6, 6, 6, 6, 6, 6, 6, 6, 6, 6, 6, 6, 7, 7, 7, 7, 7, 7, 7, 7, 7, 7, 7, 7, 7, 7, 7, 7, 7, 7, 7, 7, 7, 7, 7, 7, 7, 7, 7, 7, 7, 7, 7, 7, 7, 7, 7, 7, 7, 7, 7, 7, 7, 7, 7, 7, 7, 7, 7, 7, 7, 7, 7, 7, 7, 7, 7, 7, 7, 7, 7, 7, 7, 7, 7, 7, 8, 8, 8, 8, 8, 8, 8, 8, 8, 8, 8, 8, 8, 8, 8, 8, 8, 8, 8, 8, 8, 8, 8, 8, 8, 8, 8, 8, 8, 8, 8, 8, 8, 8, 8, 8, 8, 8, 8, 8, 8, 8, 8, 8, 8, 8, 8, 8, 8, 8, 8, 8, 8, 8, 8, 8, 8, 8, 8, 8, 8, 8, 8, 8, 8, 8, 8, 8, 8, 8, 8, 8, 8, 8, 8, 8, 8, 8, 8, 8, 8, 8, 8, 8, 8, 8, 8, 8, 8, 8, 8, 8, 8, 8, 8, 8, 8, 8, 8, 8, 8, 8, 8, 8, 8, 8, 8, 8, 8, 8, 8, 8, 8, 8, 8, 8, 8, 8, 8, 8, 8, 8, 8, 8, 8, 8, 8, 8]⟩ : ByteArray).size = 256 := by decide +kernel
  rw [idxS_nat (by rw [sz]; exact h), len8 j h]
theorem len32_fn {x : Nat} (hx : x < 4294967296) : PFn Tryd.prog 217 [.int .u32 (x : Int)] (.int .i64 ((blen x : Nat) : Int)) := by
  intro H Q hq
  have hb : blen x ≤ 32 := blen_le.2 (by omega)
  refine enter217 (by simp) ?_
  by_cases h1 : 65536 ≤ x
  · have e1 := blen_shift (n := x) (s := 16) h1
    by_cases h2 : 256 ≤ x / 2 ^ 16
    · have e2 := blen_shift (n := x / 2 ^ 16) (s := 8) h2
      have h3 : x / 2 ^ 16 / 2 ^ 8 < 256 := by omega
      have hl : blen (x / 2 ^ 16 / 2 ^ 8) ≤ 8 := blen_le.2 h3
      simp (disch := first|exact Xe|fail) only [ac217, h1, h2, idx8, rs217, ↓Xa,Xb,Xc,↓reduceIte,Nat.reduceLT,Nat.reduceEqDiff,Nat.reduceBEq,Nat.reduceLeDiff,Nat.reduceAdd,Nat.reduceMul]
      refine SetR.now ?_
      rwa [show 16 + 8 + blen (x / 2 ^ 16 / 2 ^ 8) = blen x by omega]
    · have h3 : x / 2 ^ 16 < 256 := by omega
      have hl : blen (x / 2 ^ 16) ≤ 8 := blen_le.2 h3
      simp (disch := first|exact Xe|fail) only [ac217, h1, h2, idx8, rs217, ↓Xa,Xb,Xc,↓reduceIte,Nat.reduceLT,Nat.reduceEqDiff,Nat.reduceBEq,Nat.reduceLeDiff,Nat.reduceAdd,Nat.reduceMul]
      refine SetR.now ?_
      rwa [show 16 + blen (x / 2 ^ 16) = blen x by omega]
  · by_cases h2 : 256 ≤ x
    · have e2 := blen_shift (n := x) (s := 8) h2
      have h3 : x / 2 ^ 8 < 256 := by omega
      have hl : blen (x / 2 ^ 8) ≤ 8 := blen_le.2 h3
      simp (disch := first|exact Xe|fail) only [ac217, h1, h2, idx8, rs217, ↓Xa,Xb,Xc,↓reduceIte,Nat.reduceLT,Nat.reduceEqDiff,Nat.reduceBEq,Nat.reduceLeDiff,Nat.reduceAdd,Nat.reduceMul]
      refine SetR.now ?_
      rwa [show 0 + 8 + blen (x / 2 ^ 8) = blen x by omega]
    · have hl : blen x ≤ 8 := blen_le.2 (by omega)
      simp (disch := first|exact Xe|fail) only [ac217, h1, h2, idx8, rs217, ↓Xa,Xb,Xc,↓reduceIte,Nat.reduceLT,Nat.reduceEqDiff,Nat.reduceBEq,Nat.reduceLeDiff,Nat.reduceAdd,Nat.reduceMul]
      refine SetR.now ?_
      exact hq

end Go.Proofs.YtanchgkiomfhhaaDoor.Fw

/- What package limb computes: shifts. -/
namespace Go.Proofs.YtanchgkiomfhhaaDoor.Fw
set_option linter.unusedSimpArgs false
set_option linter.unusedVariables false
open Go Go.Proofs.YtanchgkiomfhhaaDoor.Ma
set_option maxRecDepth 20000

theorem lz_fn {x : Nat} (hx : x < 4294967296) : PFn Tryd.prog 218 [.int .u32 (x : Int)] (.int .i64 ((32 - blen x : Nat) : Int)) := by
  intro H Q hq
  have hb : blen x ≤ 32 := blen_le.2 (by omega)
  refine enter218 (by simp) ?_
  simp (disch := first|exact Xe|fail) only [ac218, ↓Xa,Xb,Xc,↓reduceIte,Nat.reduceLT,Nat.reduceEqDiff,Nat.reduceBEq,Nat.reduceLeDiff,Nat.reduceAdd,Nat.reduceMul]
  refine (len32_fn hx).call ?_
  simp (disch := first|exact Xe|fail) only [rs218, ↓Xa,Xb,Xc,↓reduceIte,Nat.reduceLT,Nat.reduceEqDiff,Nat.reduceBEq,Nat.reduceLeDiff,Nat.reduceAdd,Nat.reduceMul]
  exact SetR.now hq

theorem shl_fn {a : List Nat} {s : Nat} (t : Bool) (ha : Lim 4294967296 a) (hs : s ≤ 65536) (hn : a.length ≤ 1099511627776) : PFn Tryd.prog 219 [LS a t, .int .i64 (s : Int)] (.tup [LS (digs 4294967296 (val 4294967296 a * 2 ^ s)) true, .int .i64 ((0 : Nat) : Int)]) := by
  intro H Q hq
  have hnl : ¬ 65536 < s := by omega
  refine enter219 (by simp) ?_
  simp (disch := first|exact Xe|fail) only [ac219, lss_f, hnl, ne_eq,Nat.reduceEqDiff, ↓Xa,Xb,Xc,↓reduceIte,Nat.reduceLT,Nat.reduceEqDiff,Nat.reduceBEq,Nat.reduceLeDiff,Nat.reduceAdd,Nat.reduceMul]
  refine newU_i fun o ho => ?_
  simp (disch := first|exact Xe|fail) only [ne_eq,Nat.reduceEqDiff, ↓Xa,Xb,Xc,↓reduceIte,Nat.reduceLT,Nat.reduceEqDiff,Nat.reduceBEq,Nat.reduceLeDiff,Nat.reduceAdd,Nat.reduceMul]
  have hr : s % 32 < 32 := Nat.mod_lt _ (by omega)
  have hse : 32 * (s / 32) + s % 32 = s := Nat.div_add_mod s 32
  generalize hq32 : s / 32 = q at *
  generalize hp32 : s % 32 = p at *
  refine W_loop (fun x : Nat × Nat × List Nat => ⟨[], [(1, .int .i64 s), (6, .own o (a.length + q + 1) 0 (a.length + q + 1) true), (7, .int .i64 p), (24, LS a t), (25, .int .i64 a.length), (26, .int .i64 x.1)],
      H.upd o (some (.row 172 1 (U (rowS q x.2.2 x.2.1 (a.length - x.1)))))⟩)
    (fun x => x.1 ≤ a.length ∧ ShlI a p x.1 x.2.1 x.2.2) (fun x => a.length - x.1) (0, 0, []) (Settle.now (by rw [Nat.sub_zero, rowS_zero, show q + (a.length + 1) = a.length + q + 1 by omega])) ⟨by simp, ShlI.zero a p⟩ ?_
  rintro ⟨i, c, done⟩ ⟨h1, h2⟩
  dsimp only at h1 h2 ⊢
  have hd := h2.1
  by_cases hi : i < a.length
  · have hx := ha.getD (by omega) i
    subst hd
    obtain ⟨k1, k2, k3⟩ := h2.step hr ha rfl
    have hc := h2.2.2.1
    obtain ⟨m, hm⟩ : ∃ m, a.length - done.length = m + 1 := ⟨a.length - done.length - 1, by omega⟩
    have hy : a.getD done.length 0 * 2 ^ p < 18446744073709551616 := by
      have : a.getD done.length 0 * 2 ^ p ≤ 4294967295 * 2 ^ 31 := Nat.mul_le_mul (by omega) (Nat.pow_le_pow_right (by omega) (by omega))
      omega
    have hp64 : p ≤ 64 := by omega
    have hpl : (2 : Nat) ^ p ≤ 2 ^ 31 := Nat.pow_le_pow_right (by omega) (by omega)
    have lo := or_low (m := a.getD done.length 0 * 2 ^ p % 4294967296) hc (shl_low hr)
    generalize hY : a.getD done.length 0 * 2 ^ p = y at *
    have len1 : ∀ c, (rowS q done c (m + 1)).length = a.length + q + 1 := fun c => by rw [rowS_len]; omega
    have len2 := len1 c
    have len3 := len1 (c + y % 4294967296)
    have or1 : ∀ K, binW .or (.int .u32 (c : Int)) (.int .u32 ((y % 4294967296 : Nat) : Int)) K ↔ K (.int .u32 ((c + y % 4294967296 : Nat) : Int)) := fun K => by
      rw [bin_or .u32 (by simp only [IntKind.bits]; omega) (by simp only [IntKind.bits]; omega), lo, wn_u32 k1]
    have or2 : ∀ K, binW .or (.int .u32 ((0 : Nat) : Int)) (.int .u32 ((y / 2 ^ 32 : Nat) : Int)) K ↔ K (.int .u32 ((y / 2 ^ 32 : Nat) : Int)) := fun K => by
      rw [bin_or .u32 (by simp [IntKind.bits]) (by simp only [IntKind.bits]; omega), Nat.zero_or, wn_u32 (by omega)]
    rw [hm]
    simp (disch := first|exact Xe|fail) only [hi, hq32, hp32, hY, bin_shl64, rowS_get, rowS_set, rowS_get1, rowS_set1, or1, or2, ne_eq,Nat.reduceEqDiff, ↓Xa,Xb,Xc,↓reduceIte,Nat.reduceLT,Nat.reduceEqDiff,Nat.reduceBEq,Nat.reduceLeDiff,Nat.reduceAdd,Nat.reduceMul]
    refine Settle.now ⟨(done.length + 1, _, _), by dsimp only; omega, ⟨by dsimp only; omega, k3⟩, ?_⟩
    rw [show a.length - (done.length + 1) = m by omega]
  · obtain rfl : i = a.length := by omega
    simp (disch := first|exact Xe|fail) only [hi, Nat.sub_self, ↓Xa,Xb,Xc,↓reduceIte,Nat.reduceLT,Nat.reduceEqDiff,Nat.reduceBEq,Nat.reduceLeDiff,Nat.reduceAdd,Nat.reduceMul]
    refine Settle.now ?_
    have len0 : (rowS q done c 0).length = a.length + q + 1 := by rw [rowS_len]; omega
    simp (disch := first|exact Xe|fail) only [↓Xa,Xb,Xc,↓reduceIte,Nat.reduceLT,Nat.reduceEqDiff,Nat.reduceBEq,Nat.reduceLeDiff,Nat.reduceAdd,Nat.reduceMul]
    refine trim_call (upd_same _ _ _) len0 ?_
    simp (disch := first|exact Xe|fail) only [rs219, ↓Xa,Xb,Xc,↓reduceIte,Nat.reduceLT,Nat.reduceEqDiff,Nat.reduceBEq,Nat.reduceLeDiff,Nat.reduceAdd,Nat.reduceMul]
    have e := h2.end (q := q) hr
    rw [hse] at e
    exact fin_tr2 ho len0 (by rw [e]; exact hq)

theorem shr_fn {a : List Nat} {s : Nat} (t : Bool) (ha : Lim 4294967296 a) (hs : s < 9223372036854775808) (hn : a.length ≤ 1099511627776) : PFn Tryd.prog 221 [LS a t, .int .i64 (s : Int)] (.tup [LS (digs 4294967296 (val 4294967296 a / 2 ^ s)) true, .int .i64 ((0 : Nat) : Int)]) := by
  intro H Q hq
  refine enter221 (by simp) ?_
  simp (disch := first|exact Xe|fail) only [ac221, lss_f, ne_eq,Nat.reduceEqDiff, ↓Xa,Xb,Xc,↓reduceIte,Nat.reduceLT,Nat.reduceEqDiff,Nat.reduceBEq,Nat.reduceLeDiff,Nat.reduceAdd,Nat.reduceMul]
  refine (trim_fn a t).call ?_
  have ht := tr_len a
  rw [tr_digs (by omega) ha] at ht ⊢
  generalize val 4294967296 a = N at *
  have hse : 32 * (s / 32) + s % 32 = s := Nat.div_add_mod s 32
  have hr : s % 32 < 32 := Nat.mod_lt _ (by omega)
  have hsq : s / 32 < 9223372036854775808 := by omega
  generalize hq32 : s / 32 = q at *
  generalize hp32 : s % 32 = p at *
  have hN := val_digs (B := 4294967296) (by omega) N
  have hX := lim_digs (B := 4294967296) (by omega) N
  have hpow : (2 : Nat) ^ s = 4294967296 ^ q * 2 ^ p := by rw [← hse, Nat.pow_add, Nat.pow_mul]
  by_cases hql : (digs 4294967296 N).length ≤ q
  · simp (disch := first|exact Xe|fail) only [hq32, hql, ne_eq,Nat.reduceEqDiff, rs221, ↓Xa,Xb,Xc,↓reduceIte,Nat.reduceLT,Nat.reduceEqDiff,Nat.reduceBEq,Nat.reduceLeDiff,Nat.reduceAdd,Nat.reduceMul]
    have h0 : N / 2 ^ s = 0 := by
      apply Nat.div_eq_of_lt
      have h1 := val_lt hX
      rw [hN] at h1
      have h2 : (4294967296 : Nat) ^ (digs 4294967296 N).length ≤ 4294967296 ^ q := Nat.pow_le_pow_right (by omega) hql
      have h3 : 4294967296 ^ q * 1 ≤ 4294967296 ^ q * 2 ^ p := Nat.mul_le_mul_left _ (Nat.pow_pos (by omega))
      omega
    rw [h0, digs_zero] at hq
    exact SetR.now hq
  · have hvd := val_drop_div (B := 4294967296) (by omega) hX (q := q) (by omega)
    rw [hN] at hvd
    have hXd := hX.drop q
    have hdl : ((digs 4294967296 N).drop q).length ≤ a.length := by rw [List.length_drop]; omega
    simp (disch := first|exact Xe|fail) only [hq32, hql, ne_eq,Nat.reduceEqDiff, ↓Xa,Xb,Xc,↓reduceIte,Nat.reduceLT,Nat.reduceEqDiff,Nat.reduceBEq,Nat.reduceLeDiff,Nat.reduceAdd,Nat.reduceMul]
    generalize (digs 4294967296 N).drop q = x at *
    simp (disch := first|exact Xe|fail) only [hq32, hp32, ne_eq,Nat.reduceEqDiff, ↓Xa,Xb,Xc,↓reduceIte,Nat.reduceLT,Nat.reduceEqDiff,Nat.reduceBEq,Nat.reduceLeDiff,Nat.reduceAdd,Nat.reduceMul]
    refine newU_i fun o ho => ?_
    simp (disch := first|exact Xe|fail) only [↓Xa,Xb,Xc,↓reduceIte,Nat.reduceLT,Nat.reduceEqDiff,Nat.reduceBEq,Nat.reduceLeDiff,Nat.reduceAdd,Nat.reduceMul]
    refine W_loop (fun z : Nat × List Nat => ⟨[], [(0, LS x true), (6, .int .i64 p), (7, .own o x.length 0 x.length true), (29, LS x true), (30, .int .i64 x.length), (31, .int .i64 z.1)],
        H.upd o (some (.row 172 1 (U (z.2 ++ List.replicate (x.length - z.1) 0))))⟩)
      (fun z => z.1 ≤ x.length ∧ ShrI (val 4294967296 x) p z.1 z.2) (fun z => x.length - z.1) (0, []) (Settle.now rfl) ⟨by simp, rfl, Lim.nil _, by simp [val, Nat.mod_one]⟩ ?_
    rintro ⟨i, done⟩ ⟨h1, h2⟩
    dsimp only at h1 h2 ⊢
    have hd := h2.1
    by_cases hi : i < x.length
    · have hx0 := hXd.getD (by omega) i
      have hx1 := hXd.getD (by omega) (i + 1)
      have hp64 : p ≤ 64 := by omega
      by_cases hj : i + 1 < x.length
      · have hyb : (x.getD i 0 + x.getD (i + 1) 0 * 2 ^ 32) / 2 ^ p < 18446744073709551616 := Nat.lt_of_le_of_lt (Nat.div_le_self _ _) (by omega)
        simp (disch := first|exact Xe|fail) only [hi, hj, ↓Xa,Xb,Xc,↓reduceIte,Nat.reduceLT,Nat.reduceEqDiff,Nat.reduceBEq,Nat.reduceLeDiff,Nat.reduceAdd,Nat.reduceMul]
        refine Settle.now ⟨(i + 1, done ++ [_]), by dsimp only; omega, ⟨by dsimp only; omega, h2.step hr hXd hi rfl⟩, ?_⟩
        rw [set_zeros' _ _ _ _ hd hi]
      · have h0 := getD_beyond (show x.length ≤ i + 1 by omega)
        have e0 : x.getD i 0 / 2 ^ p < 18446744073709551616 := Nat.lt_of_le_of_lt (Nat.div_le_self _ _) (by omega)
        simp (disch := first|exact Xe|fail) only [hi, hj, ↓Xa,Xb,Xc,↓reduceIte,Nat.reduceLT,Nat.reduceEqDiff,Nat.reduceBEq,Nat.reduceLeDiff,Nat.reduceAdd,Nat.reduceMul]
        refine Settle.now ⟨(i + 1, done ++ [_]), by dsimp only; omega, ⟨by dsimp only; omega, h2.step hr hXd hi (y := x.getD i 0) (by rw [h0]; omega)⟩, ?_⟩
        rw [set_zeros' _ _ _ _ hd hi]
    · obtain rfl : i = x.length := by omega
      simp (disch := first|exact Xe|fail) only [hi, Nat.sub_self, List.replicate_zero, ↓Xa,Xb,Xc,↓reduceIte,Nat.reduceLT,Nat.reduceEqDiff,Nat.reduceBEq,Nat.reduceLeDiff,Nat.reduceAdd,Nat.reduceMul]
      refine Settle.now ?_
      simp (disch := first|exact Xe|fail) only [↓Xa,Xb,Xc,↓reduceIte,Nat.reduceLT,Nat.reduceEqDiff,Nat.reduceBEq,Nat.reduceLeDiff,Nat.reduceAdd,Nat.reduceMul]
      refine trim_call (upd_same _ _ _) hd ?_
      simp (disch := first|exact Xe|fail) only [rs221, ↓Xa,Xb,Xc,↓reduceIte,Nat.reduceLT,Nat.reduceEqDiff,Nat.reduceBEq,Nat.reduceLeDiff,Nat.reduceAdd,Nat.reduceMul]
      refine fin_tr2 ho hd ?_
      rw [h2.end hXd, hvd, Nat.div_div_eq_div_mul, ← hpow]; exact hq
end Go.Proofs.YtanchgkiomfhhaaDoor.Fw

/- What package limb computes: a quotient's digit. -/
namespace Go.Proofs.YtanchgkiomfhhaaDoor.Fw
set_option linter.unusedSimpArgs false
set_option linter.unusedVariables false
open Go Go.Proofs.YtanchgkiomfhhaaDoor.Ma
set_option maxRecDepth 20000

section
variable {H : AHeap} {b ty off L n : Nat} {ti : Bool} {pre u post : List Nat}
theorem less_run {v : List Nat} {t : Nat} (tv : Bool) {Q : AV → AHeap → Prop} (hH : H b = some (.row ty 1 (U (pre ++ (u ++ post))))) (hL : L = pre.length + (u.length + post.length)) (ho : off = pre.length) (hn : n = u.length)
    (hu : Lim 4294967296 u) (hv : Lim 4294967296 v) (ht : t < 4294967296) (hvu : v.length < u.length) (hul : L ≤ 2199023255552)
    (hq : ∀ (w : List Nat) (bo : Nat), w.length = u.length → Lim 4294967296 w → bo ≤ 1 → val 4294967296 u + 4294967296 ^ u.length * bo = val 4294967296 w + t * val 4294967296 v → Q (.bool (decide (0 < bo))) (H.upd b (some (.row ty 1 (U (pre ++ (w ++ post))))))) :
    Run Tryd.prog 229 [.own b L off n ti, LS v tv, .int .u64 (t : Int)] H Q := by
  subst hL; subst ho; subst hn
  refine enter229 (by simp) ?_
  simp (disch := first|exact Xe|fail) only [ac229, ↓Xa,Xb,Xc,↓reduceIte,Nat.reduceLT,Nat.reduceEqDiff,Nat.reduceBEq,Nat.reduceLeDiff,Nat.reduceAdd,Nat.reduceMul]
  refine W_loop (fun s : Nat × Nat × Nat × List Nat => ⟨[], [(0, .own b (pre.length + (u.length + post.length)) pre.length u.length ti), (1, LS v tv), (2, .int .u64 t), (7, .int .u64 s.2.1), (8, .int .u64 s.2.2.1), (12, .int .i64 u.length), (13, .int .i64 s.1)],
      H.upd b (some (.row ty 1 (U (pre ++ ((s.2.2.2 ++ u.drop s.1) ++ post)))))⟩)
    (fun s => s.1 ≤ u.length ∧ LessI u v t s.1 s.2.1 s.2.2.1 s.2.2.2) (fun s => u.length - s.1) (0, 0, 0, []) (Settle.now (by simp [upd_back _ hH])) ⟨by simp, LessI.zero u v t⟩ ?_
  rintro ⟨i, c, bo, done⟩ ⟨h1, h2⟩
  dsimp only at h1 h2 ⊢
  have hd := h2.1
  have hc := h2.2.2.1
  have hbo := h2.2.2.2.1
  by_cases hi : i < u.length
  · have hx := hu.getD (by omega) i
    have hy := hv.getD (by omega) i
    have hm : v.getD i 0 * t ≤ 4294967295 * 4294967295 := Nat.mul_le_mul (by omega) (by omega)
    have hcl : (done ++ u.drop i).length = u.length := by simp [hd]; omega
    have len1 : (pre ++ ((done ++ u.drop i) ++ post)).length = pre.length + (u.length + post.length) := by simp only [List.length_append, hd, List.length_drop]; omega
    have g1 : (pre ++ ((done ++ u.drop i) ++ post)).getD (pre.length + i) 0 = u.getD i 0 := by rw [mid_get (by omega), part_get hd hi]
    have s1 : ∀ x, (pre ++ ((done ++ u.drop i) ++ post)).set (pre.length + i) x = pre ++ (((done ++ [x]) ++ u.drop (i + 1)) ++ post) := fun x => by rw [mid_set (by omega), part_set hd hi]
    generalize hrow : pre ++ ((done ++ u.drop i) ++ post) = row at *
    by_cases hj : i < v.length
    · simp (disch := first|exact Xe|fail) only [hi, hj, g1, ↓Xa,Xb,Xc,↓reduceIte,Nat.reduceLT,Nat.reduceEqDiff,Nat.reduceBEq,Nat.reduceLeDiff,Nat.reduceAdd,Nat.reduceMul]
      rw [s1]
      refine Settle.now ⟨(i + 1, _, _, _), by dsimp only; omega, ⟨by dsimp only; omega, h2.step hu hv ht rfl rfl⟩, rfl⟩
    · have h0 := getD_beyond (show v.length ≤ i by omega)
      simp (disch := first|exact Xe|fail) only [hi, hj, g1, ↓Xa,Xb,Xc,↓reduceIte,Nat.reduceLT,Nat.reduceEqDiff,Nat.reduceBEq,Nat.reduceLeDiff,Nat.reduceAdd,Nat.reduceMul]
      rw [s1]
      refine Settle.now ⟨(i + 1, _, _, _), by dsimp only; omega, ⟨by dsimp only; omega, h2.step hu hv ht (c1 := c) (by rw [h0]; omega) rfl⟩, rfl⟩
  · obtain rfl : i = u.length := by omega
    simp (disch := first|exact Xe|fail) only [hi, ↓Xa,Xb,Xc,↓reduceIte,Nat.reduceLT,Nat.reduceEqDiff,Nat.reduceBEq,Nat.reduceLeDiff,Nat.reduceAdd,Nat.reduceMul]
    refine Settle.now ?_
    simp (disch := first|exact Xe|fail) only [rs229, ↓Xa,Xb,Xc,↓reduceIte,Nat.reduceLT,Nat.reduceEqDiff,Nat.reduceBEq,Nat.reduceLeDiff,Nat.reduceAdd,Nat.reduceMul]
    refine SetR.now ?_
    rw [List.drop_of_length_le (Nat.le_refl _), List.append_nil]
    exact hq done bo hd h2.2.1 hbo (h2.end hvu)

def scC : ACode → ACode
  | .scope0 c => c
  | x => x
theorem digit_run {v : List Nat} {m : Nat} (tv : Bool) {Q : AV → AHeap → Prop} (h : DigI u v m) (hH : H b = some (.row ty 1 (U (pre ++ (u ++ post))))) (hL : L = pre.length + (u.length + post.length)) (ho : off = pre.length) (hn : n = u.length) (hul : L ≤ 2199023255552)
    (hq : ∀ (w : List Nat), w.length = u.length → Lim 4294967296 w → val 4294967296 w = val 4294967296 u % val 4294967296 v → Q (.int .u32 ((val 4294967296 u / val 4294967296 v : Nat) : Int)) (H.upd b (some (.row ty 1 (U (pre ++ (w ++ post))))))) :
    Run Tryd.prog 220 [.own b L off n ti, LS v tv] H Q := by
  subst hL; subst ho; subst hn
  have hlu := h.hu
  have hlv := h.hv
  have hq1 := h.q_lt
  have hl := h.lims
  have htop := h.top
  have hqm : val 4294967296 u / val 4294967296 v * val 4294967296 v + val 4294967296 u % val 4294967296 v = val 4294967296 u := Nat.div_add_mod' _ _
  have hml := Nat.mod_lt (val 4294967296 u) h.vpos
  have hvl := val_lt h.lu
  refine enter220 (by simp) ?_
  have fin : ∀ g, val 4294967296 u / val 4294967296 v ≤ g → g ≤ val 4294967296 u / val 4294967296 v + 1 → g < 4294967296 → W Tryd.prog (sndC (sndC (sndC (sndC (sndC (scC (sndC ac220))))))) (scopeA (retN rs220 Q)) ⟨[], [(0, .own b (pre.length + (u.length + post.length)) pre.length u.length ti), (1, LS v tv), (5, .int .i64 v.length), (7, .int .u64 g)], H⟩ := by
    intro g g1 g2 g3
    simp (disch := first|exact Xe|fail) only [ac220, sndC, scC, ↓Xa,Xb,Xc,↓reduceIte,Nat.reduceLT,Nat.reduceEqDiff,Nat.reduceBEq,Nat.reduceLeDiff,Nat.reduceAdd,Nat.reduceMul]
    refine run_call (less_run tv hH rfl rfl rfl h.lu h.lv g3 (by omega) hul fun w bo hw1 hw2 hb e => ?_)
    have hwl := val_lt hw2
    rw [hw1] at hwl
    generalize val 4294967296 u / val 4294967296 v = q at *
    have hgv : g = q ∨ g = q + 1 := by omega
    have hgm : g * val 4294967296 v = q * val 4294967296 v ∨ g * val 4294967296 v = q * val 4294967296 v + val 4294967296 v := by
      rcases hgv with e | e
      · left; rw [e]
      · right; rw [e, Nat.add_mul, Nat.one_mul]
    have hbc : bo = 0 ∨ bo = 1 := by omega
    rcases hbc with rfl | rfl
    · have hg : g = q := by
        rcases hgv with e1 | e1
        · exact e1
        · rw [e1, Nat.add_mul, Nat.one_mul] at e; omega
      simp (disch := first|exact Xe|fail) only [rs220, ↓Xa,Xb,Xc,↓reduceIte,Nat.reduceLT,Nat.reduceEqDiff,Nat.reduceBEq,Nat.reduceLeDiff,Nat.reduceAdd,Nat.reduceMul]
      refine SetR.now ?_
      rw [hg]
      exact hq w hw1 hw2 (by rw [hg] at e; omega)
    · have hg : g = q + 1 := by
        rcases hgv with e1 | e1
        · rw [e1] at e; omega
        · exact e1
      subst hg
      simp (disch := first|exact Xe|fail) only [↓Xa,Xb,Xc,↓reduceIte,Nat.reduceLT,Nat.reduceEqDiff,Nat.reduceBEq,Nat.reduceLeDiff,Nat.reduceAdd,Nat.reduceMul]
      refine W_loop (fun s : Nat × Nat × List Nat => ⟨[], [(0, .own b (pre.length + (u.length + post.length)) pre.length u.length ti), (1, LS v tv), (5, .int .i64 v.length), (7, .int .u64 q), (9, .int .u64 s.2.1), (88, .int .i64 u.length), (89, .int .i64 s.1)],
          H.upd b (some (.row ty 1 (U (pre ++ ((s.2.2 ++ w.drop s.1) ++ post)))))⟩)
        (fun s => s.1 ≤ u.length ∧ AddI w v s.1 s.2.1 s.2.2) (fun s => u.length - s.1) (0, 0, []) (Settle.now rfl) ⟨by simp, AddI.zero w v⟩ ?_
      rintro ⟨i, c, done⟩ ⟨h1, h2⟩
      dsimp only at h1 h2 ⊢
      have hd := h2.1
      have hc := h2.2.2.1
      by_cases hi : i < u.length
      · have hiw : i < w.length := by omega
        have hx := hw2.getD (by omega) i
        have hy := h.lv.getD (by omega) i
        have len1 : (pre ++ ((done ++ w.drop i) ++ post)).length = pre.length + (u.length + post.length) := by simp only [List.length_append, hd, List.length_drop]; omega
        have hcl : i < (done ++ w.drop i).length := by simp only [List.length_append, hd, List.length_drop]; omega
        have g1 : (pre ++ ((done ++ w.drop i) ++ post)).getD (pre.length + i) 0 = w.getD i 0 := by rw [mid_get hcl, part_get hd hiw]
        have s1 : ∀ x, (pre ++ ((done ++ w.drop i) ++ post)).set (pre.length + i) x = pre ++ (((done ++ [x]) ++ w.drop (i + 1)) ++ post) := fun x => by rw [mid_set hcl, part_set hd hiw]
        generalize hrow : pre ++ ((done ++ w.drop i) ++ post) = row at *
        by_cases hj : i < v.length
        · simp (disch := first|exact Xe|fail) only [hi, hj, g1, ↓Xa,Xb,Xc,↓reduceIte,Nat.reduceLT,Nat.reduceEqDiff,Nat.reduceBEq,Nat.reduceLeDiff,Nat.reduceAdd,Nat.reduceMul]
          rw [s1]
          refine Settle.now ⟨(i + 1, _, _), by dsimp only; omega, ⟨by dsimp only; omega, h2.step hw2 h.lv rfl⟩, rfl⟩
        · have h0 := getD_beyond (show v.length ≤ i by omega)
          simp (disch := first|exact Xe|fail) only [hi, hj, g1, ↓Xa,Xb,Xc,↓reduceIte,Nat.reduceLT,Nat.reduceEqDiff,Nat.reduceBEq,Nat.reduceLeDiff,Nat.reduceAdd,Nat.reduceMul]
          rw [s1]
          refine Settle.now ⟨(i + 1, _, _), by dsimp only; omega, ⟨by dsimp only; omega, h2.step hw2 h.lv (s := c + w.getD i 0) (by omega)⟩, rfl⟩
      · obtain rfl : i = u.length := by omega
        simp (disch := first|exact Xe|fail) only [hi, ↓Xa,Xb,Xc,↓reduceIte,Nat.reduceLT,Nat.reduceEqDiff,Nat.reduceBEq,Nat.reduceLeDiff,Nat.reduceAdd,Nat.reduceMul]
        refine Settle.now ?_
        simp (disch := first|exact Xe|fail) only [rs220, ↓Xa,Xb,Xc,↓reduceIte,Nat.reduceLT,Nat.reduceEqDiff,Nat.reduceBEq,Nat.reduceLeDiff,Nat.reduceAdd,Nat.reduceMul]
        refine SetR.now ?_
        rw [List.drop_of_length_le (by omega), List.append_nil]
        refine hq done hd h2.2.1 ?_
        have e2 := h2.2.2.2
        rw [List.take_of_length_le (by omega), List.take_of_length_le (by omega)] at e2
        have hdl := val_lt h2.2.1
        rw [hd] at hdl
        rw [Nat.add_mul, Nat.one_mul] at e
        have hcc : c = 0 ∨ c = 1 := by omega
        rcases hcc with rfl | rfl <;> omega
  have gl : ∀ i, i < u.length → (pre ++ (u ++ post)).getD (pre.length + i) 0 = u.getD i 0 := fun i hi => mid_get hi
  have hul2 : (pre ++ (u ++ post)).length = pre.length + (u.length + post.length) := by simp
  have g1 := gl (m + 2) (by omega)
  have g2 := gl (m + 1) (by omega)
  have g3 := gl m (by omega)
  have e1 : m + 2 - 1 = m + 1 := by omega
  have e2 : m + 2 - 2 = m := by omega
  have hst := h.start
  have hU2 : U2 u m = u.getD (m + 2) 0 * 2 ^ 32 + u.getD (m + 1) 0 := rfl
  have hne : (v.getD (m + 1) 0 = 0) = False := eq_false (by omega)
  have hrl : U2 u m % v.getD (m + 1) 0 < v.getD (m + 1) 0 := Nat.mod_lt _ (by omega)
  have hgl : U2 u m / v.getD (m + 1) 0 < 18446744073709551616 := Nat.lt_of_le_of_lt (Nat.div_le_self _ _) (by rw [hU2]; omega)
  generalize hrow : pre ++ (u ++ post) = row at *
  simp (disch := first|exact Xe|fail) only [ac220, hH, hlv, e1, e2, g1, g2, ← hU2, hne, ne_eq, ↓Xa,Xb,Xc,↓reduceIte,Nat.reduceLT,Nat.reduceEqDiff,Nat.reduceBEq,Nat.reduceLeDiff,Nat.reduceAdd,Nat.reduceMul]
  simp only [hlv] at fin
  refine W_loop (fun s : Nat × Nat => ⟨[], [(0, .own b (pre.length + (u.length + post.length)) pre.length u.length ti), (1, LS v tv), (5, .int .i64 ((m + 2 : Nat) : Int)), (7, .int .u64 s.1), (8, .int .u64 s.2)], H⟩)
    (fun s => GuessI u v m s.1 s.2 ∧ s.2 < 4294967296) (fun s => s.1) (U2 u m / v.getD (m + 1) 0, U2 u m % v.getD (m + 1) 0) (Settle.now rfl) ⟨hst, by dsimp only; omega⟩ ?_
  rintro ⟨g, r⟩ ⟨hg, hr⟩
  dsimp only at hg hr ⊢
  have hgm := hg.2.2
  have next : (4294967296 ≤ g ∨ r * 2 ^ 32 + u.getD m 0 < g * v.getD m 0) → 0 < g ∧ GuessI u v m (g - 1) (r + v.getD (m + 1) 0) := fun hc => hg.step h hc
  have leave : (4294967296 ≤ g ∨ r * 2 ^ 32 + u.getD m 0 < g * v.getD m 0) → 4294967296 ≤ r + v.getD (m + 1) 0 → val 4294967296 u / val 4294967296 v ≤ g - 1 ∧ g - 1 ≤ val 4294967296 u / val 4294967296 v + 1 ∧ g - 1 < 4294967296 := fun hc hr' => by
    have h1 := next hc
    have h2 := h1.2.endB h hr' (by omega)
    have h3 := h1.2.2.1
    exact ⟨h3, by omega, Nat.lt_of_le_of_lt h2 hq1⟩
  by_cases hgB : 4294967296 ≤ g
  · have c1 : 0 < g / 2 ^ 32 := by omega
    have hp := (next (.inl hgB)).1
    by_cases hr' : 4294967296 ≤ r + v.getD (m + 1) 0
    · have c2 : 0 < (r + v.getD (m + 1) 0) / 2 ^ 32 := by omega
      obtain ⟨f1, f2, f3⟩ := leave (.inl hgB) hr'
      simp (disch := first|exact Xe|fail) only [hH, e1, e2, g1, g2, g3, c1, c2, ↓Xa,Xb,Xc,↓reduceIte,Nat.reduceLT,Nat.reduceEqDiff,Nat.reduceBEq,Nat.reduceLeDiff,Nat.reduceAdd,Nat.reduceMul]
      exact Settle.keep [0, 1, 5, 7] (fin (g - 1) f1 f2 f3)
    · have c2 : ¬ 0 < (r + v.getD (m + 1) 0) / 2 ^ 32 := by omega
      simp (disch := first|exact Xe|fail) only [hH, e1, e2, g1, g2, g3, c1, c2, ↓Xa,Xb,Xc,↓reduceIte,Nat.reduceLT,Nat.reduceEqDiff,Nat.reduceBEq,Nat.reduceLeDiff,Nat.reduceAdd,Nat.reduceMul]
      exact Settle.keep [0, 1, 5, 7, 8] ⟨(g - 1, r + v.getD (m + 1) 0), by dsimp only; omega, ⟨(next (.inl hgB)).2, by dsimp only; omega⟩, rfl⟩
  · have c1 : ¬ 0 < g / 2 ^ 32 := by omega
    have hm2 : g * v.getD m 0 ≤ 4294967295 * 4294967295 := Nat.mul_le_mul (by omega) (by omega)
    by_cases hc : r * 2 ^ 32 + u.getD m 0 < g * v.getD m 0
    · have hp := (next (.inr hc)).1
      by_cases hr' : 4294967296 ≤ r + v.getD (m + 1) 0
      · have c2 : 0 < (r + v.getD (m + 1) 0) / 2 ^ 32 := by omega
        obtain ⟨f1, f2, f3⟩ := leave (.inr hc) hr'
        simp (disch := first|exact Xe|fail) only [hH, e1, e2, g1, g2, g3, c1, c2, hc, ↓Xa,Xb,Xc,↓reduceIte,Nat.reduceLT,Nat.reduceEqDiff,Nat.reduceBEq,Nat.reduceLeDiff,Nat.reduceAdd,Nat.reduceMul]
        exact Settle.keep [0, 1, 5, 7] (fin (g - 1) f1 f2 f3)
      · have c2 : ¬ 0 < (r + v.getD (m + 1) 0) / 2 ^ 32 := by omega
        simp (disch := first|exact Xe|fail) only [hH, e1, e2, g1, g2, g3, c1, c2, hc, ↓Xa,Xb,Xc,↓reduceIte,Nat.reduceLT,Nat.reduceEqDiff,Nat.reduceBEq,Nat.reduceLeDiff,Nat.reduceAdd,Nat.reduceMul]
        exact Settle.keep [0, 1, 5, 7, 8] ⟨(g - 1, r + v.getD (m + 1) 0), by dsimp only; omega, ⟨(next (.inr hc)).2, by dsimp only; omega⟩, rfl⟩
    · simp (disch := first|exact Xe|fail) only [hH, e1, e2, g1, g2, g3, c1, hc, ↓Xa,Xb,Xc,↓reduceIte,Nat.reduceLT,Nat.reduceEqDiff,Nat.reduceBEq,Nat.reduceLeDiff,Nat.reduceAdd,Nat.reduceMul]
      exact Settle.keep [0, 1, 5, 7] (fin g hg.2.1 (hg.endA h (by omega) (by omega)) (by omega))
end
end Go.Proofs.YtanchgkiomfhhaaDoor.Fw

/- What package limb computes: quotients and remainders. -/
namespace Go.Proofs.YtanchgkiomfhhaaDoor.Fw
set_option linter.unusedSimpArgs false
set_option linter.unusedVariables false
open Go Go.Proofs.YtanchgkiomfhhaaDoor.Ma
set_option maxRecDepth 20000

theorem LS_0 (B : Nat) : AV.seq 0 [] true = LS (digs B 0) true := by rw [digs_zero]; rfl
theorem lss_cmp {m n : Nat} {K : AV → Prop} : binW .lss (.int .i64 (cmpZ m n)) (.int .i64 ((0 : Nat) : Int)) K ↔ K (.bool (decide (m < n))) := by
  have : (cmpZ m n < ((0 : Nat) : Int)) ↔ m < n := by unfold cmpZ; split <;> simp_all; split <;> omega
  simp only [binW, binInt, true_and, this]
theorem fin_trL {l x : List Nat} {b ty n : Nat} {t : Bool} {H : AHeap} {Q : AV → AHeap → Prop} {k : IntKind} {m : Int} (hb : H b = none) (hn : l.length = n) (hq : Q (.tup [LS (tr l) true, LS x t, .int k m]) H) : SetR Q (.tup [.own b n 0 (tr l).length true, LS x t, .int k m]) (H.upd b (some (.row ty 1 (U l)))) := by
  refine SetR.frz b (upd_same _ _ _) ?_
  rw [upd_upd, upd_back _ hb, frz, List.map_cons, List.map_cons, List.map_cons, List.map_nil, frz2_tr hn, frz2_int]
  exact SetR.now hq

theorem app_LS {H : AHeap} {ty n : Nat} {l m : List Nat} {t : Bool} {K : AV → AHeap → Prop} (hn : n = m.length) (hm : m ≠ []) (hb : l.length + m.length ≤ 17592186044416)
    (k : ∀ b, H b = none → K (.own b (l.length + m.length) 0 (l.length + m.length) false) (H.upd b (some (.row ty 1 (U (l ++ m)))))) : appV H ty 1 4 (LS l true) (.seq n (U m) t) K := by
  subst hn
  have hpos : 0 < m.length := List.length_pos_iff.2 hm
  refine .inl ⟨by simp, U_cell m, rfl, by simp, by omega, by omega, fun e => absurd e (by omega), fun _ b hb' => ?_⟩
  have := k b hb'
  rw [U_app] at this
  simpa using this
theorem divmod_lt {a b : List Nat} (ta tb : Bool) (ha : Lim 4294967296 a) (hb : Lim 4294967296 b) (h0 : 0 < val 4294967296 b) (hla : a.length ≤ 549755813888) (hlb : b.length ≤ 549755813888) (hlt : val 4294967296 a < val 4294967296 b) :
    PFn Tryd.prog 207 [LS a ta, LS b tb] (.tup [LS (digs 4294967296 (val 4294967296 a / val 4294967296 b)) true, LS (digs 4294967296 (val 4294967296 a % val 4294967296 b)) true, .int .i64 ((0 : Nat) : Int)]) := by
  intro H Q hq
  refine enter207 (by simp) ?_
  simp (disch := first|exact Xe|fail) only [ac207, ↓Xa,Xb,Xc,↓reduceIte,Nat.reduceLT,Nat.reduceEqDiff,Nat.reduceBEq,Nat.reduceLeDiff,Nat.reduceAdd,Nat.reduceMul]
  refine (trim_fn b tb).call ?_
  have htb := tr_len b
  rw [tr_digs (by omega) hb] at htb ⊢
  generalize val 4294967296 b = Bv at *
  have hY := lim_digs (B := 4294967296) (by omega) Bv
  have hYv := val_digs (B := 4294967296) (by omega) Bv
  have hYp : 0 < (digs 4294967296 Bv).length := by rw [digs_pos (by omega) h0]; simp
  generalize digs 4294967296 Bv = Y at *
  have hY0 : (Y.length = 0) = False := eq_false (by omega)
  simp (disch := first|exact Xe|fail) only [hY0, ↓Xa,Xb,Xc,↓reduceIte,Nat.reduceLT,Nat.reduceEqDiff,Nat.reduceBEq,Nat.reduceLeDiff,Nat.reduceAdd,Nat.reduceMul]
  refine (cmp_fn ta true ha hY).call ?_
  rw [hYv]
  simp (disch := first|exact Xe|fail) only [lss_cmp, hlt, ↓Xa,Xb,Xc,↓reduceIte,Nat.reduceLT,Nat.reduceEqDiff,Nat.reduceBEq,Nat.reduceLeDiff,Nat.reduceAdd,Nat.reduceMul]
  refine (norm_fn ta (by omega)).call ?_
  rw [tr_digs (by omega) ha]
  simp (disch := first|exact Xe|fail) only [rs207, ↓Xa,Xb,Xc,↓reduceIte,Nat.reduceLT,Nat.reduceEqDiff,Nat.reduceBEq,Nat.reduceLeDiff,Nat.reduceAdd,Nat.reduceMul]
  rw [Nat.div_eq_of_lt hlt, Nat.mod_eq_of_lt hlt, ← LS_0 4294967296] at hq
  exact SetR.now hq

theorem divmod_one {a b : List Nat} (ta tb : Bool) (ha : Lim 4294967296 a) (hb : Lim 4294967296 b) (h0 : 0 < val 4294967296 b) (hla : a.length ≤ 549755813888) (hlb : b.length ≤ 549755813888) (hlt : ¬ val 4294967296 a < val 4294967296 b) (h1 : (digs 4294967296 (val 4294967296 b)).length = 1) :
    PFn Tryd.prog 207 [LS a ta, LS b tb] (.tup [LS (digs 4294967296 (val 4294967296 a / val 4294967296 b)) true, LS (digs 4294967296 (val 4294967296 a % val 4294967296 b)) true, .int .i64 ((0 : Nat) : Int)]) := by
  intro H Q hq
  refine enter207 (by simp) ?_
  simp (disch := first|exact Xe|fail) only [ac207, ↓Xa,Xb,Xc,↓reduceIte,Nat.reduceLT,Nat.reduceEqDiff,Nat.reduceBEq,Nat.reduceLeDiff,Nat.reduceAdd,Nat.reduceMul]
  refine (trim_fn b tb).call ?_
  rw [tr_digs (by omega) hb]
  generalize val 4294967296 b = Bv at *
  have hY := lim_digs (B := 4294967296) (by omega) Bv
  have hYv := val_digs (B := 4294967296) (by omega) Bv
  generalize digs 4294967296 Bv = Y at *
  simp (disch := first|exact Xe|fail) only [h1, ↓Xa,Xb,Xc,↓reduceIte,Nat.reduceLT,Nat.reduceEqDiff,Nat.reduceBEq,Nat.reduceLeDiff,Nat.reduceAdd,Nat.reduceMul]
  refine (cmp_fn ta true ha hY).call ?_
  rw [hYv]
  have hd : val 4294967296 Y = Y.getD 0 0 := by
    have := val_take_all 4294967296 Y (0 + 1) (by omega)
    rw [← this, val_take]; simp [val]
  rw [hYv] at hd
  have hBl : Bv < 4294967296 := by rw [hd]; exact hY.getD (by omega) 0
  simp (disch := first|exact Xe|fail) only [lss_cmp, hlt, h1, load_LS0, ← hd, ↓Xa,Xb,Xc,↓reduceIte,Nat.reduceLT,Nat.reduceEqDiff,Nat.reduceBEq,Nat.reduceLeDiff,Nat.reduceAdd,Nat.reduceMul]
  refine (divsmall_fn ta ha h0 hBl (by omega)).call ?_
  simp (disch := first|exact Xe|fail) only [↓Xa,Xb,Xc,↓reduceIte,Nat.reduceLT,Nat.reduceEqDiff,Nat.reduceBEq,Nat.reduceLeDiff,Nat.reduceAdd,Nat.reduceMul]
  have hm : val 4294967296 a % Bv < 4294967296 := Nat.lt_trans (Nat.mod_lt _ h0) hBl
  refine (norm_fn (l := [val 4294967296 a % Bv]) true (by simp)).call ?_
  rw [tr_digs (by omega) (Lim.one hm), val_one]
  simp (disch := first|exact Xe|fail) only [rs207, ↓Xa,Xb,Xc,↓reduceIte,Nat.reduceLT,Nat.reduceEqDiff,Nat.reduceBEq,Nat.reduceLeDiff,Nat.reduceAdd,Nat.reduceMul]
  exact SetR.now hq

theorem divmod_many {a b : List Nat} (ta tb : Bool) (ha : Lim 4294967296 a) (hb : Lim 4294967296 b) (h0 : 0 < val 4294967296 b) (hla : a.length ≤ 549755813888) (hlb : b.length ≤ 549755813888) (hlt : ¬ val 4294967296 a < val 4294967296 b) (h1 : ¬ (digs 4294967296 (val 4294967296 b)).length = 1) :
    PFn Tryd.prog 207 [LS a ta, LS b tb] (.tup [LS (digs 4294967296 (val 4294967296 a / val 4294967296 b)) true, LS (digs 4294967296 (val 4294967296 a % val 4294967296 b)) true, .int .i64 ((0 : Nat) : Int)]) := by
  intro H Q hq
  refine enter207 (by simp) ?_
  simp (disch := first|exact Xe|fail) only [ac207, ↓Xa,Xb,Xc,↓reduceIte,Nat.reduceLT,Nat.reduceEqDiff,Nat.reduceBEq,Nat.reduceLeDiff,Nat.reduceAdd,Nat.reduceMul]
  refine (trim_fn b tb).call ?_
  have htb := tr_len b
  rw [tr_digs (by omega) hb] at htb ⊢
  generalize val 4294967296 b = Bv at *
  have hY := lim_digs (B := 4294967296) (by omega) Bv
  have hYv := val_digs (B := 4294967296) (by omega) Bv
  have hYp : 0 < (digs 4294967296 Bv).length := by rw [digs_pos (by omega) h0]; simp
  have hY0 : ((digs 4294967296 Bv).length = 0) = False := eq_false (by omega)
  simp (disch := first|exact Xe|fail) only [hY0, ↓Xa,Xb,Xc,↓reduceIte,Nat.reduceLT,Nat.reduceEqDiff,Nat.reduceBEq,Nat.reduceLeDiff,Nat.reduceAdd,Nat.reduceMul]
  refine (cmp_fn ta true ha hY).call ?_
  rw [hYv]
  -- many limbs
  have hn2 : 2 ≤ (digs 4294967296 Bv).length := by omega
  have htop := hY.getD (by omega) ((digs 4294967296 Bv).length - 1)
  have htl : blen ((digs 4294967296 Bv).getD ((digs 4294967296 Bv).length - 1) 0) ≤ 32 := blen_le.2 (by omega)
  simp (disch := first|exact Xe|fail) only [lss_cmp, hlt, h1, ↓Xa,Xb,Xc,↓reduceIte,Nat.reduceLT,Nat.reduceEqDiff,Nat.reduceBEq,Nat.reduceLeDiff,Nat.reduceAdd,Nat.reduceMul]
  refine (lz_fn htop).call ?_
  generalize hs : 32 - blen ((digs 4294967296 Bv).getD ((digs 4294967296 Bv).length - 1) 0) = s at *
  have hs32 : s ≤ 32 := by omega
  obtain ⟨w1, w2, w3⟩ := shifted h0 hs.symm
  simp (disch := first|exact Xe|fail) only [↓Xa,Xb,Xc,↓reduceIte,Nat.reduceLT,Nat.reduceEqDiff,Nat.reduceBEq,Nat.reduceLeDiff,Nat.reduceAdd,Nat.reduceMul]
  refine (shl_fn true hY (by omega) (by omega)).call ?_
  rw [hYv]
  simp (disch := first|exact Xe|fail) only [↓Xa,Xb,Xc,↓reduceIte,Nat.reduceLT,Nat.reduceEqDiff,Nat.reduceBEq,Nat.reduceLeDiff,Nat.reduceAdd,Nat.reduceMul]
  refine (shl_fn ta ha (by omega) (by omega)).call ?_
  have hV0 : 0 < Bv * 2 ^ s := Nat.mul_pos h0 (Nat.pow_pos (by omega))
  have hlv := lim_digs (B := 4294967296) (by omega) (Bv * 2 ^ s)
  have hvv := val_digs (B := 4294967296) (by omega) (Bv * 2 ^ s)
  have hlu := lim_digs (B := 4294967296) (by omega) (val 4294967296 a * 2 ^ s)
  have hvu := val_digs (B := 4294967296) (by omega) (val 4294967296 a * 2 ^ s)
  have hAB : Bv * 2 ^ s ≤ val 4294967296 a * 2 ^ s := Nat.mul_le_mul_right _ (by omega)
  have hll : (digs 4294967296 (Bv * 2 ^ s)).length ≤ (digs 4294967296 (val 4294967296 a * 2 ^ s)).length := by
    rcases Nat.lt_or_ge (digs 4294967296 (val 4294967296 a * 2 ^ s)).length (digs 4294967296 (Bv * 2 ^ s)).length with h | h
    · have := digs_lt_len (by omega) h; omega
    · exact h
  have hul : (digs 4294967296 (val 4294967296 a * 2 ^ s)).length ≤ a.length + 1 := digs_len (by omega) _ _ (by
    have h1 := val_lt ha
    have h2 : (2 : Nat) ^ s ≤ 2 ^ 32 := Nat.pow_le_pow_right (by omega) hs32
    rw [Nat.pow_succ]
    exact Nat.mul_lt_mul_of_lt_of_le h1 h2 (by omega))
  rw [w1] at hll
  have hdiv : val 4294967296 a * 2 ^ s / (Bv * 2 ^ s) = val 4294967296 a / Bv := Nat.mul_div_mul_right _ _ (Nat.pow_pos (by omega))
  have hmod : val 4294967296 a * 2 ^ s % (Bv * 2 ^ s) / 2 ^ s = val 4294967296 a % Bv := by
    rw [Nat.mul_mod_mul_right, Nat.mul_div_cancel _ (Nat.pow_pos (by omega))]
  generalize val 4294967296 a * 2 ^ s = T at *
  generalize Bv * 2 ^ s = V at *
  generalize digs 4294967296 V = v at *
  generalize hn : (digs 4294967296 Bv).length = n at *
  generalize digs 4294967296 T = u0 at *
  simp (disch := first|exact Xe|fail) only [↓Xa,Xb,Xc,↓reduceIte,Nat.reduceLT,Nat.reduceEqDiff,Nat.reduceBEq,Nat.reduceLeDiff,Nat.reduceAdd,Nat.reduceMul]
  refine app_LS (l := u0) (m := [0]) rfl (by simp) (by simp; omega) fun bu hbu => ?_
  obtain ⟨k0, hk0⟩ : ∃ k0, u0.length = n + k0 := ⟨u0.length - n, by omega⟩
  have hum : u0.length + [0].length = n + k0 + 1 := by simp [hk0]
  rw [hum]
  have hdn : n + k0 + 1 - n = k0 + 1 := by omega
  simp (disch := first|exact Xe|fail) only [w1, hdn, ↓Xa,Xb,Xc,↓reduceIte,Nat.reduceLT,Nat.reduceEqDiff,Nat.reduceBEq,Nat.reduceLeDiff,Nat.reduceAdd,Nat.reduceMul]
  refine newU_i fun bq hbq => ?_
  have nb := hbq
  simp only [upd_none] at nb
  obtain ⟨nbA, nbq⟩ := nb
  simp (disch := first|exact Xe|fail) only [hdn, Nat.add_sub_cancel, ↓Xa,Xb,Xc,↓reduceIte,Nat.reduceLT,Nat.reduceEqDiff,Nat.reduceBEq,Nat.reduceLeDiff,Nat.reduceAdd,Nat.reduceMul]
  have hlz : (u0 ++ [0]).length = n + k0 + 1 := by simp [hk0]
  refine W_loop (fun z : Nat × List Nat × List Nat => ⟨[], [(10, .int .i64 s), (11, LS v true), (13, .own bu (n + k0 + 1) 0 (n + k0 + 1) false), (15, .int .i64 n), (16, .own bq (k0 + 1) 0 (k0 + 1) true), (17, .int .i64 (dn z.1))],
      (H.upd bu (some (.row 172 1 (U z.2.1)))).upd bq (some (.row 172 1 (U z.2.2)))⟩)
    (fun z => DivK T V n k0 z.1 z.2.1 z.2.2) (fun z => z.1) (k0 + 1, u0 ++ [0], List.replicate (k0 + 1) 0) (Settle.now rfl) ?_ ?_
  · refine ⟨Nat.le_refl _, hlz, lim_snoc hlu (by omega), by simp, lim_zeros (by omega) _, ?_, ?_⟩
    · -- the highest limbs, a nought on top
      have e := val_append 4294967296 (u0.drop (k0 + 1)) [0]
      have h1 := val_lt (hlu.drop (k0 + 1))
      rw [List.length_drop] at h1
      have h2 : (u0 ++ [0]).drop (k0 + 1) = u0.drop (k0 + 1) ++ [0] := by rw [List.drop_append_of_le_length (by omega)]
      rw [h2, e, val_one, Nat.mul_zero, Nat.add_zero]
      have h3 := val_top1 (B := 4294967296) (l := v) (n := n - 1) (by omega)
      rw [hvv] at h3
      have h4 : 4294967296 ^ (n - 1) * 1 ≤ 4294967296 ^ (n - 1) * v.getD (n - 1) 0 := Nat.mul_le_mul_left _ (by omega)
      rw [show u0.length - (k0 + 1) = n - 1 by omega] at h1
      omega
    · have z : val 4294967296 [] = 0 := rfl
      show T = V * (4294967296 ^ (k0 + 1) * val 4294967296 ((List.replicate (k0 + 1) 0).drop (k0 + 1))) + val 4294967296 (u0 ++ [0])
      rw [List.drop_of_length_le (Nat.le_of_eq List.length_replicate), val_snoc, hvu, z, Nat.mul_zero, Nat.mul_zero, Nat.mul_zero, Nat.zero_add, Nat.add_zero]
  rintro ⟨M, ul, ql⟩ hk
  dsimp only at hk ⊢
  have hu1 := hk.ulen
  have hq1 := hk.qlen
  cases M with
  | zero =>
    obtain ⟨d1, d2⟩ := hk.end
    simp (disch := first|exact Xe|fail) only [↓Xa,Xb,Xc,↓reduceIte,Nat.reduceLT,Nat.reduceEqDiff,Nat.reduceBEq,Nat.reduceLeDiff,Nat.reduceAdd,Nat.reduceMul]
    refine Settle.freeze 13 rfl (by rw [upd_otherA nbA.symm, upd_same]) (by simp [hu1]) (.inr (by simp)) ?_
    have e1 : AV.seq (n + k0 + 1) (((U ul).drop 0).take ((n + k0 + 1) * 1)) false = LS ul false := by
      rw [List.drop_zero, Nat.mul_one, ← hu1, List.take_of_length_le (by simp)]; rfl
    rw [e1, upd_over nbA, upd_back H hbu]
    refine Settle.now ?_
    simp (disch := first|exact Xe|fail) only [↓Xa,Xb,Xc,↓reduceIte,Nat.reduceLT,Nat.reduceEqDiff,Nat.reduceBEq,Nat.reduceLeDiff,Nat.reduceAdd,Nat.reduceMul]
    refine (shr_fn false hk.ulim (by omega) (by omega)).call ?_
    rw [d2, hmod]
    simp (disch := first|exact Xe|fail) only [↓Xa,Xb,Xc,↓reduceIte,Nat.reduceLT,Nat.reduceEqDiff,Nat.reduceBEq,Nat.reduceLeDiff,Nat.reduceAdd,Nat.reduceMul]
    refine trim_call (upd_same _ _ _) hq1 ?_
    simp (disch := first|exact Xe|fail) only [rs207, ↓Xa,Xb,Xc,↓reduceIte,Nat.reduceLT,Nat.reduceEqDiff,Nat.reduceBEq,Nat.reduceLeDiff,Nat.reduceAdd,Nat.reduceMul]
    refine fin_trL nbq hq1 ?_
    rw [tr_digs (by omega) hk.qlim, d1, hdiv]
    exact hq
  | succ k =>
    have hM := hk.hM
    have hkl : k ≤ k0 := by omega
    obtain ⟨s1, s2, s3⟩ := hk.seg w2
    have hseg : ((ul.drop k).take (n + 1)).length = n + 1 := by rw [List.length_take, List.length_drop]; omega
    have hparts : ul = ul.take k ++ ((ul.drop k).take (n + 1) ++ ul.drop (k + (n + 1))) := by
      rw [← List.drop_drop, List.take_append_drop, List.take_append_drop]
    have hD : DigI ((ul.drop k).take (n + 1)) v (n - 2) := by
      refine ⟨by omega, by omega, (hk.ulim.drop k).take _, hlv, ?_, ?_⟩
      · rw [show n - 2 + 1 = n - 1 by omega]; exact w3
      · rw [s1, hvv]; exact s2
    have hkn : k + n + 1 - k = n + 1 := by omega
    have hpre : (ul.take k).length = k := by rw [List.length_take]; omega
    simp (disch := first|exact Xe|fail) only [hkn, ↓Xa,Xb,Xc,↓reduceIte,Nat.reduceLT,Nat.reduceEqDiff,Nat.reduceBEq,Nat.reduceLeDiff,Nat.reduceAdd,Nat.reduceMul]
    refine run_call (digit_run (pre := ul.take k) (u := (ul.drop k).take (n + 1)) (post := ul.drop (k + (n + 1))) true hD (by rw [upd_otherA nbA.symm, upd_same, ← hparts]) (by rw [hpre, hseg, List.length_drop]; omega) hpre.symm hseg.symm (by omega) fun w g1 g2 g3 => ?_)
    rw [hseg] at g1
    rw [hvv] at g3 ⊢
    have hqd : val 4294967296 ((ul.drop k).take (n + 1)) / V < 4294967296 := Nat.div_lt_of_lt_mul (by rw [s1, Nat.mul_comm]; exact s2)
    have stp := hk.step w2 hV0 g1 g2 g3 rfl
    rw [Nat.mod_eq_of_lt hqd] at stp
    generalize val 4294967296 ((ul.drop k).take (n + 1)) / V = qd at *
    simp (disch := first|exact Xe|fail) only [↓Xa,Xb,Xc,↓reduceIte,Nat.reduceLT,Nat.reduceEqDiff,Nat.reduceBEq,Nat.reduceLeDiff,Nat.reduceAdd,Nat.reduceMul]
    exact Settle.keep [10, 11, 13, 15, 16, 17] ⟨(k, _, _), by dsimp only; omega, stp, rfl⟩

theorem divmod_fn {a b : List Nat} (ta tb : Bool) (ha : Lim 4294967296 a) (hb : Lim 4294967296 b) (h0 : 0 < val 4294967296 b) (hla : a.length ≤ 549755813888) (hlb : b.length ≤ 549755813888) :
    PFn Tryd.prog 207 [LS a ta, LS b tb] (.tup [LS (digs 4294967296 (val 4294967296 a / val 4294967296 b)) true, LS (digs 4294967296 (val 4294967296 a % val 4294967296 b)) true, .int .i64 ((0 : Nat) : Int)]) := by
  by_cases hlt : val 4294967296 a < val 4294967296 b
  · exact divmod_lt ta tb ha hb h0 hla hlb hlt
  · by_cases h1 : (digs 4294967296 (val 4294967296 b)).length = 1
    · exact divmod_one ta tb ha hb h0 hla hlb hlt h1
    · exact divmod_many ta tb ha hb h0 hla hlb hlt h1
end Go.Proofs.YtanchgkiomfhhaaDoor.Fw

/- What package integer computes: making, signs, comparing, sums, products. -/
namespace Go.Proofs.YtanchgkiomfhhaaDoor.Fw
set_option linter.unusedSimpArgs false
set_option linter.unusedVariables false
open Go Go.Proofs.YtanchgkiomfhhaaDoor.Ma
set_option maxRecDepth 20000

def IntA (z : Int) : AV := .agg [.bool (decide (z < 0)), LS (digs 4294967296 z.natAbs) true]
def sg (neg : Bool) (n : Nat) : Int := if neg then -(n : Int) else n
theorem sg_abs (neg : Bool) (n : Nat) : (sg neg n).natAbs = n := by cases neg <;> simp [sg]
theorem sg_neg (neg : Bool) (n : Nat) : decide (sg neg n < 0) = (neg && decide (0 < n)) := by cases neg <;> simp [sg] <;> omega
theorem abs_nn {z : Int} (h : 0 ≤ z) : ((z.natAbs : Nat) : Int) = z := by omega
theorem abs_np {z : Int} (h : z ≤ 0) : -((z.natAbs : Nat) : Int) = z := by omega
theorem IntA_sg (neg : Bool) (n : Nat) : IntA (sg neg n) = .agg [.bool (neg && decide (0 < (digs 4294967296 n).length)), LS (digs 4294967296 n) true] := by
  simp only [IntA, sg_abs, sg_neg, digs_pos_len (B := 4294967296) (n := n) (by omega)]

def IntB (z : Int) : AV := .bool (decide (z < 0))
def IntD (z : Int) : AV := LS (digs 4294967296 z.natAbs) true
theorem IntA_eq {z : Int} : IntA z = .agg [IntB z, IntD z] := id rfl
theorem cells_IntA {z : Int} : (IntA z).cells = some [IntB z, IntD z] := id rfl
theorem fold_IntA {z : Int} : AV.agg [IntB z, IntD z] = IntA z := id rfl
theorem IntA_0 : AV.agg [.bool false, .seq 0 [] true] = IntA 0 := by simp [IntA, digs_zero, LS, U]
theorem made_fn (neg : Bool) (n : Nat) (hl : (digs 4294967296 n).length ≤ 1099511627776) : PFn Tryd.prog 137 [.bool neg, LS (digs 4294967296 n) true] (IntA (sg neg n)) := by
  intro H Q hq
  refine enter137 (by simp) ?_
  rw [IntA_sg] at hq
  simp (disch := first|exact Xe|fail) only [ac137, ↓Xa,Xb,Xc,↓reduceIte,Nat.reduceLT,Nat.reduceEqDiff,Nat.reduceBEq,Nat.reduceLeDiff,Nat.reduceAdd,Nat.reduceMul]
  refine alloc_i fun p hp => ?_
  cases neg
  · simp (disch := first|exact Xe|fail) only [rs137, ↓Xa,Xb,Xc,↓reduceIte,Nat.reduceLT,Nat.reduceEqDiff,Nat.reduceBEq,Nat.reduceLeDiff,Nat.reduceAdd,Nat.reduceMul]
    exact SetR.dropTo ((Le.refl H).upd hp) (SetR.now hq)
  · simp (disch := first|exact Xe|fail) only [rs137, ↓Xa,Xb,Xc,↓reduceIte,Nat.reduceLT,Nat.reduceEqDiff,Nat.reduceBEq,Nat.reduceLeDiff,Nat.reduceAdd,Nat.reduceMul]
    exact SetR.dropTo ((Le.refl H).upd hp) (SetR.now hq)

def Bd (k : Nat) (z : Int) : Prop := z.natAbs < 4294967296 ^ k
theorem Bd.len {k : Nat} {z : Int} (h : Bd k z) : (digs 4294967296 z.natAbs).length ≤ k := digs_len (by omega) k _ h
theorem Bd.mono {k k' : Nat} {z : Int} (h : Bd k z) (hk : k ≤ k') : Bd k' z := Nat.lt_of_lt_of_le h (Nat.pow_le_pow_right (by omega) hk)
theorem Bd.neg {k : Nat} {z : Int} (h : Bd k z) : Bd k (-z) := by unfold Bd at *; omega
theorem Bd.sgn {k n : Nat} {b : Bool} (h : n < 4294967296 ^ k) : Bd k (sg b n) := by unfold Bd; rw [sg_abs]; exact h
theorem Bd.abs {k : Nat} {z : Int} (h : Bd k z) : Bd k (z.natAbs : Int) := by unfold Bd at *; omega
theorem Bd.add {k : Nat} {x y : Int} (h : Bd k x) (h' : Bd k y) : Bd (k + 1) (x + y) := by
  unfold Bd at *; rw [Nat.pow_succ]; omega
theorem Bd.sub {k : Nat} {x y : Int} (h : Bd k x) (h' : Bd k y) : Bd (k + 1) (x - y) := by
  unfold Bd at *; rw [Nat.pow_succ]; omega
theorem Bd.mul {k k' : Nat} {x y : Int} (h : Bd k x) (h' : Bd k' y) : Bd (k + k') (x * y) := by
  unfold Bd at *; rw [Int.natAbs_mul, Nat.pow_add]
  exact Nat.mul_lt_mul_of_lt_of_lt h h'
theorem Bd.zero (k : Nat) : Bd k 0 := by unfold Bd; exact Nat.pow_pos (by omega)
theorem Bd.i64 {n : Int} (h : -9223372036854775808 ≤ n ∧ n < 9223372036854775808) : Bd 2 n := by unfold Bd; omega

theorem make_fn {l : List Nat} (neg t : Bool) (hl : Lim 4294967296 l) (hn : l.length ≤ 1099511627776) : PFn Tryd.prog 35 [.bool neg, LS l t] (IntA (sg neg (val 4294967296 l))) := by
  intro H Q hq
  refine enter35 (by simp) ?_
  simp (disch := first|exact Xe|fail) only [ac35, ↓Xa,Xb,Xc,↓reduceIte,Nat.reduceLT,Nat.reduceEqDiff,Nat.reduceBEq,Nat.reduceLeDiff,Nat.reduceAdd,Nat.reduceMul]
  refine alloc_i fun p hp => ?_
  simp (disch := first|exact Xe|fail) only [↓Xa,Xb,Xc,↓reduceIte,Nat.reduceLT,Nat.reduceEqDiff,Nat.reduceBEq,Nat.reduceLeDiff,Nat.reduceAdd,Nat.reduceMul]
  refine (norm_fn t (by omega)).call ?_
  rw [tr_digs (by omega) hl]
  simp (disch := first|exact Xe|fail) only [↓Xa,Xb,Xc,↓reduceIte,Nat.reduceLT,Nat.reduceEqDiff,Nat.reduceBEq,Nat.reduceLeDiff,Nat.reduceAdd,Nat.reduceMul]
  refine (made_fn neg _ (by have := tr_len l; rw [tr_digs (by omega) hl] at this; omega)).call ?_
  simp (disch := first|exact Xe|fail) only [rs35, IntA, ↓Xa,Xb,Xc,↓reduceIte,Nat.reduceLT,Nat.reduceEqDiff,Nat.reduceBEq,Nat.reduceLeDiff,Nat.reduceAdd,Nat.reduceMul]
  exact SetR.dropTo ((Le.refl H).upd hp) (SetR.now hq)

theorem of_fn {n : Int} (hn : -9223372036854775808 ≤ n ∧ n < 9223372036854775808) : PFn Tryd.prog 58 [.int .i64 n] (IntA n) := by
  intro H Q hq
  refine enter58 (by simp) ?_
  have v2 : ∀ u : Nat, u < 18446744073709551616 → val 4294967296 [u % 4294967296, u / 2 ^ 32] = u := by
    intro u hu; simp only [val]; omega
  have l2 : ∀ u : Nat, u < 18446744073709551616 → Lim 4294967296 [u % 4294967296, u / 2 ^ 32] := fun u hu => Lim.cons (Nat.mod_lt _ (by omega)) (Lim.one (by omega))
  simp (disch := first|exact Xe|fail) only [ac58, ↓Xa,Xb,Xc,↓reduceIte,Nat.reduceLT,Nat.reduceEqDiff,Nat.reduceBEq,Nat.reduceLeDiff,Nat.reduceAdd,Nat.reduceMul]
  refine alloc_i fun p hp => ?_
  have key' : ∀ (u : Nat) (neg : Bool), u < 18446744073709551616 → sg neg u = n → ∀ {H K}, K (IntA n) H → callW Tryd.prog (.fn (.func 35) [] []) [.bool neg, .seq 2 [.int .u32 ((u % 4294967296 : Nat) : Int), .int .u32 ((u / 2 ^ 32 : Nat) : Int)] true] H K := by
    intro u neg hu hs H K hk
    have := make_fn neg true (l2 u hu) (by simp)
    rw [v2 u hu, hs] at this
    exact this.call hk
  by_cases h0 : n < 0
  · obtain ⟨m, rfl⟩ : ∃ m : Nat, n = -(m : Int) := ⟨n.natAbs, by omega⟩
    have c1 : ∀ K, convW .u64 (.int .i64 (-(m : Int))) K ↔ K (.int .u64 ((18446744073709551616 - m : Nat) : Int)) := fun K => by
      simp only [convW, wmod_u64]; rw [show (-(m : Int)) % 18446744073709551616 = ((18446744073709551616 - m : Nat) : Int) by omega]
    have c2 : ∀ K, unW .neg (.int .u64 ((18446744073709551616 - m : Nat) : Int)) K ↔ K (.int .u64 (m : Int)) := fun K => by
      simp only [unW, wmod_u64]; rw [show (0 - ((18446744073709551616 - m : Nat) : Int)) % 18446744073709551616 = (m : Int) by omega]
    have c3 : ∀ K, binW .lss (.int .i64 (-(m : Int))) (.int .i64 ((0 : Nat) : Int)) K ↔ K (.bool true) := fun K => by
      simp only [binW, binInt, true_and]; rw [decide_eq_true (by omega)]
    simp (disch := first|exact Xe|fail) only [c1, c2, c3, ↓Xa,Xb,Xc,↓reduceIte,Nat.reduceLT,Nat.reduceEqDiff,Nat.reduceBEq,Nat.reduceLeDiff,Nat.reduceAdd,Nat.reduceMul]
    refine key' m true (by omega) (by simp [sg]) ?_
    simp (disch := first|exact Xe|fail) only [rs58, IntA, ↓Xa,Xb,Xc,↓reduceIte,Nat.reduceLT,Nat.reduceEqDiff,Nat.reduceBEq,Nat.reduceLeDiff,Nat.reduceAdd,Nat.reduceMul]
    exact SetR.dropTo ((Le.refl H).upd hp) (SetR.now hq)
  · obtain ⟨m, rfl⟩ : ∃ m : Nat, n = (m : Int) := ⟨n.natAbs, by omega⟩
    simp (disch := first|exact Xe|fail) only [↓Xa,Xb,Xc,↓reduceIte,Nat.reduceLT,Nat.reduceEqDiff,Nat.reduceBEq,Nat.reduceLeDiff,Nat.reduceAdd,Nat.reduceMul]
    refine key' m false (by omega) (by simp [sg]) ?_
    simp (disch := first|exact Xe|fail) only [rs58, IntA, ↓Xa,Xb,Xc,↓reduceIte,Nat.reduceLT,Nat.reduceEqDiff,Nat.reduceBEq,Nat.reduceLeDiff,Nat.reduceAdd,Nat.reduceMul]
    exact SetR.dropTo ((Le.refl H).upd hp) (SetR.now hq)

theorem neg_fn {x : Int} {k : Nat} (hx : Bd k x) (hk : k ≤ 549755813888) : PFn Tryd.prog 145 [IntA x] (IntA (-x)) := by
  intro H Q hq
  have hl := hx.len
  have e : -x = sg (!decide (x < 0)) x.natAbs := by unfold sg; by_cases h : x < 0 <;> simp [h] <;> omega
  rw [e] at hq
  refine enter145 (by simp) ?_
  simp (disch := first|exact Xe|fail) only [ac145, IntA, ↓Xa,Xb,Xc,↓reduceIte,Nat.reduceLT,Nat.reduceEqDiff,Nat.reduceBEq,Nat.reduceLeDiff,Nat.reduceAdd,Nat.reduceMul]
  refine alloc_i fun p hp => ?_
  simp (disch := first|exact Xe|fail) only [↓Xa,Xb,Xc,↓reduceIte,Nat.reduceLT,Nat.reduceEqDiff,Nat.reduceBEq,Nat.reduceLeDiff,Nat.reduceAdd,Nat.reduceMul]
  refine alloc_i fun p2 hp2 => ?_
  have hne := (upd_none.1 hp2).1
  simp (disch := first|exact Xe|fail) only [↓Xa,Xb,Xc,↓reduceIte,Nat.reduceLT,Nat.reduceEqDiff,Nat.reduceBEq,Nat.reduceLeDiff,Nat.reduceAdd,Nat.reduceMul]
  refine (made_fn _ _ (by omega)).call ?_
  simp (disch := first|exact Xe|fail) only [rs145, IntA, ↓Xa,Xb,Xc,↓reduceIte,Nat.reduceLT,Nat.reduceEqDiff,Nat.reduceBEq,Nat.reduceLeDiff,Nat.reduceAdd,Nat.reduceMul]
  exact SetR.dropTo (((Le.refl H).upd hp).upd hp2) (SetR.now hq)

theorem abs_fn {x : Int} {k : Nat} (hx : Bd k x) (hk : k ≤ 549755813888) : PFn Tryd.prog 122 [IntA x] (IntA (x.natAbs : Int)) := by
  intro H Q hq
  have hl := hx.len
  refine enter122 (by simp) ?_
  simp (disch := first|exact Xe|fail) only [ac122, IntA, ↓Xa,Xb,Xc,↓reduceIte,Nat.reduceLT,Nat.reduceEqDiff,Nat.reduceBEq,Nat.reduceLeDiff,Nat.reduceAdd,Nat.reduceMul]
  refine alloc_i fun p hp => ?_
  simp (disch := first|exact Xe|fail) only [↓Xa,Xb,Xc,↓reduceIte,Nat.reduceLT,Nat.reduceEqDiff,Nat.reduceBEq,Nat.reduceLeDiff,Nat.reduceAdd,Nat.reduceMul]
  refine alloc_i fun p2 hp2 => ?_
  have hne := (upd_none.1 hp2).1
  simp (disch := first|exact Xe|fail) only [↓Xa,Xb,Xc,↓reduceIte,Nat.reduceLT,Nat.reduceEqDiff,Nat.reduceBEq,Nat.reduceLeDiff,Nat.reduceAdd,Nat.reduceMul]
  refine (made_fn false _ (by omega)).call ?_
  simp (disch := first|exact Xe|fail) only [rs122, IntA, ↓Xa,Xb,Xc,↓reduceIte,Nat.reduceLT,Nat.reduceEqDiff,Nat.reduceBEq,Nat.reduceLeDiff,Nat.reduceAdd,Nat.reduceMul]
  exact SetR.dropTo (((Le.refl H).upd hp).upd hp2) (SetR.now (by simpa [IntA, sg] using hq))

def sgnI (x : Int) : Int := if x = 0 then ((0 : Nat) : Int) else if x < 0 then -1 else ((1 : Nat) : Int)
theorem sign_fn {x : Int} {k : Nat} (hx : Bd k x) (hk : k ≤ 549755813888) : PFn Tryd.prog 27 [IntA x] (.int .i64 (sgnI x)) := by
  intro H Q hq
  have hl := hx.len
  have h0 := digs_len0 (B := 4294967296) (n := x.natAbs) (by omega)
  refine enter27 (by simp) ?_
  simp (disch := first|exact Xe|fail) only [ac27, IntA, ↓Xa,Xb,Xc,↓reduceIte,Nat.reduceLT,Nat.reduceEqDiff,Nat.reduceBEq,Nat.reduceLeDiff,Nat.reduceAdd,Nat.reduceMul]
  refine alloc_i fun p hp => ?_
  by_cases hz : x = 0
  · have h1 : (digs 4294967296 x.natAbs).length = 0 := by rw [h0]; omega
    simp (disch := first|exact Xe|fail) only [rs27, h1, ↓Xa,Xb,Xc,↓reduceIte,Nat.reduceLT,Nat.reduceEqDiff,Nat.reduceBEq,Nat.reduceLeDiff,Nat.reduceAdd,Nat.reduceMul]
    refine SetR.dropTo ((Le.refl H).upd hp) (SetR.now ?_)
    simpa [sgnI, hz] using hq
  · have h1 : ((digs 4294967296 x.natAbs).length = 0) = False := by rw [h0]; simp; omega
    by_cases hn : x < 0
    · simp (disch := first|exact Xe|fail) only [rs27, h1, hn, ↓Xa,Xb,Xc,↓reduceIte,Nat.reduceLT,Nat.reduceEqDiff,Nat.reduceBEq,Nat.reduceLeDiff,Nat.reduceAdd,Nat.reduceMul]
      refine SetR.dropTo ((Le.refl H).upd hp) (SetR.now ?_)
      simpa [sgnI, hz, hn] using hq
    · simp (disch := first|exact Xe|fail) only [rs27, h1, hn, ↓Xa,Xb,Xc,↓reduceIte,Nat.reduceLT,Nat.reduceEqDiff,Nat.reduceBEq,Nat.reduceLeDiff,Nat.reduceAdd,Nat.reduceMul]
      refine SetR.dropTo ((Le.refl H).upd hp) (SetR.now ?_)
      simpa [sgnI, hz, hn] using hq

def cmpI (x y : Int) : Int := if x < y then -1 else if y < x then ((1 : Nat) : Int) else ((0 : Nat) : Int)
theorem addi_fn {x y : Int} {k k' : Nat} (hx : Bd k x) (hk : k ≤ 549755813888) (hy : Bd k' y) (hk' : k' ≤ 549755813888) : PFn Tryd.prog 121 [IntA x, IntA y] (IntA (x + y)) := by
  intro H Q hq
  have hl := hx.len
  have hl' := hy.len
  have vx := val_digs (B := 4294967296) (by omega) x.natAbs
  have vy := val_digs (B := 4294967296) (by omega) y.natAbs
  have lx := lim_digs (B := 4294967296) (by omega) x.natAbs
  have ly := lim_digs (B := 4294967296) (by omega) y.natAbs
  have hxm := hx.mono (Nat.le_max_left k k')
  have hym := hy.mono (Nat.le_max_right k k')
  refine enter121 (by simp) ?_
  simp (disch := first|exact Xe|fail) only [ac121, IntA, ↓Xa,Xb,Xc,↓reduceIte,Nat.reduceLT,Nat.reduceEqDiff,Nat.reduceBEq,Nat.reduceLeDiff,Nat.reduceAdd,Nat.reduceMul]
  refine alloc_i fun p hp => ?_
  simp (disch := first|exact Xe|fail) only [↓Xa,Xb,Xc,↓reduceIte,Nat.reduceLT,Nat.reduceEqDiff,Nat.reduceBEq,Nat.reduceLeDiff,Nat.reduceAdd,Nat.reduceMul]
  refine alloc_i fun p2 hp2 => ?_
  simp (disch := first|exact Xe|fail) only [↓Xa,Xb,Xc,↓reduceIte,Nat.reduceLT,Nat.reduceEqDiff,Nat.reduceBEq,Nat.reduceLeDiff,Nat.reduceAdd,Nat.reduceMul]
  refine alloc_i fun p3 hp3 => ?_
  have hne := (upd_none.1 hp2).1
  have hne3 := (upd_none.1 hp3).1
  have hne4 := (upd_none.1 (upd_none.1 hp3).2).1
  by_cases hs : decide (x < 0) = decide (y < 0)
  · have hsb : (decide (x < 0) == decide (y < 0)) = true := by rw [hs]; simp
    simp (disch := first|exact Xe|fail) only [hsb, ↓Xa,Xb,Xc,↓reduceIte,Nat.reduceLT,Nat.reduceEqDiff,Nat.reduceBEq,Nat.reduceLeDiff,Nat.reduceAdd,Nat.reduceMul]
    refine PFn.dcall (add_fn true true lx ly (by omega) (by omega)) ?_
    rw [vx, vy]
    simp (disch := first|exact Xe|fail) only [↓Xa,Xb,Xc,↓reduceIte,Nat.reduceLT,Nat.reduceEqDiff,Nat.reduceBEq,Nat.reduceLeDiff,Nat.reduceAdd,Nat.reduceMul]
    have hb : Bd (max k k' + 1) (sg (decide (x < 0)) (x.natAbs + y.natAbs)) := Bd.sgn (by unfold Bd at hxm hym; rw [Nat.pow_succ]; omega)
    have hb' := hb.len
    rw [sg_abs] at hb'
    refine (made_fn _ _ (by omega)).call ?_
    simp (disch := first|exact Xe|fail) only [rs121, IntA, ↓Xa,Xb,Xc,↓reduceIte,Nat.reduceLT,Nat.reduceEqDiff,Nat.reduceBEq,Nat.reduceLeDiff,Nat.reduceAdd,Nat.reduceMul]
    have e : x + y = sg (decide (x < 0)) (x.natAbs + y.natAbs) := by
      have := decide_eq_decide.1 hs
      unfold sg; by_cases h : x < 0 <;> simp [h] <;> omega
    rw [e] at hq
    exact SetR.dropTo ((((Le.refl H).upd hp).upd hp2).upd hp3) (SetR.now hq)
  · have hsb : (decide (x < 0) == decide (y < 0)) = false := by simpa using hs
    have hs' : ¬ ((x < 0) ↔ (y < 0)) := fun h => hs (decide_eq_decide.2 h)
    simp (disch := first|exact Xe|fail) only [hsb, ↓Xa,Xb,Xc,↓reduceIte,Nat.reduceLT,Nat.reduceEqDiff,Nat.reduceBEq,Nat.reduceLeDiff,Nat.reduceAdd,Nat.reduceMul]
    refine (cmp_fn true true lx ly).call ?_
    rw [vx, vy]
    by_cases hc : x.natAbs < y.natAbs
    · have c3 : ∀ K, binW .lss (.int .i64 (cmpZ x.natAbs y.natAbs)) (.int .i64 ((0 : Nat) : Int)) K ↔ K (.bool true) := fun K => by
        simp [binW, binInt, cmpZ, hc]
      simp (disch := first|exact Xe|fail) only [c3, ↓Xa,Xb,Xc,↓reduceIte,Nat.reduceLT,Nat.reduceEqDiff,Nat.reduceBEq,Nat.reduceLeDiff,Nat.reduceAdd,Nat.reduceMul]
      refine (sub_fn true true ly lx (by rw [vx, vy]; omega) (by omega) (by omega)).call ?_
      rw [vx, vy]
      simp (disch := first|exact Xe|fail) only [↓Xa,Xb,Xc,↓reduceIte,Nat.reduceLT,Nat.reduceEqDiff,Nat.reduceBEq,Nat.reduceLeDiff,Nat.reduceAdd,Nat.reduceMul]
      have hb : Bd k' (sg (decide (y < 0)) (y.natAbs - x.natAbs)) := Bd.sgn (by unfold Bd at hy; omega)
      have hb' := hb.len
      rw [sg_abs] at hb'
      refine (made_fn _ _ (by omega)).call ?_
      simp (disch := first|exact Xe|fail) only [rs121, IntA, ↓Xa,Xb,Xc,↓reduceIte,Nat.reduceLT,Nat.reduceEqDiff,Nat.reduceBEq,Nat.reduceLeDiff,Nat.reduceAdd,Nat.reduceMul]
      have e : x + y = sg (decide (y < 0)) (y.natAbs - x.natAbs) := by
        unfold sg; by_cases h : y < 0 <;> simp [h] <;> omega
      rw [e] at hq
      exact SetR.dropTo ((((Le.refl H).updB hp).updB (upd_none.1 hp2).2).updB (upd_none.1 (upd_none.1 hp3).2).2) (SetR.now hq)
    · have c3 : ∀ K, binW .lss (.int .i64 (cmpZ x.natAbs y.natAbs)) (.int .i64 ((0 : Nat) : Int)) K ↔ K (.bool false) := fun K => by
        have : ¬ (cmpZ x.natAbs y.natAbs < 0) := by unfold cmpZ; rw [if_neg hc]; split <;> omega
        simp [binW, binInt]; rw [decide_eq_false this]
      simp (disch := first|exact Xe|fail) only [c3, ↓Xa,Xb,Xc,↓reduceIte,Nat.reduceLT,Nat.reduceEqDiff,Nat.reduceBEq,Nat.reduceLeDiff,Nat.reduceAdd,Nat.reduceMul]
      refine (sub_fn true true lx ly (by rw [vx, vy]; omega) (by omega) (by omega)).call ?_
      rw [vx, vy]
      simp (disch := first|exact Xe|fail) only [↓Xa,Xb,Xc,↓reduceIte,Nat.reduceLT,Nat.reduceEqDiff,Nat.reduceBEq,Nat.reduceLeDiff,Nat.reduceAdd,Nat.reduceMul]
      have hb : Bd k (sg (decide (x < 0)) (x.natAbs - y.natAbs)) := Bd.sgn (by unfold Bd at hx; omega)
      have hb' := hb.len
      rw [sg_abs] at hb'
      refine (made_fn _ _ (by omega)).call ?_
      simp (disch := first|exact Xe|fail) only [rs121, IntA, ↓Xa,Xb,Xc,↓reduceIte,Nat.reduceLT,Nat.reduceEqDiff,Nat.reduceBEq,Nat.reduceLeDiff,Nat.reduceAdd,Nat.reduceMul]
      have e : x + y = sg (decide (x < 0)) (x.natAbs - y.natAbs) := by
        unfold sg; by_cases h : x < 0 <;> simp [h] <;> omega
      rw [e] at hq
      exact SetR.dropTo ((((Le.refl H).upd hp).upd hp2).upd hp3) (SetR.now hq)

theorem subi_fn {x y : Int} {k k' : Nat} (hx : Bd k x) (hk : k ≤ 549755813888) (hy : Bd k' y) (hk' : k' ≤ 549755813888) : PFn Tryd.prog 141 [IntA x, IntA y] (IntA (x - y)) := by
  intro H Q hq
  refine enter141 (by simp) ?_
  simp (disch := first|exact Xe|fail) only [ac141, IntA, ↓Xa,Xb,Xc,↓reduceIte,Nat.reduceLT,Nat.reduceEqDiff,Nat.reduceBEq,Nat.reduceLeDiff,Nat.reduceAdd,Nat.reduceMul]
  refine alloc_i fun p hp => ?_
  simp (disch := first|exact Xe|fail) only [↓Xa,Xb,Xc,↓reduceIte,Nat.reduceLT,Nat.reduceEqDiff,Nat.reduceBEq,Nat.reduceLeDiff,Nat.reduceAdd,Nat.reduceMul]
  refine alloc_i fun p2 hp2 => ?_
  simp (disch := first|exact Xe|fail) only [↓Xa,Xb,Xc,↓reduceIte,Nat.reduceLT,Nat.reduceEqDiff,Nat.reduceBEq,Nat.reduceLeDiff,Nat.reduceAdd,Nat.reduceMul]
  refine alloc_i fun p3 hp3 => ?_
  have hne := (upd_none.1 hp2).1
  have hne3 := (upd_none.1 hp3).1
  have hne4 := (upd_none.1 (upd_none.1 hp3).2).1
  simp (disch := first|exact Xe|fail) only [↓Xa,Xb,Xc,↓reduceIte,Nat.reduceLT,Nat.reduceEqDiff,Nat.reduceBEq,Nat.reduceLeDiff,Nat.reduceAdd,Nat.reduceMul]
  refine PFn.dcall (neg_fn hy hk') ?_
  simp (disch := first|exact Xe|fail) only [↓Xa,Xb,Xc,↓reduceIte,Nat.reduceLT,Nat.reduceEqDiff,Nat.reduceBEq,Nat.reduceLeDiff,Nat.reduceAdd,Nat.reduceMul]
  refine (addi_fn hx hk hy.neg hk').call ?_
  simp (disch := first|exact Xe|fail) only [rs141, IntA, ↓Xa,Xb,Xc,↓reduceIte,Nat.reduceLT,Nat.reduceEqDiff,Nat.reduceBEq,Nat.reduceLeDiff,Nat.reduceAdd,Nat.reduceMul]
  exact SetR.dropTo ((((Le.refl H).upd hp).upd hp2).upd hp3) (SetR.now hq)

theorem muli_fn {x y : Int} {k k' : Nat} (hx : Bd k x) (hk : k ≤ 549755813888) (hy : Bd k' y) (hk' : k' ≤ 549755813888) : PFn Tryd.prog 89 [IntA x, IntA y] (IntA (x * y)) := by
  intro H Q hq
  have hl := hx.len
  have hl' := hy.len
  have vx := val_digs (B := 4294967296) (by omega) x.natAbs
  have vy := val_digs (B := 4294967296) (by omega) y.natAbs
  have lx := lim_digs (B := 4294967296) (by omega) x.natAbs
  have ly := lim_digs (B := 4294967296) (by omega) y.natAbs
  have hb := (hx.mul hy).len
  refine enter89 (by simp) ?_
  simp (disch := first|exact Xe|fail) only [ac89, IntA, ↓Xa,Xb,Xc,↓reduceIte,Nat.reduceLT,Nat.reduceEqDiff,Nat.reduceBEq,Nat.reduceLeDiff,Nat.reduceAdd,Nat.reduceMul]
  refine alloc_i fun p hp => ?_
  simp (disch := first|exact Xe|fail) only [↓Xa,Xb,Xc,↓reduceIte,Nat.reduceLT,Nat.reduceEqDiff,Nat.reduceBEq,Nat.reduceLeDiff,Nat.reduceAdd,Nat.reduceMul]
  refine alloc_i fun p2 hp2 => ?_
  simp (disch := first|exact Xe|fail) only [↓Xa,Xb,Xc,↓reduceIte,Nat.reduceLT,Nat.reduceEqDiff,Nat.reduceBEq,Nat.reduceLeDiff,Nat.reduceAdd,Nat.reduceMul]
  refine alloc_i fun p3 hp3 => ?_
  have hne := (upd_none.1 hp2).1
  have hne3 := (upd_none.1 hp3).1
  have hne4 := (upd_none.1 (upd_none.1 hp3).2).1
  simp (disch := first|exact Xe|fail) only [↓Xa,Xb,Xc,↓reduceIte,Nat.reduceLT,Nat.reduceEqDiff,Nat.reduceBEq,Nat.reduceLeDiff,Nat.reduceAdd,Nat.reduceMul]
  refine PFn.dcall (mul_fn true true lx ly (by omega) (by omega)) ?_
  rw [vx, vy]
  simp (disch := first|exact Xe|fail) only [↓Xa,Xb,Xc,↓reduceIte,Nat.reduceLT,Nat.reduceEqDiff,Nat.reduceBEq,Nat.reduceLeDiff,Nat.reduceAdd,Nat.reduceMul]
  rw [Int.natAbs_mul] at hb
  refine (made_fn _ _ (by omega)).call ?_
  have e : sg (!(decide (x < 0) == decide (y < 0))) (x.natAbs * y.natAbs) = x * y := by
    rw [← Int.natAbs_mul]
    unfold sg
    by_cases h : x < 0 <;> by_cases h' : y < 0 <;> simp [h, h']
    · rw [abs_nn (Int.mul_nonneg_of_nonpos_of_nonpos (by omega) (by omega))]
    · rw [abs_np (Int.mul_nonpos_of_nonpos_of_nonneg (by omega) (by omega))]
    · rw [abs_np (Int.mul_nonpos_of_nonneg_of_nonpos (by omega) (by omega))]
    · rw [abs_nn (Int.mul_nonneg (by omega) (by omega))]
  rw [e]
  simp (disch := first|exact Xe|fail) only [rs89, IntA, ↓Xa,Xb,Xc,↓reduceIte,Nat.reduceLT,Nat.reduceEqDiff,Nat.reduceBEq,Nat.reduceLeDiff,Nat.reduceAdd,Nat.reduceMul]
  exact SetR.dropTo ((((Le.refl H).upd hp).upd hp2).upd hp3) (SetR.now hq)

end Go.Proofs.YtanchgkiomfhhaaDoor.Fw

/- What the reference computes of whole numbers: digits to the base 65536. -/
namespace Go.Proofs.YtanchgkiomfhhaaDoor.Fw
set_option linter.unusedSimpArgs false
set_option linter.unusedVariables false
open Go Go.Proofs.YtanchgkiomfhhaaDoor.Ma
set_option maxRecDepth 20000

def RefA (z : Int) (t : Bool) : AV := .agg [.bool (decide (z < 0)), LS (digs 65536 z.natAbs) t]
theorem RefA_sg (neg : Bool) (n : Nat) (t : Bool) : RefA (sg neg n) t = .agg [.bool (neg && decide (0 < (digs 65536 n).length)), LS (digs 65536 n) t] := by
  simp only [RefA, sg_abs, sg_neg, digs_pos_len (B := 65536) (n := n) (by omega)]

theorem rnorm_fn {l : List Nat} (neg t : Bool) (hl : Lim 65536 l) (hn : l.length ≤ 8796093022208) : PFn Tryd.prog 139 [.bool neg, LS l t] (RefA (sg neg (val 65536 l)) false) := by
  intro H Q hq
  rw [RefA_sg] at hq
  refine enter139 (by simp) ?_
  simp (disch := first|exact Xe|fail) only [ac139, ↓Xa,Xb,Xc,↓reduceIte,Nat.reduceLT,Nat.reduceEqDiff,Nat.reduceBEq,Nat.reduceLeDiff,Nat.reduceAdd,Nat.reduceMul]
  refine alloc_i fun p hp => ?_
  simp (disch := first|exact Xe|fail) only [↓Xa,Xb,Xc,↓reduceIte,Nat.reduceLT,Nat.reduceEqDiff,Nat.reduceBEq,Nat.reduceLeDiff,Nat.reduceAdd,Nat.reduceMul]
  refine W_loop (fun n : Nat => ⟨[], [(0, .bool neg), (1, LS l t), (4, .ptr p 2 0), (5, .int .i64 n)], H.upd p (some (.row 39 0 [.bool false, .seq 0 [] true]))⟩) (fun n => n ≤ l.length ∧ ∀ i, n ≤ i → i < l.length → l.getD i 0 = 0) id l.length (Settle.now rfl) ⟨Nat.le_refl _, fun i h1 h2 => absurd h1 (by omega)⟩ ?_
  rintro n ⟨h1, hz⟩
  have fin : ∀ ti, (n = 0 ∨ l.getD (n - 1) 0 ≠ 0) → SetR Q (.agg [.bool (neg && decide (0 < n)), LS (l.take n) ti]) (H.upd p (some (.row 39 0 [.bool (neg && decide (0 < n)), LS (l.take n) ti]))) := fun ti h => by
    have e := tr_take h1 hz h
    have e2 : n = (digs 65536 (val 65536 l)).length := by
      have := congrArg List.length e
      rw [List.length_take, Nat.min_eq_left h1, tr_digs (by omega) hl] at this; exact this
    rw [e, tr_digs (by omega) hl, e2]
    exact SetR.dropTo ((Le.refl H).upd hp) (SetR.loose (SetR.now hq))
  have last : (n = 0 ∨ l.getD (n - 1) 0 ≠ 0) → W Tryd.prog (sndC (sndC (sndC ac139))) (retN rs139 Q) ⟨[], [(0, .bool neg), (1, LS l t), (4, .ptr p 2 0), (5, .int .i64 n), (17, .bool false)], H.upd p (some (.row 39 0 [.bool false, .seq 0 [] true]))⟩ := fun h => by
    have f := fun ti => fin ti h
    cases neg
    · simp (disch := first|exact Xe|fail) only [ac139, rs139, sndC, ↓Xa,Xb,Xc,↓reduceIte,Nat.reduceLT,Nat.reduceEqDiff,Nat.reduceBEq,Nat.reduceLeDiff,Nat.reduceAdd,Nat.reduceMul]
      exact f _
    · simp (disch := first|exact Xe|fail) only [ac139, rs139, sndC, ↓Xa,Xb,Xc,↓reduceIte,Nat.reduceLT,Nat.reduceEqDiff,Nat.reduceBEq,Nat.reduceLeDiff,Nat.reduceAdd,Nat.reduceMul]
      exact f _
  by_cases h0 : 0 < n
  · by_cases h2 : l.getD (n - 1) 0 = 0
    · simp (disch := first|exact Xe|fail) only [h0, h2, ↓Xa,Xb,Xc,↓reduceIte,Nat.reduceLT,Nat.reduceEqDiff,Nat.reduceBEq,Nat.reduceLeDiff,Nat.reduceAdd,Nat.reduceMul]
      refine Settle.now ⟨n - 1, ?_, ⟨by omega, fun i hi hl' => ?_⟩, rfl⟩
      · show n - 1 < n; omega
      · rcases Nat.lt_or_ge i n with h | h
        · rw [show i = n - 1 by omega]; exact h2
        · exact hz i h hl'
    · simp (disch := first|exact Xe|fail) only [h0, h2, ↓Xa,Xb,Xc,↓reduceIte,Nat.reduceLT,Nat.reduceEqDiff,Nat.reduceBEq,Nat.reduceLeDiff,Nat.reduceAdd,Nat.reduceMul]
      exact Settle.now (last (.inr h2))
  · simp (disch := first|exact Xe|fail) only [h0, ↓Xa,Xb,Xc,↓reduceIte,Nat.reduceLT,Nat.reduceEqDiff,Nat.reduceBEq,Nat.reduceLeDiff,Nat.reduceAdd,Nat.reduceMul]
    exact Settle.now (last (.inl (by omega)))

theorem lss_neg {n : Int} {K : AV → Prop} : binW .lss (.int .i64 n) (.int .i64 ((0 : Nat) : Int)) K ↔ K (.bool (decide (n < 0))) := by
  simp only [binW, binInt, true_and]; exact Iff.rfl
theorem rof_fn {n : Int} (hn : -9223372036854775808 ≤ n ∧ n < 9223372036854775808) : PFn Tryd.prog 45 [.int .i64 n] (RefA n false) := by
  intro H Q hq
  refine enter45 (by simp) ?_
  rw [show ac45 = .seq (fstC ac45) (.seq (fstC (sndC ac45)) (.seq (fstC (sndC (sndC ac45))) (hold (sndC (sndC (sndC ac45)))))) from rfl]
  simp (disch := first|exact Xe|fail) only [fstC, sndC, ac45, ↓Xa,Xb,Xc,↓reduceIte,Nat.reduceLT,Nat.reduceEqDiff,Nat.reduceBEq,Nat.reduceLeDiff,Nat.reduceAdd,Nat.reduceMul]
  refine alloc_i fun p hp => ?_
  have tail : ∀ (u0 : Nat), u0 < 18446744073709551616 → sg (decide (n < 0)) u0 = n → W Tryd.prog (hold (sndC (sndC (sndC ac45)))) (retN rs45 Q) ⟨[], [(0, .int .i64 n), (2, .ptr p 2 0), (3, .int .u64 u0)], H.upd p (some (.row 39 0 [.bool false, .seq 0 [] true]))⟩ := by
    intro u0 hu0 hs
    simp (disch := first|exact Xe|fail) only [ac45, sndC, hold, ↓Xa,Xb,Xc,↓reduceIte,Nat.reduceLT,Nat.reduceEqDiff,Nat.reduceBEq,Nat.reduceLeDiff,Nat.reduceAdd,Nat.reduceMul]
    refine W_loop (fun s : Nat × List Nat × AV × AHeap => ⟨[], [(0, .int .i64 n), (2, .ptr p 2 0), (3, .int .u64 s.1), (4, s.2.2.1)], s.2.2.2⟩)
      (fun s => grow (H.upd p (some (.row 39 0 [.bool false, .seq 0 [] true]))) 172 s.2.1 s.2.2.1 s.2.2.2 ∧ Lim 65536 s.2.1 ∧ val 65536 s.2.1 + 65536 ^ s.2.1.length * s.1 = u0 ∧ s.2.1.length ≤ 4 ∧ s.1 < 65536 ^ (4 - s.2.1.length)) (fun s => s.1)
      (u0, [], _, _) (Settle.now rfl) ⟨grow_nil, Lim.nil _, by simp [val], by simp, by simpa using hu0⟩ ?_
    rintro ⟨u, done, x, H'⟩ ⟨hg, h1, h2, h3, h4⟩
    dsimp only at hg h1 h2 h3 h4 ⊢
    have hu : u < 18446744073709551616 := by
      have : (65536 : Nat) ^ (4 - done.length) ≤ 65536 ^ 4 := Nat.pow_le_pow_right (by omega) (by omega)
      omega
    by_cases h0 : 0 < u
    · have hm : u / 65536 < 18446744073709551616 := by omega
      have hr : u % 65536 < 4294967296 := by omega
      simp (disch := first|exact Xe|fail) only [h0, ne_eq,Nat.reduceEqDiff, ↓Xa,Xb,Xc,↓reduceIte,Nat.reduceLT,Nat.reduceEqDiff,Nat.reduceBEq,Nat.reduceLeDiff,Nat.reduceAdd,Nat.reduceMul]
      refine app_grow (m := [u % 65536]) hg rfl (by simp) (by simp; omega) fun x' H2 hg2 => ?_
      simp (disch := first|exact Xe|fail) only [ne_eq,Nat.reduceEqDiff, ↓Xa,Xb,Xc,↓reduceIte,Nat.reduceLT,Nat.reduceEqDiff,Nat.reduceBEq,Nat.reduceLeDiff,Nat.reduceAdd,Nat.reduceMul]
      refine Settle.now ⟨(u / 65536, _, _, _), Nat.div_lt_self h0 (by omega), ⟨hg2, lim_snoc h1 (Nat.mod_lt _ (by omega)), ?_, ?_, ?_⟩, rfl⟩
      · rw [val_snoc, List.length_append, List.length_singleton, Nat.pow_succ, Nat.add_assoc, Nat.mul_assoc, ← Nat.mul_add, Nat.mod_add_div]; exact h2
      · simp only [List.length_append, List.length_singleton]
        rcases Nat.lt_or_ge done.length 4 with e | e
        · omega
        · rw [show 4 - done.length = 0 by omega] at h4; simp at h4; omega
      · simp only [List.length_append, List.length_singleton]
        rcases Nat.lt_or_ge done.length 4 with e | e
        · rw [show 4 - done.length = 4 - (done.length + 1) + 1 by omega, Nat.pow_succ] at h4
          exact Nat.div_lt_of_lt_mul (by rw [Nat.mul_comm]; exact h4)
        · rw [show 4 - done.length = 0 by omega] at h4; simp at h4; omega
    · obtain rfl : u = 0 := by omega
      rw [Nat.mul_zero, Nat.add_zero] at h2
      simp (disch := first|exact Xe|fail) only [h0, ↓Xa,Xb,Xc,↓reduceIte,Nat.reduceLT,Nat.reduceEqDiff,Nat.reduceBEq,Nat.reduceLeDiff,Nat.reduceAdd,Nat.reduceMul]
      refine Settle.grown 4 rfl hg (Settle.now ?_)
      simp (disch := first|exact Xe|fail) only [lss_neg, ↓Xa,Xb,Xc,↓reduceIte,Nat.reduceLT,Nat.reduceEqDiff,Nat.reduceBEq,Nat.reduceLeDiff,Nat.reduceAdd,Nat.reduceMul]
      refine (rnorm_fn _ false h1 (by omega)).call ?_
      rw [h2, hs]
      simp (disch := first|exact Xe|fail) only [rs45, RefA, ↓Xa,Xb,Xc,↓reduceIte,Nat.reduceLT,Nat.reduceEqDiff,Nat.reduceBEq,Nat.reduceLeDiff,Nat.reduceAdd,Nat.reduceMul]
      exact SetR.dropTo ((Le.refl H).upd hp) (SetR.now hq)
  by_cases h0 : n < 0
  · obtain ⟨m, rfl⟩ : ∃ m : Nat, n = -(m : Int) := ⟨n.natAbs, by omega⟩
    have c1 : ∀ K, convW .u64 (.int .i64 (-(m : Int))) K ↔ K (.int .u64 ((18446744073709551616 - m : Nat) : Int)) := fun K => by
      simp only [convW, wmod_u64]; rw [show (-(m : Int)) % 18446744073709551616 = ((18446744073709551616 - m : Nat) : Int) by omega]
    have c2 : ∀ K, unW .neg (.int .u64 ((18446744073709551616 - m : Nat) : Int)) K ↔ K (.int .u64 (m : Int)) := fun K => by
      simp only [unW, wmod_u64]; rw [show (0 - ((18446744073709551616 - m : Nat) : Int)) % 18446744073709551616 = (m : Int) by omega]
    simp (disch := first|exact Xe|fail) only [c1, c2, lss_neg, h0, ↓Xa,Xb,Xc,↓reduceIte,Nat.reduceLT,Nat.reduceEqDiff,Nat.reduceBEq,Nat.reduceLeDiff,Nat.reduceAdd,Nat.reduceMul]
    exact tail m (by omega) (by simp only [sg, h0, decide_true, if_true])
  · obtain ⟨m, rfl⟩ : ∃ m : Nat, n = (m : Int) := ⟨n.natAbs, by omega⟩
    simp (disch := first|exact Xe|fail) only [h0, ↓Xa,Xb,Xc,↓reduceIte,Nat.reduceLT,Nat.reduceEqDiff,Nat.reduceBEq,Nat.reduceLeDiff,Nat.reduceAdd,Nat.reduceMul]
    exact tail m (by omega) (by simp only [sg, h0, decide_false, Bool.false_eq_true, if_false])

theorem Bd.rlen {k : Nat} {z : Int} (h : Bd k z) : (digs 65536 z.natAbs).length ≤ 2 * k := digs_len (by omega) _ _ (by
  unfold Bd at h; rw [Nat.pow_mul]; exact h)

end Go.Proofs.YtanchgkiomfhhaaDoor.Fw

/- What the reference computes of whole numbers: signs, comparing, sums, products. -/
namespace Go.Proofs.YtanchgkiomfhhaaDoor.Fw
set_option linter.unusedSimpArgs false
set_option linter.unusedVariables false
open Go Go.Proofs.YtanchgkiomfhhaaDoor.Ma
set_option maxRecDepth 20000

theorem rsign_fn {x : Int} {k : Nat} (t : Bool) (hx : Bd k x) (hk : k ≤ 549755813888) : PFn Tryd.prog 119 [RefA x t] (.int .i64 (sgnI x)) := by
  intro H Q hq
  have hl := hx.rlen
  have h0 := digs_len0 (B := 65536) (n := x.natAbs) (by omega)
  refine enter119 (by simp) ?_
  simp (disch := first|exact Xe|fail) only [ac119, RefA, ↓Xa,Xb,Xc,↓reduceIte,Nat.reduceLT,Nat.reduceEqDiff,Nat.reduceBEq,Nat.reduceLeDiff,Nat.reduceAdd,Nat.reduceMul]
  refine alloc_i fun p hp => ?_
  by_cases hz : x = 0
  · have h1 : (digs 65536 x.natAbs).length = 0 := by rw [h0]; omega
    simp (disch := first|exact Xe|fail) only [rs119, h1, ↓Xa,Xb,Xc,↓reduceIte,Nat.reduceLT,Nat.reduceEqDiff,Nat.reduceBEq,Nat.reduceLeDiff,Nat.reduceAdd,Nat.reduceMul]
    refine SetR.dropTo ((Le.refl H).upd hp) (SetR.now ?_)
    simpa [sgnI, hz] using hq
  · have h1 : ((digs 65536 x.natAbs).length = 0) = False := by rw [h0]; simp; omega
    by_cases hn : x < 0
    · simp (disch := first|exact Xe|fail) only [rs119, h1, hn, ↓Xa,Xb,Xc,↓reduceIte,Nat.reduceLT,Nat.reduceEqDiff,Nat.reduceBEq,Nat.reduceLeDiff,Nat.reduceAdd,Nat.reduceMul]
      refine SetR.dropTo ((Le.refl H).upd hp) (SetR.now ?_)
      simpa [sgnI, hz, hn] using hq
    · simp (disch := first|exact Xe|fail) only [rs119, h1, hn, ↓Xa,Xb,Xc,↓reduceIte,Nat.reduceLT,Nat.reduceEqDiff,Nat.reduceBEq,Nat.reduceLeDiff,Nat.reduceAdd,Nat.reduceMul]
      refine SetR.dropTo ((Le.refl H).upd hp) (SetR.now ?_)
      simpa [sgnI, hz, hn] using hq

theorem size_fn (m n : Nat) (ta tb : Bool) (hm : (digs 65536 m).length ≤ 1099511627776) (hn : (digs 65536 n).length ≤ 1099511627776) : PFn Tryd.prog 194 [LS (digs 65536 m) ta, LS (digs 65536 n) tb] (.int .i64 (cmpZ m n)) := by
  intro H Q hq
  have hx := lim_digs (B := 65536) (by omega) m
  have hy := lim_digs (B := 65536) (by omega) n
  have vx := val_digs (B := 65536) (by omega) m
  have vy := val_digs (B := 65536) (by omega) n
  have lt1 := digs_lt_len (B := 65536) (a := m) (b := n) (by omega)
  have lt2 := digs_lt_len (B := 65536) (a := n) (b := m) (by omega)
  generalize digs 65536 m = x at *
  generalize digs 65536 n = y at *
  have less : m < n → SetR Q (.int .i64 (-1)) H := fun h => by
    have : cmpZ m n = -1 := by simp [cmpZ, h]
    rw [← this]; exact SetR.now hq
  have more : n < m → SetR Q (.int .i64 ((1 : Nat) : Int)) H := fun h => by
    have : cmpZ m n = ((1 : Nat) : Int) := by simp [cmpZ, h, Nat.not_lt_of_lt h]
    rw [← this]; exact SetR.now hq
  refine enter194 (by simp) ?_
  by_cases c0 : x.length = y.length
  · simp (disch := first|exact Xe|fail) only [ac194, c0, ↓Xa,Xb,Xc,↓reduceIte,Nat.reduceLT,Nat.reduceEqDiff,Nat.reduceBEq,Nat.reduceLeDiff,Nat.reduceAdd,Nat.reduceMul]
    refine W_loop (fun k : Nat => ⟨[], [(0, LS x ta), (1, LS y tb), (5, .int .i64 (dn k))], H⟩) (fun k => k ≤ x.length ∧ x.drop k = y.drop k) id y.length (Settle.now rfl) ⟨by omega, by rw [List.drop_of_length_le (by omega), List.drop_of_length_le (by omega)]⟩ ?_
    rintro k ⟨hk, hd⟩
    cases k with
    | zero =>
      simp (disch := first|exact Xe|fail) only [↓Xa,Xb,Xc,↓reduceIte,Nat.reduceLT,Nat.reduceEqDiff,Nat.reduceBEq,Nat.reduceLeDiff,Nat.reduceAdd,Nat.reduceMul]
      refine Settle.now ?_
      simp (disch := first|exact Xe|fail) only [rs194, ↓Xa,Xb,Xc,↓reduceIte,Nat.reduceLT,Nat.reduceEqDiff,Nat.reduceBEq,Nat.reduceLeDiff,Nat.reduceAdd,Nat.reduceMul]
      have e : m = n := by rw [← vx, ← vy]; rw [List.drop_zero, List.drop_zero] at hd; rw [hd]
      have : cmpZ m n = ((0 : Nat) : Int) := by simp [cmpZ, e]
      rw [← this]; exact SetR.now hq
    | succ k =>
      by_cases d1 : x.getD k 0 < y.getD k 0
      · simp (disch := first|exact Xe|fail) only [d1, rs194, ↓Xa,Xb,Xc,↓reduceIte,Nat.reduceLT,Nat.reduceEqDiff,Nat.reduceBEq,Nat.reduceLeDiff,Nat.reduceAdd,Nat.reduceMul]
        exact less (by rw [← vx, ← vy]; exact val_lt_high hx (by omega) k (by omega) c0 hd d1)
      by_cases d2 : y.getD k 0 < x.getD k 0
      · simp (disch := first|exact Xe|fail) only [d1, d2, rs194, ↓Xa,Xb,Xc,↓reduceIte,Nat.reduceLT,Nat.reduceEqDiff,Nat.reduceBEq,Nat.reduceLeDiff,Nat.reduceAdd,Nat.reduceMul]
        exact more (by rw [← vx, ← vy]; exact val_lt_high hy (by omega) k (by omega) c0.symm hd.symm d2)
      simp (disch := first|exact Xe|fail) only [d1, d2, ↓Xa,Xb,Xc,↓reduceIte,Nat.reduceLT,Nat.reduceEqDiff,Nat.reduceBEq,Nat.reduceLeDiff,Nat.reduceAdd,Nat.reduceMul]
      refine Settle.now ⟨k, Nat.lt_succ_self k, ⟨by omega, ?_⟩, rfl⟩
      rw [List.drop_eq_getElem_cons (by omega), List.drop_eq_getElem_cons (i := k) (l := y) (by omega), hd]
      congr 1
      have e1 : x.getD k 0 = x[k] := by simp [List.getD_eq_getElem?_getD, List.getElem?_eq_getElem (show k < x.length by omega)]
      have e2 : y.getD k 0 = y[k] := by simp [List.getD_eq_getElem?_getD, List.getElem?_eq_getElem (show k < y.length by omega)]
      omega
  · by_cases c1 : x.length < y.length
    · simp (disch := first|exact Xe|fail) only [ac194, c0, c1, rs194, ↓Xa,Xb,Xc,↓reduceIte,Nat.reduceLT,Nat.reduceEqDiff,Nat.reduceBEq,Nat.reduceLeDiff,Nat.reduceAdd,Nat.reduceMul]
      exact less (lt1 c1)
    · simp (disch := first|exact Xe|fail) only [ac194, c0, c1, rs194, ↓Xa,Xb,Xc,↓reduceIte,Nat.reduceLT,Nat.reduceEqDiff,Nat.reduceBEq,Nat.reduceLeDiff,Nat.reduceAdd,Nat.reduceMul]
      exact more (lt2 (by omega))

theorem rneg_fn {x : Int} {k : Nat} (t : Bool) (hx : Bd k x) (hk : k ≤ 549755813888) : PFn Tryd.prog 183 [RefA x t] (RefA (-x) false) := by
  intro H Q hq
  have hl := hx.rlen
  have e : -x = sg (!decide (x < 0)) (val 65536 (digs 65536 x.natAbs)) := by rw [val_digs (by omega)]; unfold sg; by_cases h : x < 0 <;> simp [h] <;> omega
  rw [e] at hq
  refine enter183 (by simp) ?_
  simp (disch := first|exact Xe|fail) only [ac183, RefA, ↓Xa,Xb,Xc,↓reduceIte,Nat.reduceLT,Nat.reduceEqDiff,Nat.reduceBEq,Nat.reduceLeDiff,Nat.reduceAdd,Nat.reduceMul]
  refine alloc_i fun p hp => ?_
  simp (disch := first|exact Xe|fail) only [↓Xa,Xb,Xc,↓reduceIte,Nat.reduceLT,Nat.reduceEqDiff,Nat.reduceBEq,Nat.reduceLeDiff,Nat.reduceAdd,Nat.reduceMul]
  refine alloc_i fun p2 hp2 => ?_
  have hne := (upd_none.1 hp2).1
  simp (disch := first|exact Xe|fail) only [↓Xa,Xb,Xc,↓reduceIte,Nat.reduceLT,Nat.reduceEqDiff,Nat.reduceBEq,Nat.reduceLeDiff,Nat.reduceAdd,Nat.reduceMul]
  refine (rnorm_fn _ t (lim_digs (by omega) _) (by omega)).call ?_
  simp (disch := first|exact Xe|fail) only [rs183, RefA, ↓Xa,Xb,Xc,↓reduceIte,Nat.reduceLT,Nat.reduceEqDiff,Nat.reduceBEq,Nat.reduceLeDiff,Nat.reduceAdd,Nat.reduceMul]
  exact SetR.dropTo (((Le.refl H).upd hp).upd hp2) (SetR.now hq)

theorem rabs_fn {x : Int} {k : Nat} (t : Bool) (hx : Bd k x) (hk : k ≤ 549755813888) : PFn Tryd.prog 150 [RefA x t] (RefA (x.natAbs : Int) false) := by
  intro H Q hq
  have hl := hx.rlen
  have e : (x.natAbs : Int) = sg false (val 65536 (digs 65536 x.natAbs)) := by rw [val_digs (by omega)]; simp [sg]
  rw [e] at hq
  refine enter150 (by simp) ?_
  simp (disch := first|exact Xe|fail) only [ac150, RefA, ↓Xa,Xb,Xc,↓reduceIte,Nat.reduceLT,Nat.reduceEqDiff,Nat.reduceBEq,Nat.reduceLeDiff,Nat.reduceAdd,Nat.reduceMul]
  refine alloc_i fun p hp => ?_
  simp (disch := first|exact Xe|fail) only [↓Xa,Xb,Xc,↓reduceIte,Nat.reduceLT,Nat.reduceEqDiff,Nat.reduceBEq,Nat.reduceLeDiff,Nat.reduceAdd,Nat.reduceMul]
  refine alloc_i fun p2 hp2 => ?_
  have hne := (upd_none.1 hp2).1
  simp (disch := first|exact Xe|fail) only [↓Xa,Xb,Xc,↓reduceIte,Nat.reduceLT,Nat.reduceEqDiff,Nat.reduceBEq,Nat.reduceLeDiff,Nat.reduceAdd,Nat.reduceMul]
  refine (rnorm_fn false t (lim_digs (by omega) _) (by omega)).call ?_
  simp (disch := first|exact Xe|fail) only [rs150, RefA, ↓Xa,Xb,Xc,↓reduceIte,Nat.reduceLT,Nat.reduceEqDiff,Nat.reduceBEq,Nat.reduceLeDiff,Nat.reduceAdd,Nat.reduceMul]
  exact SetR.dropTo (((Le.refl H).upd hp).upd hp2) (SetR.now hq)
end Go.Proofs.YtanchgkiomfhhaaDoor.Fw

/- What the reference computes of whole numbers: sums, differences, products. -/
namespace Go.Proofs.YtanchgkiomfhhaaDoor.Fw
set_option linter.unusedSimpArgs false
set_option linter.unusedVariables false
open Go Go.Proofs.YtanchgkiomfhhaaDoor.Ma
set_option maxRecDepth 20000

theorem plus_fn (m n : Nat) (ta tb : Bool) (hm : (digs 65536 m).length ≤ 1099511627776) (hn : (digs 65536 n).length ≤ 1099511627776) : PFn Tryd.prog 196 [LS (digs 65536 m) ta, LS (digs 65536 n) tb] (LS (digs 65536 (m + n)) false) := by
  intro H Q hq
  have la := lim_digs (B := 65536) (by omega) m
  have lb := lim_digs (B := 65536) (by omega) n
  refine enter196 (by simp) ?_
  simp (disch := first|exact Xe|fail) only [ac196, ↓Xa,Xb,Xc,↓reduceIte,Nat.reduceLT,Nat.reduceEqDiff,Nat.reduceBEq,Nat.reduceLeDiff,Nat.reduceAdd,Nat.reduceMul]
  refine W_loop (fun s : Nat × Nat × List Nat × AV × AHeap => ⟨[], [(0, LS (digs 65536 m) ta), (1, LS (digs 65536 n) tb), (5, s.2.2.2.1), (6, .int .u32 s.2.1), (7, .int .i64 s.1)], s.2.2.2.2⟩)
    (fun s => s.1 ≤ max (digs 65536 m).length (digs 65536 n).length + 1 ∧ (s.1 = max (digs 65536 m).length (digs 65536 n).length + 1 → s.2.1 = 0) ∧ grow H 172 s.2.2.1 s.2.2.2.1 s.2.2.2.2 ∧ PlusI (digs 65536 m) (digs 65536 n) s.1 s.2.1 s.2.2.1) (fun s => max (digs 65536 m).length (digs 65536 n).length + 1 - s.1)
    (0, 0, [], _, _) (Settle.now rfl) ⟨by dsimp only; omega, fun _ => rfl, grow_nil, PlusI.zero _ _⟩ ?_
  rintro ⟨i, c, done, x, H'⟩ ⟨g0, g1, hg, h1⟩
  dsimp only at g0 g1 hg h1 ⊢
  have hd := h1.1
  have hc := h1.2.2.1
  have hx := la.getD (by omega) i
  have hy := lb.getD (by omega) i
  have nx : ∀ s, s = c + (digs 65536 m).getD i 0 + (digs 65536 n).getD i 0 → max (digs 65536 m).length (digs 65536 n).length ≤ i → s / 65536 = 0 := by
    intro s hs hi
    have a := getD_beyond (show (digs 65536 m).length ≤ i by omega)
    have b := getD_beyond (show (digs 65536 n).length ≤ i by omega)
    rw [hs, a, b]; omega
  by_cases hi : i < (digs 65536 m).length
  · by_cases hj : i < (digs 65536 n).length
    · simp (disch := first|exact Xe|fail) only [hi, hj, ne_eq,Nat.reduceEqDiff, ↓Xa,Xb,Xc,↓reduceIte,Nat.reduceLT,Nat.reduceEqDiff,Nat.reduceBEq,Nat.reduceLeDiff,Nat.reduceAdd,Nat.reduceMul]
      refine app_grow (m := [(c + (digs 65536 m).getD i 0 + (digs 65536 n).getD i 0) % 65536]) hg rfl (by simp) (by simp; omega) fun x' H2 hg2 => ?_
      simp (disch := first|exact Xe|fail) only [ne_eq,Nat.reduceEqDiff, ↓Xa,Xb,Xc,↓reduceIte,Nat.reduceLT,Nat.reduceEqDiff,Nat.reduceBEq,Nat.reduceLeDiff,Nat.reduceAdd,Nat.reduceMul]
      refine Settle.now ⟨(i + 1, _, _, _, _), by dsimp only; omega, ⟨by dsimp only; omega, fun e => nx _ rfl (by dsimp only at e; omega), hg2, h1.step (.inl hi) rfl⟩, rfl⟩
    · have b := getD_beyond (show (digs 65536 n).length ≤ i by omega)
      simp (disch := first|exact Xe|fail) only [hi, hj, ne_eq,Nat.reduceEqDiff, ↓Xa,Xb,Xc,↓reduceIte,Nat.reduceLT,Nat.reduceEqDiff,Nat.reduceBEq,Nat.reduceLeDiff,Nat.reduceAdd,Nat.reduceMul]
      refine app_grow (m := [(c + (digs 65536 m).getD i 0) % 65536]) hg rfl (by simp) (by simp; omega) fun x' H2 hg2 => ?_
      simp (disch := first|exact Xe|fail) only [ne_eq,Nat.reduceEqDiff, ↓Xa,Xb,Xc,↓reduceIte,Nat.reduceLT,Nat.reduceEqDiff,Nat.reduceBEq,Nat.reduceLeDiff,Nat.reduceAdd,Nat.reduceMul]
      refine Settle.now ⟨(i + 1, _, _, _, _), by dsimp only; omega, ⟨by dsimp only; omega, fun e => nx _ (by rw [b]; rfl) (by dsimp only at e; omega), hg2, h1.step (.inl hi) (by rw [b]; rfl)⟩, rfl⟩
  · have a := getD_beyond (show (digs 65536 m).length ≤ i by omega)
    by_cases hj : i < (digs 65536 n).length
    · simp (disch := first|exact Xe|fail) only [hi, hj, ne_eq,Nat.reduceEqDiff, ↓Xa,Xb,Xc,↓reduceIte,Nat.reduceLT,Nat.reduceEqDiff,Nat.reduceBEq,Nat.reduceLeDiff,Nat.reduceAdd,Nat.reduceMul]
      refine app_grow (m := [(c + (digs 65536 n).getD i 0) % 65536]) hg rfl (by simp) (by simp; omega) fun x' H2 hg2 => ?_
      simp (disch := first|exact Xe|fail) only [ne_eq,Nat.reduceEqDiff, ↓Xa,Xb,Xc,↓reduceIte,Nat.reduceLT,Nat.reduceEqDiff,Nat.reduceBEq,Nat.reduceLeDiff,Nat.reduceAdd,Nat.reduceMul]
      refine Settle.now ⟨(i + 1, _, _, _, _), by dsimp only; omega, ⟨by dsimp only; omega, fun e => nx _ (by rw [a]; rfl) (by dsimp only at e; omega), hg2, h1.step (.inr (.inl hj)) (by rw [a]; rfl)⟩, rfl⟩
    · have b := getD_beyond (show (digs 65536 n).length ≤ i by omega)
      by_cases h0 : 0 < c
      · simp (disch := first|exact Xe|fail) only [hi, hj, h0, ne_eq,Nat.reduceEqDiff, ↓Xa,Xb,Xc,↓reduceIte,Nat.reduceLT,Nat.reduceEqDiff,Nat.reduceBEq,Nat.reduceLeDiff,Nat.reduceAdd,Nat.reduceMul]
        refine app_grow (m := [c % 65536]) hg rfl (by simp) (by simp; omega) fun x' H2 hg2 => ?_
        simp (disch := first|exact Xe|fail) only [ne_eq,Nat.reduceEqDiff, ↓Xa,Xb,Xc,↓reduceIte,Nat.reduceLT,Nat.reduceEqDiff,Nat.reduceBEq,Nat.reduceLeDiff,Nat.reduceAdd,Nat.reduceMul]
        have : i ≠ max (digs 65536 m).length (digs 65536 n).length + 1 := fun e => by have := g1 e; omega
        refine Settle.now ⟨(i + 1, _, _, _, _), by dsimp only; omega, ⟨by dsimp only; omega, fun e => nx _ (by rw [a, b]; rfl) (by dsimp only at e; omega), hg2, h1.step (.inr (.inr h0)) (by rw [a, b]; rfl)⟩, rfl⟩
      · obtain rfl : c = 0 := by omega
        simp (disch := first|exact Xe|fail) only [hi, hj, h0, ↓Xa,Xb,Xc,↓reduceIte,Nat.reduceLT,Nat.reduceEqDiff,Nat.reduceBEq,Nat.reduceLeDiff,Nat.reduceAdd,Nat.reduceMul]
        refine Settle.grown 5 rfl hg (Settle.now ?_)
        simp (disch := first|exact Xe|fail) only [rs196, ↓Xa,Xb,Xc,↓reduceIte,Nat.reduceLT,Nat.reduceEqDiff,Nat.reduceBEq,Nat.reduceLeDiff,Nat.reduceAdd,Nat.reduceMul]
        rw [h1.end (by omega) (by omega)]
        exact SetR.now hq

theorem minus_fn (m n : Nat) (ta tb : Bool) (hmn : n ≤ m) (hm : (digs 65536 m).length ≤ 1099511627776) : PFn Tryd.prog 195 [LS (digs 65536 m) ta, LS (digs 65536 n) tb] (LS (pad 65536 (m - n) (digs 65536 m).length) false) := by
  intro H Q hq
  have la := lim_digs (B := 65536) (by omega) m
  have lb := lim_digs (B := 65536) (by omega) n
  have va := val_digs (B := 65536) (by omega) m
  have vb := val_digs (B := 65536) (by omega) n
  have hlb : (digs 65536 n).length ≤ (digs 65536 m).length := by
    rcases Nat.lt_or_ge (digs 65536 m).length (digs 65536 n).length with h | h
    · have := digs_lt_len (by omega) h; omega
    · exact h
  refine enter195 (by simp) ?_
  simp (disch := first|exact Xe|fail) only [ac195, ↓Xa,Xb,Xc,↓reduceIte,Nat.reduceLT,Nat.reduceEqDiff,Nat.reduceBEq,Nat.reduceLeDiff,Nat.reduceAdd,Nat.reduceMul]
  refine W_loop (fun s : Nat × Nat × List Nat × AV × AHeap => ⟨[], [(0, LS (digs 65536 m) ta), (1, LS (digs 65536 n) tb), (5, s.2.2.2.1), (6, .int .u32 s.2.1), (7, .int .i64 s.1)], s.2.2.2.2⟩)
    (fun s => s.1 ≤ (digs 65536 m).length ∧ grow H 172 s.2.2.1 s.2.2.2.1 s.2.2.2.2 ∧ MinI (digs 65536 m) (digs 65536 n) s.1 s.2.1 s.2.2.1) (fun s => (digs 65536 m).length - s.1)
    (0, 0, [], _, _) (Settle.now rfl) ⟨by simp, grow_nil, MinI.zero _ _⟩ ?_
  rintro ⟨i, c, done, x, H'⟩ ⟨g0, hg, h1⟩
  dsimp only at g0 hg h1 ⊢
  have hd := h1.1
  have hc := h1.2.2.1
  have hx := la.getD (by omega) i
  have hy := lb.getD (by omega) i
  by_cases hi : i < (digs 65536 m).length
  · by_cases hj : i < (digs 65536 n).length
    · by_cases hv : (digs 65536 m).getD i 0 < c + (digs 65536 n).getD i 0
      · simp (disch := first|exact Xe|fail) only [hi, hj, hv, ↓Xa,Xb,Xc,↓reduceIte,Nat.reduceLT,Nat.reduceEqDiff,Nat.reduceBEq,Nat.reduceLeDiff,Nat.reduceAdd,Nat.reduceMul]
        refine app_grow (m := [(digs 65536 m).getD i 0 + 65536 - (c + (digs 65536 n).getD i 0)]) hg rfl (by simp) (by simp; omega) fun x' H2 hg2 => ?_
        simp (disch := first|exact Xe|fail) only [↓Xa,Xb,Xc,↓reduceIte,Nat.reduceLT,Nat.reduceEqDiff,Nat.reduceBEq,Nat.reduceLeDiff,Nat.reduceAdd,Nat.reduceMul]
        refine Settle.now ⟨(i + 1, 1, _, _, _), by dsimp only; omega, ⟨by dsimp only; omega, hg2, h1.step (c' := 1) (by omega) rfl (by omega) (by omega)⟩, rfl⟩
      · simp (disch := first|exact Xe|fail) only [hi, hj, hv, ↓Xa,Xb,Xc,↓reduceIte,Nat.reduceLT,Nat.reduceEqDiff,Nat.reduceBEq,Nat.reduceLeDiff,Nat.reduceAdd,Nat.reduceMul]
        refine app_grow (m := [(digs 65536 m).getD i 0 - (c + (digs 65536 n).getD i 0)]) hg rfl (by simp) (by simp; omega) fun x' H2 hg2 => ?_
        simp (disch := first|exact Xe|fail) only [↓Xa,Xb,Xc,↓reduceIte,Nat.reduceLT,Nat.reduceEqDiff,Nat.reduceBEq,Nat.reduceLeDiff,Nat.reduceAdd,Nat.reduceMul]
        refine Settle.now ⟨(i + 1, 0, _, _, _), by dsimp only; omega, ⟨by dsimp only; omega, hg2, h1.step (c' := 0) (by omega) rfl (by omega) (by omega)⟩, rfl⟩
    · have b := getD_beyond (show (digs 65536 n).length ≤ i by omega)
      by_cases hv : (digs 65536 m).getD i 0 < c
      · simp (disch := first|exact Xe|fail) only [hi, hj, hv, ↓Xa,Xb,Xc,↓reduceIte,Nat.reduceLT,Nat.reduceEqDiff,Nat.reduceBEq,Nat.reduceLeDiff,Nat.reduceAdd,Nat.reduceMul]
        refine app_grow (m := [(digs 65536 m).getD i 0 + 65536 - c]) hg rfl (by simp) (by simp; omega) fun x' H2 hg2 => ?_
        simp (disch := first|exact Xe|fail) only [↓Xa,Xb,Xc,↓reduceIte,Nat.reduceLT,Nat.reduceEqDiff,Nat.reduceBEq,Nat.reduceLeDiff,Nat.reduceAdd,Nat.reduceMul]
        refine Settle.now ⟨(i + 1, 1, _, _, _), by dsimp only; omega, ⟨by dsimp only; omega, hg2, h1.step (c' := 1) (by omega) rfl (by omega) (by omega)⟩, rfl⟩
      · simp (disch := first|exact Xe|fail) only [hi, hj, hv, ↓Xa,Xb,Xc,↓reduceIte,Nat.reduceLT,Nat.reduceEqDiff,Nat.reduceBEq,Nat.reduceLeDiff,Nat.reduceAdd,Nat.reduceMul]
        refine app_grow (m := [(digs 65536 m).getD i 0 - c]) hg rfl (by simp) (by simp; omega) fun x' H2 hg2 => ?_
        simp (disch := first|exact Xe|fail) only [↓Xa,Xb,Xc,↓reduceIte,Nat.reduceLT,Nat.reduceEqDiff,Nat.reduceBEq,Nat.reduceLeDiff,Nat.reduceAdd,Nat.reduceMul]
        refine Settle.now ⟨(i + 1, 0, _, _, _), by dsimp only; omega, ⟨by dsimp only; omega, hg2, h1.step (c' := 0) (by omega) rfl (by omega) (by omega)⟩, rfl⟩
  · obtain rfl : i = (digs 65536 m).length := by omega
    simp (disch := first|exact Xe|fail) only [hi, ↓Xa,Xb,Xc,↓reduceIte,Nat.reduceLT,Nat.reduceEqDiff,Nat.reduceBEq,Nat.reduceLeDiff,Nat.reduceAdd,Nat.reduceMul]
    refine Settle.grown 5 rfl hg (Settle.now ?_)
    simp (disch := first|exact Xe|fail) only [rs195, ↓Xa,Xb,Xc,↓reduceIte,Nat.reduceLT,Nat.reduceEqDiff,Nat.reduceBEq,Nat.reduceLeDiff,Nat.reduceAdd,Nat.reduceMul]
    have e := h1.end la hlb (by omega)
    rw [va, vb] at e
    rw [e]
    exact SetR.now hq

theorem raddi_fn {x y : Int} {k k' : Nat} (tx ty : Bool) (hx : Bd k x) (hk : k ≤ 274877906944) (hy : Bd k' y) (hk' : k' ≤ 274877906944) : PFn Tryd.prog 136 [RefA x tx, RefA y ty] (RefA (x + y) false) := by
  intro H Q hq
  have hl := hx.rlen
  have hl' := hy.rlen
  have hxm := hx.mono (Nat.le_max_left k k')
  have hym := hy.mono (Nat.le_max_right k k')
  refine enter136 (by simp) ?_
  simp (disch := first|exact Xe|fail) only [ac136, RefA, ↓Xa,Xb,Xc,↓reduceIte,Nat.reduceLT,Nat.reduceEqDiff,Nat.reduceBEq,Nat.reduceLeDiff,Nat.reduceAdd,Nat.reduceMul]
  refine alloc_i fun p hp => ?_
  simp (disch := first|exact Xe|fail) only [↓Xa,Xb,Xc,↓reduceIte,Nat.reduceLT,Nat.reduceEqDiff,Nat.reduceBEq,Nat.reduceLeDiff,Nat.reduceAdd,Nat.reduceMul]
  refine alloc_i fun p2 hp2 => ?_
  simp (disch := first|exact Xe|fail) only [↓Xa,Xb,Xc,↓reduceIte,Nat.reduceLT,Nat.reduceEqDiff,Nat.reduceBEq,Nat.reduceLeDiff,Nat.reduceAdd,Nat.reduceMul]
  refine alloc_i fun p3 hp3 => ?_
  have hne := (upd_none.1 hp2).1
  have hne3 := (upd_none.1 hp3).1
  have hne4 := (upd_none.1 (upd_none.1 hp3).2).1
  by_cases hs : decide (x < 0) = decide (y < 0)
  · have hsb : (decide (x < 0) == decide (y < 0)) = true := by rw [hs]; simp
    simp (disch := first|exact Xe|fail) only [hsb, ↓Xa,Xb,Xc,↓reduceIte,Nat.reduceLT,Nat.reduceEqDiff,Nat.reduceBEq,Nat.reduceLeDiff,Nat.reduceAdd,Nat.reduceMul]
    refine PFn.dcall (plus_fn _ _ tx ty (by omega) (by omega)) ?_
    simp (disch := first|exact Xe|fail) only [↓Xa,Xb,Xc,↓reduceIte,Nat.reduceLT,Nat.reduceEqDiff,Nat.reduceBEq,Nat.reduceLeDiff,Nat.reduceAdd,Nat.reduceMul]
    have hb : Bd (max k k' + 1) (sg (decide (x < 0)) (x.natAbs + y.natAbs)) := Bd.sgn (by unfold Bd at hxm hym; rw [Nat.pow_succ]; omega)
    have hb' := hb.rlen
    rw [sg_abs] at hb'
    refine (rnorm_fn _ false (lim_digs (by omega) _) (by omega)).call ?_
    rw [val_digs (by omega)]
    have e : x + y = sg (decide (x < 0)) (x.natAbs + y.natAbs) := by
      have := decide_eq_decide.1 hs
      unfold sg; by_cases h : x < 0 <;> simp [h] <;> omega
    rw [e] at hq
    simp (disch := first|exact Xe|fail) only [rs136, RefA, ↓Xa,Xb,Xc,↓reduceIte,Nat.reduceLT,Nat.reduceEqDiff,Nat.reduceBEq,Nat.reduceLeDiff,Nat.reduceAdd,Nat.reduceMul]
    exact SetR.dropTo ((((Le.refl H).upd hp).upd hp2).upd hp3) (SetR.now hq)
  · have hsb : (decide (x < 0) == decide (y < 0)) = false := by simpa using hs
    have hs' : ¬ ((x < 0) ↔ (y < 0)) := fun h => hs (decide_eq_decide.2 h)
    simp (disch := first|exact Xe|fail) only [hsb, ↓Xa,Xb,Xc,↓reduceIte,Nat.reduceLT,Nat.reduceEqDiff,Nat.reduceBEq,Nat.reduceLeDiff,Nat.reduceAdd,Nat.reduceMul]
    refine (size_fn _ _ tx ty (by omega) (by omega)).call ?_
    by_cases hc : x.natAbs < y.natAbs
    · have c3 : ∀ K, binW .geq (.int .i64 (cmpZ x.natAbs y.natAbs)) (.int .i64 ((0 : Nat) : Int)) K ↔ K (.bool false) := fun K => by
        simp [binW, binInt, cmpZ, hc]
      simp (disch := first|exact Xe|fail) only [c3, ↓Xa,Xb,Xc,↓reduceIte,Nat.reduceLT,Nat.reduceEqDiff,Nat.reduceBEq,Nat.reduceLeDiff,Nat.reduceAdd,Nat.reduceMul]
      refine PFn.dcall (minus_fn y.natAbs x.natAbs ty tx (by omega) (by omega)) ?_
      simp (disch := first|exact Xe|fail) only [↓Xa,Xb,Xc,↓reduceIte,Nat.reduceLT,Nat.reduceEqDiff,Nat.reduceBEq,Nat.reduceLeDiff,Nat.reduceAdd,Nat.reduceMul]
      have hle : (digs 65536 (y.natAbs - x.natAbs)).length ≤ (digs 65536 y.natAbs).length := digs_len (by omega) _ _ (by
        have := val_lt (lim_digs (B := 65536) (by omega) y.natAbs); rw [val_digs (by omega)] at this; omega)
      refine (rnorm_fn _ false (pad_lim (by omega)) (by rw [pad_len hle]; omega)).call ?_
      rw [pad_val (by omega)]
      have e : x + y = sg (decide (y < 0)) (y.natAbs - x.natAbs) := by
        unfold sg; by_cases h : y < 0 <;> simp [h] <;> omega
      rw [e] at hq
      simp (disch := first|exact Xe|fail) only [rs136, RefA, ↓Xa,Xb,Xc,↓reduceIte,Nat.reduceLT,Nat.reduceEqDiff,Nat.reduceBEq,Nat.reduceLeDiff,Nat.reduceAdd,Nat.reduceMul]
      exact SetR.dropTo ((((Le.refl H).upd hp).upd hp2).upd hp3) (SetR.now hq)
    · have c3 : ∀ K, binW .geq (.int .i64 (cmpZ x.natAbs y.natAbs)) (.int .i64 ((0 : Nat) : Int)) K ↔ K (.bool true) := fun K => by
        have : (0 : Int) ≤ cmpZ x.natAbs y.natAbs := by unfold cmpZ; rw [if_neg hc]; split <;> omega
        simp [binW, binInt]; rw [decide_eq_true this]
      simp (disch := first|exact Xe|fail) only [c3, ↓Xa,Xb,Xc,↓reduceIte,Nat.reduceLT,Nat.reduceEqDiff,Nat.reduceBEq,Nat.reduceLeDiff,Nat.reduceAdd,Nat.reduceMul]
      refine PFn.dcall (minus_fn x.natAbs y.natAbs tx ty (by omega) (by omega)) ?_
      simp (disch := first|exact Xe|fail) only [↓Xa,Xb,Xc,↓reduceIte,Nat.reduceLT,Nat.reduceEqDiff,Nat.reduceBEq,Nat.reduceLeDiff,Nat.reduceAdd,Nat.reduceMul]
      have hle : (digs 65536 (x.natAbs - y.natAbs)).length ≤ (digs 65536 x.natAbs).length := digs_len (by omega) _ _ (by
        have := val_lt (lim_digs (B := 65536) (by omega) x.natAbs); rw [val_digs (by omega)] at this; omega)
      refine (rnorm_fn _ false (pad_lim (by omega)) (by rw [pad_len hle]; omega)).call ?_
      rw [pad_val (by omega)]
      have e : x + y = sg (decide (x < 0)) (x.natAbs - y.natAbs) := by
        unfold sg; by_cases h : x < 0 <;> simp [h] <;> omega
      rw [e] at hq
      simp (disch := first|exact Xe|fail) only [rs136, RefA, ↓Xa,Xb,Xc,↓reduceIte,Nat.reduceLT,Nat.reduceEqDiff,Nat.reduceBEq,Nat.reduceLeDiff,Nat.reduceAdd,Nat.reduceMul]
      exact SetR.dropTo ((((Le.refl H).upd hp).upd hp2).upd hp3) (SetR.now hq)

theorem rsubi_fn {x y : Int} {k k' : Nat} (tx ty : Bool) (hx : Bd k x) (hk : k ≤ 274877906944) (hy : Bd k' y) (hk' : k' ≤ 274877906944) : PFn Tryd.prog 159 [RefA x tx, RefA y ty] (RefA (x - y) false) := by
  intro H Q hq
  refine enter159 (by simp) ?_
  simp (disch := first|exact Xe|fail) only [ac159, RefA, ↓Xa,Xb,Xc,↓reduceIte,Nat.reduceLT,Nat.reduceEqDiff,Nat.reduceBEq,Nat.reduceLeDiff,Nat.reduceAdd,Nat.reduceMul]
  refine alloc_i fun p hp => ?_
  simp (disch := first|exact Xe|fail) only [↓Xa,Xb,Xc,↓reduceIte,Nat.reduceLT,Nat.reduceEqDiff,Nat.reduceBEq,Nat.reduceLeDiff,Nat.reduceAdd,Nat.reduceMul]
  refine alloc_i fun p2 hp2 => ?_
  simp (disch := first|exact Xe|fail) only [↓Xa,Xb,Xc,↓reduceIte,Nat.reduceLT,Nat.reduceEqDiff,Nat.reduceBEq,Nat.reduceLeDiff,Nat.reduceAdd,Nat.reduceMul]
  refine alloc_i fun p3 hp3 => ?_
  have hne := (upd_none.1 hp2).1
  have hne3 := (upd_none.1 hp3).1
  have hne4 := (upd_none.1 (upd_none.1 hp3).2).1
  simp (disch := first|exact Xe|fail) only [↓Xa,Xb,Xc,↓reduceIte,Nat.reduceLT,Nat.reduceEqDiff,Nat.reduceBEq,Nat.reduceLeDiff,Nat.reduceAdd,Nat.reduceMul]
  refine PFn.dcall (rneg_fn ty hy (by omega)) ?_
  simp (disch := first|exact Xe|fail) only [↓Xa,Xb,Xc,↓reduceIte,Nat.reduceLT,Nat.reduceEqDiff,Nat.reduceBEq,Nat.reduceLeDiff,Nat.reduceAdd,Nat.reduceMul]
  refine (raddi_fn tx false hx hk hy.neg hk').call ?_
  simp (disch := first|exact Xe|fail) only [rs159, RefA, ↓Xa,Xb,Xc,↓reduceIte,Nat.reduceLT,Nat.reduceEqDiff,Nat.reduceBEq,Nat.reduceLeDiff,Nat.reduceAdd,Nat.reduceMul]
  exact SetR.dropTo ((((Le.refl H).upd hp).upd hp2).upd hp3) (SetR.now hq)

theorem rmuli_fn {x y : Int} {k k' : Nat} (tx ty : Bool) (hx : Bd k x) (hk : k ≤ 274877906944) (hy : Bd k' y) (hk' : k' ≤ 274877906944) : PFn Tryd.prog 134 [RefA x tx, RefA y ty] (RefA (x * y) false) := by
  intro H Q hq
  have hl := hx.rlen
  have hl' := hy.rlen
  have vx0 := val_digs (B := 65536) (by omega) x.natAbs
  have vy0 := val_digs (B := 65536) (by omega) y.natAbs
  have lx := lim_digs (B := 65536) (by omega) x.natAbs
  have ly := lim_digs (B := 65536) (by omega) y.natAbs
  refine enter134 (by simp) ?_
  simp (disch := first|exact Xe|fail) only [ac134, RefA, ↓Xa,Xb,Xc,↓reduceIte,Nat.reduceLT,Nat.reduceEqDiff,Nat.reduceBEq,Nat.reduceLeDiff,Nat.reduceAdd,Nat.reduceMul]
  refine alloc_i fun p hp => ?_
  simp (disch := first|exact Xe|fail) only [↓Xa,Xb,Xc,↓reduceIte,Nat.reduceLT,Nat.reduceEqDiff,Nat.reduceBEq,Nat.reduceLeDiff,Nat.reduceAdd,Nat.reduceMul]
  refine alloc_i fun p2 hp2 => ?_
  simp (disch := first|exact Xe|fail) only [↓Xa,Xb,Xc,↓reduceIte,Nat.reduceLT,Nat.reduceEqDiff,Nat.reduceBEq,Nat.reduceLeDiff,Nat.reduceAdd,Nat.reduceMul]
  refine alloc_i fun p3 hp3 => ?_
  have hne := (upd_none.1 hp2).1
  have hne3 := (upd_none.1 hp3).1
  have hne4 := (upd_none.1 (upd_none.1 hp3).2).1
  simp (disch := first|exact Xe|fail) only [↓Xa,Xb,Xc,↓reduceIte,Nat.reduceLT,Nat.reduceEqDiff,Nat.reduceBEq,Nat.reduceLeDiff,Nat.reduceAdd,Nat.reduceMul]
  refine newU_i fun o ho => ?_
  have n1 := (upd_none.1 ho).1
  have n2 := (upd_none.1 (upd_none.1 ho).2).1
  have n3 := (upd_none.1 (upd_none.1 (upd_none.1 ho).2).2).1
  simp (disch := first|exact Xe|fail) only [↓Xa,Xb,Xc,↓reduceIte,Nat.reduceLT,Nat.reduceEqDiff,Nat.reduceBEq,Nat.reduceLeDiff,Nat.reduceAdd,Nat.reduceMul]
  generalize hX : digs 65536 x.natAbs = X at *
  generalize hY : digs 65536 y.natAbs = Y at *
  refine W_loop (fun s : Nat × List Nat => ⟨[], [(2, .ptr p 2 0), (3, .ptr p2 2 0), (4, .ptr p3 2 0), (5, .own o (X.length + Y.length + 1) 0 (X.length + Y.length + 1) true), (6, .int .i64 s.1)],
      (((H.upd p (some (.row 39 0 [.bool (decide (x < 0)), LS X tx]))).upd p2 (some (.row 39 0 [.bool (decide (y < 0)), LS Y ty]))).upd p3 (some (.row 39 0 [.bool false, .seq 0 [] true]))).upd o (some (.row 172 1 (U s.2)))⟩)
    (fun s => s.1 ≤ X.length ∧ MulJ X Y s.1 s.2) (fun s => X.length - s.1) (0, List.replicate (X.length + Y.length + 1) 0) (Settle.now rfl) ⟨by simp, MulJ.zero X Y⟩ ?_
  rintro ⟨i, out⟩ ⟨h1, h2⟩
  dsimp only at h1 h2 ⊢
  have hol := h2.1
  by_cases hi : i < X.length
  · simp (disch := first|exact Xe|fail) only [hi, ↓Xa,Xb,Xc,↓reduceIte,Nat.reduceLT,Nat.reduceEqDiff,Nat.reduceBEq,Nat.reduceLeDiff,Nat.reduceAdd,Nat.reduceMul]
    refine W_loop (fun s : Nat × Nat × List Nat => ⟨[], [(2, .ptr p 2 0), (3, .ptr p2 2 0), (4, .ptr p3 2 0), (5, .own o (X.length + Y.length + 1) 0 (X.length + Y.length + 1) true), (6, .int .i64 i), (7, .int .u64 s.2.1), (8, .int .i64 s.1)],
      (((H.upd p (some (.row 39 0 [.bool (decide (x < 0)), LS X tx]))).upd p2 (some (.row 39 0 [.bool (decide (y < 0)), LS Y ty]))).upd p3 (some (.row 39 0 [.bool false, .seq 0 [] true]))).upd o (some (.row 172 1 (U s.2.2)))⟩)
      (fun s => (s.1 ≤ Y.length ∧ MulH X Y i s.1 s.2.1 s.2.2) ∨ (s.1 = Y.length + 1 ∧ s.2.1 = 0 ∧ MulJ X Y (i + 1) s.2.2)) (fun s => Y.length + 1 - s.1) (0, 0, out) (Settle.now rfl) (.inl ⟨by simp, MulH.start h2⟩) ?_
    rintro ⟨j, c, out⟩ hinv
    dsimp only at hinv ⊢
    have fin : c = 0 → Y.length ≤ j → MulJ X Y (i + 1) out := by
      intro hc hj
      rcases hinv with ⟨g1, g2⟩ | ⟨g1, g2, g3⟩
      · obtain rfl : j = Y.length := by omega
        subst hc
        have := g2.end hi
        have e : out.set (i + Y.length) 0 = out := by
          have hz := g2.2.2.2.2 (i + Y.length) (Nat.le_refl _)
          have hlt : i + Y.length < out.length := by rw [g2.1]; omega
          rw [List.getD_eq_getElem?_getD, List.getElem?_eq_getElem hlt, Option.getD_some] at hz
          rw [← hz]; exact List.set_getElem_self hlt
        rwa [e] at this
      · exact g3
    by_cases hj : j < Y.length
    · rcases hinv with ⟨g1, g2⟩ | ⟨g1, g2, g3⟩
      · have gol := g2.1
        have gc := g2.2.2.1
        have ax := lx.getD (by omega) i
        have ay := ly.getD (by omega) j
        have ao := g2.2.1.getD (by omega) (i + j)
        have hm : X.getD i 0 * Y.getD j 0 ≤ 65535 * 65535 := Nat.mul_le_mul (by omega) (by omega)
        have es : c + out.getD (i + j) 0 + X.getD i 0 * Y.getD j 0 = c + (X.getD i 0 * Y.getD j 0 + out.getD (i + j) 0) := by omega
        have em : ((c + (X.getD i 0 * Y.getD j 0 + out.getD (i + j) 0)) % 65536) < 4294967296 := by omega
        simp (disch := first|exact Xe|fail) only [hj, es, ne_eq,Nat.reduceEqDiff, ↓Xa,Xb,Xc,↓reduceIte,Nat.reduceLT,Nat.reduceEqDiff,Nat.reduceBEq,Nat.reduceLeDiff,Nat.reduceAdd,Nat.reduceMul]
        refine Settle.now ⟨(j + 1, _, _), by dsimp only; omega, .inl ⟨by dsimp only; omega, g2.step hi hj lx ly rfl⟩, rfl⟩
      · omega
    · by_cases hc : 0 < c
      · rcases hinv with ⟨g1, g2⟩ | ⟨g1, g2, g3⟩
        · obtain rfl : j = Y.length := by omega
          have gol := g2.1
          have gc := g2.2.2.1
          have ao := g2.2.2.2.2 (i + Y.length) (Nat.le_refl _)
          have em : c % 65536 = c := by omega
          have ed : c / 65536 = 0 := by omega
          simp (disch := first|exact Xe|fail) only [hj, hc, ao, em, ed, ne_eq,Nat.reduceEqDiff, ↓Xa,Xb,Xc,↓reduceIte,Nat.reduceLT,Nat.reduceEqDiff,Nat.reduceBEq,Nat.reduceLeDiff,Nat.reduceAdd,Nat.reduceMul]
          refine Settle.now ⟨(Y.length + 1, 0, _), by dsimp only; omega, .inr ⟨rfl, rfl, g2.end hi⟩, rfl⟩
        · omega
      · obtain rfl : c = 0 := by omega
        simp (disch := first|exact Xe|fail) only [hj, hc, ↓Xa,Xb,Xc,↓reduceIte,Nat.reduceLT,Nat.reduceEqDiff,Nat.reduceBEq,Nat.reduceLeDiff,Nat.reduceAdd,Nat.reduceMul]
        refine Settle.now ?_
        simp (disch := first|exact Xe|fail) only [↓Xa,Xb,Xc,↓reduceIte,Nat.reduceLT,Nat.reduceEqDiff,Nat.reduceBEq,Nat.reduceLeDiff,Nat.reduceAdd,Nat.reduceMul]
        exact Settle.now ⟨(i + 1, out), by dsimp only; omega, ⟨by dsimp only; omega, fin rfl (by omega)⟩, rfl⟩
  · obtain rfl : i = X.length := by omega
    simp (disch := first|exact Xe|fail) only [hi, ↓Xa,Xb,Xc,↓reduceIte,Nat.reduceLT,Nat.reduceEqDiff,Nat.reduceBEq,Nat.reduceLeDiff,Nat.reduceAdd,Nat.reduceMul]
    refine Settle.freeze 5 rfl (upd_same _ _ _) (by simp [hol]) (.inr (by simp)) ?_
    have e1 : AV.seq (X.length + Y.length + 1) (((U out).drop 0).take ((X.length + Y.length + 1) * 1)) true = LS out true := by
      rw [List.drop_zero, Nat.mul_one, ← hol, List.take_of_length_le (by simp)]; rfl
    rw [e1, upd_upd, upd_back _ ho]
    refine Settle.now ?_
    simp (disch := first|exact Xe|fail) only [↓Xa,Xb,Xc,↓reduceIte,Nat.reduceLT,Nat.reduceEqDiff,Nat.reduceBEq,Nat.reduceLeDiff,Nat.reduceAdd,Nat.reduceMul]
    refine (rnorm_fn _ true h2.2.1 (by omega)).call ?_
    have e2 : sg (!(decide (x < 0) == decide (y < 0))) (val 65536 out) = x * y := by
      rw [h2.2.2.1, val_take_all _ _ _ (Nat.le_refl _), vx0, vy0, ← Int.natAbs_mul]
      unfold sg
      by_cases h : x < 0 <;> by_cases h' : y < 0 <;> simp [h, h']
      · rw [abs_nn (Int.mul_nonneg_of_nonpos_of_nonpos (by omega) (by omega))]
      · rw [abs_np (Int.mul_nonpos_of_nonpos_of_nonneg (by omega) (by omega))]
      · rw [abs_np (Int.mul_nonpos_of_nonneg_of_nonpos (by omega) (by omega))]
      · rw [abs_nn (Int.mul_nonneg (by omega) (by omega))]
    rw [e2]
    simp (disch := first|exact Xe|fail) only [rs134, RefA, ↓Xa,Xb,Xc,↓reduceIte,Nat.reduceLT,Nat.reduceEqDiff,Nat.reduceBEq,Nat.reduceLeDiff,Nat.reduceAdd,Nat.reduceMul]
    exact SetR.dropTo ((((Le.refl H).upd hp).upd hp2).updB (upd_none.1 (upd_none.1 hp3).2).2) (SetR.now hq)
end Go.Proofs.YtanchgkiomfhhaaDoor.Fw

/- The laws' own helpers: one number in both, numbers that are too long, one answer that is fixed. -/
namespace Go.Proofs.YtanchgkiomfhhaaDoor.Fw
set_option linter.unusedSimpArgs false
set_option linter.unusedVariables false
open Go Go.Proofs.YtanchgkiomfhhaaDoor.Ma
set_option maxRecDepth 20000

def NumA (q : Bool × List Nat × Bool) : AV := .agg [.bool q.1, LS q.2.1 q.2.2]
def NumC : List (Bool × List Nat × Bool) → List AV
  | [] => []
  | q :: r => .bool q.1 :: LS q.2.1 q.2.2 :: NumC r
def fits (x : Int) : Bool := decide (-9223372036854775808 ≤ x ∧ x < 9223372036854775808)
def smallV (x : Int) : Int := if fits x then x else ((0 : Nat) : Int)
end Go.Proofs.YtanchgkiomfhhaaDoor.Fw

/- The law of sums, as what its code computes: true. -/
namespace Go.Proofs.YtanchgkiomfhhaaDoor.Fw
set_option linter.unusedSimpArgs false
set_option linter.unusedVariables false
open Go Go.Proofs.YtanchgkiomfhhaaDoor.Ma
set_option maxRecDepth 20000

end Go.Proofs.YtanchgkiomfhhaaDoor.Fw

/- Sums and products of rows of whole numbers. -/
namespace Go.Proofs.YtanchgkiomfhhaaDoor.Fw
set_option linter.unusedSimpArgs false
set_option linter.unusedVariables false
open Go Go.Proofs.YtanchgkiomfhhaaDoor.Ma
set_option maxRecDepth 20000

def IntC : List Int → List AV
  | [] => []
  | z :: r => .bool (decide (z < 0)) :: LS (digs 4294967296 z.natAbs) true :: IntC r
section
variable {l : List Int} {t : Bool} {H : AHeap} {K : AV → Prop}
end
end Go.Proofs.YtanchgkiomfhhaaDoor.Fw

/- The ring's law, as what its code computes: true. -/
namespace Go.Proofs.YtanchgkiomfhhaaDoor.Fw
set_option linter.unusedSimpArgs false
set_option linter.unusedVariables false
open Go Go.Proofs.YtanchgkiomfhhaaDoor.Ma
set_option maxRecDepth 20000

end Go.Proofs.YtanchgkiomfhhaaDoor.Fw

/- Binary digits; powers. -/
namespace Go.Proofs.YtanchgkiomfhhaaDoor.Fw
set_option linter.unusedSimpArgs false
set_option linter.unusedVariables false
open Go Go.Proofs.YtanchgkiomfhhaaDoor.Ma
set_option maxRecDepth 20000

theorem rbits0_fn (n : Nat) (t : Bool) (hn : (digs 65536 n).length ≤ 1099511627776) : PFn Tryd.prog 192 [LS (digs 65536 n) t] (.int .i64 ((blen n : Nat) : Int)) := by
  intro H Q hq
  refine enter192 (by simp) ?_
  rcases Nat.eq_zero_or_pos n with e | e
  · subst e
    rw [digs_zero] at *
    simp (disch := first|exact Xe|fail) only [ac192, rs192, ↓Xa,Xb,Xc,↓reduceIte,Nat.reduceLT,Nat.reduceEqDiff,Nat.reduceBEq,Nat.reduceLeDiff,Nat.reduceAdd,Nat.reduceMul]
    exact SetR.now hq
  · have hp : 0 < (digs 65536 n).length := by rw [digs_pos (by omega) e]; simp
    have hne : ((digs 65536 n).length = 0) = False := eq_false (by omega)
    have hb := blen_digs (w := 16) (by omega) e
    have hlim := (lim_digs (B := 65536) (by omega) n).getD (by omega) ((digs 65536 n).length - 1)
    have hb16 : blen ((digs 65536 n).getD ((digs 65536 n).length - 1) 0) ≤ 16 := blen_le.2 (by omega)
    change blen n = 16 * ((digs 65536 n).length - 1) + blen ((digs 65536 n).getD ((digs 65536 n).length - 1) 0) at hb
    simp (disch := first|exact Xe|fail) only [ac192, hne, ↓Xa,Xb,Xc,↓reduceIte,Nat.reduceLT,Nat.reduceEqDiff,Nat.reduceBEq,Nat.reduceLeDiff,Nat.reduceAdd,Nat.reduceMul]
    refine W_loop (fun s : Nat × Nat => ⟨[], [(3, .int .i64 s.1), (4, .int .u32 s.2)], H⟩) (fun s => s.1 + blen s.2 = blen n ∧ s.2 < 65536) (fun s => s.2)
      (16 * ((digs 65536 n).length - 1), (digs 65536 n).getD ((digs 65536 n).length - 1) 0) (Settle.now rfl) ⟨hb.symm, hlim⟩ ?_
    rintro ⟨m, u⟩ ⟨h1, h2⟩
    dsimp only at h1 h2 ⊢
    have hbn : blen n ≤ 16 * 1099511627776 + 16 := by omega
    by_cases h0 : 0 < u
    · have hh := blen_half h0
      simp (disch := first|exact Xe|fail) only [h0, ne_eq,Nat.reduceEqDiff, ↓Xa,Xb,Xc,↓reduceIte,Nat.reduceLT,Nat.reduceEqDiff,Nat.reduceBEq,Nat.reduceLeDiff,Nat.reduceAdd,Nat.reduceMul]
      refine Settle.now ⟨(m + 1, u / 2), by dsimp only; omega, ⟨by dsimp only; omega, by dsimp only; omega⟩, rfl⟩
    · obtain rfl : u = 0 := by omega
      rw [blen_zero, Nat.add_zero] at h1
      simp (disch := first|exact Xe|fail) only [h0, ↓Xa,Xb,Xc,↓reduceIte,Nat.reduceLT,Nat.reduceEqDiff,Nat.reduceBEq,Nat.reduceLeDiff,Nat.reduceAdd,Nat.reduceMul]
      refine Settle.now ?_
      simp (disch := first|exact Xe|fail) only [rs192, ↓Xa,Xb,Xc,↓reduceIte,Nat.reduceLT,Nat.reduceEqDiff,Nat.reduceBEq,Nat.reduceLeDiff,Nat.reduceAdd,Nat.reduceMul]
      rw [h1]
      exact SetR.now hq

theorem RefA_0t : AV.agg [.bool false, .seq 0 [] true] = RefA 0 true := by simp [RefA, digs_zero, LS, U]
theorem sgn_eql0 {x : Int} {K : AV → Prop} : binW .eql (.int .i64 (sgnI x)) (.int .i64 ((0 : Nat) : Int)) K ↔ K (.bool (decide (x = 0))) := by
  have : (sgnI x = ((0 : Nat) : Int)) ↔ x = 0 := by unfold sgnI; split <;> simp_all; split <;> omega
  simp only [binW, binInt, true_and, this]
theorem sgn_neq0 {x : Int} {K : AV → Prop} : binW .neq (.int .i64 (sgnI x)) (.int .i64 ((0 : Nat) : Int)) K ↔ K (.bool (!decide (x = 0))) := by
  have : (sgnI x = ((0 : Nat) : Int)) ↔ x = 0 := by unfold sgnI; split <;> simp_all; split <;> omega
  simp only [binW, binInt, true_and, this]
end Go.Proofs.YtanchgkiomfhhaaDoor.Fw

/- Powers, as the program and the reference have them. -/
namespace Go.Proofs.YtanchgkiomfhhaaDoor.Fw
set_option linter.unusedSimpArgs false
set_option linter.unusedVariables false
open Go Go.Proofs.YtanchgkiomfhhaaDoor.Ma
set_option maxRecDepth 20000

end Go.Proofs.YtanchgkiomfhhaaDoor.Fw

/- The law of powers, as what its code computes: true. -/
namespace Go.Proofs.YtanchgkiomfhhaaDoor.Fw
set_option linter.unusedSimpArgs false
set_option linter.unusedVariables false
open Go Go.Proofs.YtanchgkiomfhhaaDoor.Ma
set_option maxRecDepth 20000

def RefB (z : Int) : AV := .bool (decide (z < 0))
def RefD (z : Int) : AV := LS (digs 65536 z.natAbs) false
theorem RefA_eq {z : Int} : RefA z false = .agg [RefB z, RefD z] := id rfl
theorem cells_RefA {z : Int} : (RefA z false).cells = some [RefB z, RefD z] := id rfl
theorem fold_RefA {z : Int} : AV.agg [RefB z, RefD z] = RefA z false := id rfl

theorem Bd.blen {z : Int} {k : Nat} (h : Bd k z) : Ma.blen z.natAbs ≤ 32 * k := by rw [blen_le, Nat.pow_mul]; exact h
end Go.Proofs.YtanchgkiomfhhaaDoor.Fw

/- Quotients and remainders of whole numbers, as the program has them. -/
namespace Go.Proofs.YtanchgkiomfhhaaDoor.Fw
set_option linter.unusedSimpArgs false
set_option linter.unusedVariables false
open Go Go.Proofs.YtanchgkiomfhhaaDoor.Ma
set_option maxRecDepth 20000

theorem ediv_pos {x y : Int} (hy : y ≠ 0) (hx : 0 ≤ x) : x / y = sg (decide (y < 0)) (x.natAbs / y.natAbs) ∧ x % y = ((x.natAbs % y.natAbs : Nat) : Int) := by
  have e : ((x.natAbs : Nat) : Int) = x := by omega
  by_cases h : y < 0
  · have e2 : y = -((y.natAbs : Nat) : Int) := by omega
    constructor
    · rw [sg, decide_eq_true h, if_pos rfl]
      conv => lhs; rw [e2, Int.ediv_neg, ← e]
      rw [← Int.natCast_ediv]
    · conv => lhs; rw [e2, Int.emod_neg, ← e]
      rw [← Int.natCast_emod]
  · have e2 : y = ((y.natAbs : Nat) : Int) := by omega
    constructor
    · rw [sg, decide_eq_false h]
      conv => lhs; rw [e2, ← e]
      rw [← Int.natCast_ediv]; rfl
    · conv => lhs; rw [e2, ← e]
      rw [← Int.natCast_emod]
theorem ediv_neg' {x y : Int} (hy : y ≠ 0) (hx : x < 0) :
    (x.natAbs % y.natAbs = 0 → x / y = sg (!decide (y < 0)) (x.natAbs / y.natAbs) ∧ x % y = 0) ∧
    (0 < x.natAbs % y.natAbs → x / y = sg (!decide (y < 0)) (x.natAbs / y.natAbs) - sgnI y ∧ x % y = sg true (x.natAbs % y.natAbs) + (y.natAbs : Int)) := by
  have hm := Nat.div_add_mod x.natAbs y.natAbs
  have hl := Nat.mod_lt x.natAbs (show 0 < y.natAbs by omega)
  generalize x.natAbs / y.natAbs = q at *
  generalize x.natAbs % y.natAbs = r at *
  have hb : 0 < (y.natAbs : Int) := by omega
  have hxe : x = -((y.natAbs : Int) * q + r) := by
    have : ((y.natAbs * q + r : Nat) : Int) = (x.natAbs : Int) := by rw [hm]
    rw [Int.natCast_add, Int.natCast_mul] at this
    omega
  have key : ∀ (q' r' : Int), r' + (y.natAbs : Int) * q' = x → 0 ≤ r' → r' < (y.natAbs : Int) → x / (y.natAbs : Int) = q' ∧ x % (y.natAbs : Int) = r' := fun q' r' a b c => (Int.ediv_emod_unique hb).2 ⟨a, b, c⟩
  have neg : ∀ q' : Int, x / (y.natAbs : Int) = q' → x / y = if y < 0 then -q' else q' := fun q' h => by
    split
    · conv => lhs; rw [show y = -((y.natAbs : Nat) : Int) by omega, Int.ediv_neg, h]
    · conv => lhs; rw [show y = ((y.natAbs : Nat) : Int) by omega, h]
  have mod : x % y = x % (y.natAbs : Int) := by
    by_cases h : y < 0
    · conv => lhs; rw [show y = -((y.natAbs : Nat) : Int) by omega, Int.emod_neg]
    · conv => lhs; rw [show y = ((y.natAbs : Nat) : Int) by omega]
  constructor
  · intro hr
    obtain ⟨k1, k2⟩ := key (-(q : Int)) 0 (by rw [hxe, hr, Int.mul_neg]; omega) (by omega) hb
    refine ⟨?_, by rw [mod, k2]⟩
    rw [neg _ k1, sg]
    by_cases h : y < 0 <;> simp [h]
  · intro hr
    obtain ⟨k1, k2⟩ := key (-(q : Int) - 1) ((y.natAbs : Int) - r) (by rw [hxe, Int.mul_sub, Int.mul_neg, Int.mul_one]; omega) (by omega) (by omega)
    refine ⟨?_, by rw [mod, k2, sg, if_pos rfl]; omega⟩
    rw [neg _ k1, sg, sgnI, if_neg hy]
    by_cases h : y < 0 <;> simp [h] <;> omega

theorem foldL {z : Int} : AV.agg [.bool (decide (z < 0)), LS (digs 4294967296 z.natAbs) true] = IntA z := id rfl
theorem foldM {z : Int} : AV.agg [.bool (decide (z < 0)), IntD z] = IntA z := id rfl
theorem sgnI_le (y : Int) : -9223372036854775808 ≤ sgnI y ∧ sgnI y < 9223372036854775808 := by unfold sgnI; (repeat' split) <;> omega
theorem idivmod_fn {x y : Int} {k k' : Nat} (hx : Bd k x) (hk : k ≤ 274877906944) (hy : Bd k' y) (hk' : k' ≤ 274877906944) (hy0 : y ≠ 0) : PFn Tryd.prog 174 [IntA x, IntA y] (.tup [IntA (x / y), IntA (x % y), .int .i64 ((0 : Nat) : Int)]) := by
  intro H Q hq
  have hl := hx.len
  have hl' := hy.len
  have vx := val_digs (B := 4294967296) (by omega) x.natAbs
  have vy := val_digs (B := 4294967296) (by omega) y.natAbs
  have lx := lim_digs (B := 4294967296) (by omega) x.natAbs
  have ly := lim_digs (B := 4294967296) (by omega) y.natAbs
  have hyp : 0 < y.natAbs := by omega
  have hbq : ∀ b, Bd k (sg b (x.natAbs / y.natAbs)) := fun b => Bd.sgn (Nat.lt_of_le_of_lt (Nat.div_le_self _ _) hx)
  have hbr : ∀ b, Bd k (sg b (x.natAbs % y.natAbs)) := fun b => Bd.sgn (Nat.lt_of_le_of_lt (Nat.mod_le _ _) hx)
  have hlq := (hbq false).len
  have hlr := (hbr false).len
  rw [sg_abs] at hlq hlr
  refine enter174 (by simp) ?_
  simp (disch := first|exact Xe|fail) only [ac174, cells_IntA, ↓Xa,Xb,Xc,↓reduceIte,Nat.reduceLT,Nat.reduceEqDiff,Nat.reduceBEq,Nat.reduceLeDiff,Nat.reduceAdd,Nat.reduceMul]
  refine alloc_i fun p hp => ?_
  simp (disch := first|exact Xe|fail) only [↓Xa,Xb,Xc,↓reduceIte,Nat.reduceLT,Nat.reduceEqDiff,Nat.reduceBEq,Nat.reduceLeDiff,Nat.reduceAdd,Nat.reduceMul]
  refine alloc_i fun p2 hp2 => ?_
  have n2 := hp2
  simp only [upd_none] at n2
  obtain ⟨_, n2⟩ := n2
  simp (disch := first|exact Xe|fail) only [↓Xa,Xb,Xc,↓reduceIte,Nat.reduceLT,Nat.reduceEqDiff,Nat.reduceBEq,Nat.reduceLeDiff,Nat.reduceAdd,Nat.reduceMul]
  refine alloc_i fun p3 hp3 => ?_
  have n3 := hp3
  simp only [upd_none] at n3
  obtain ⟨_, _, n3⟩ := n3
  simp (disch := first|exact Xe|fail) only [↓Xa,Xb,Xc,↓reduceIte,Nat.reduceLT,Nat.reduceEqDiff,Nat.reduceBEq,Nat.reduceLeDiff,Nat.reduceAdd,Nat.reduceMul]
  refine alloc_i fun p4 hp4 => ?_
  have n4 := hp4
  simp only [upd_none] at n4
  obtain ⟨_, _, _, n4⟩ := n4
  simp (disch := first|exact Xe|fail) only [↓Xa,Xb,Xc,↓reduceIte,Nat.reduceLT,Nat.reduceEqDiff,Nat.reduceBEq,Nat.reduceLeDiff,Nat.reduceAdd,Nat.reduceMul]
  refine (divmod_fn (a := digs 4294967296 x.natAbs) (b := digs 4294967296 y.natAbs) true true lx ly (by omega) (by omega) (by omega)).call ?_
  rw [vx, vy]
  have ifold : ∀ z : Int, AV.bool (decide (z < 0)) = IntB z := fun z => rfl
  simp (disch := first|exact Xe|fail) only [IntB, binB_neq, ↓Xa,Xb,Xc,↓reduceIte,Nat.reduceLT,Nat.reduceEqDiff,Nat.reduceBEq,Nat.reduceLeDiff,Nat.reduceAdd,Nat.reduceMul]
  refine PFn.dcall (made_fn _ _ (by omega)) ?_
  simp (disch := first|exact Xe|fail) only [↓Xa,Xb,Xc,↓reduceIte,Nat.reduceLT,Nat.reduceEqDiff,Nat.reduceBEq,Nat.reduceLeDiff,Nat.reduceAdd,Nat.reduceMul]
  refine PFn.dcall (made_fn _ _ (by omega)) ?_
  simp (disch := first|exact Xe|fail) only [↓Xa,Xb,Xc,↓reduceIte,Nat.reduceLT,Nat.reduceEqDiff,Nat.reduceBEq,Nat.reduceLeDiff,Nat.reduceAdd,Nat.reduceMul]
  refine dalloc_i fun p5 hp5 => ?_
  have n5 := hp5
  simp only [upd_none] at n5
  obtain ⟨_, _, _, _, n5⟩ := n5
  simp (disch := first|exact Xe|fail) only [↓Xa,Xb,Xc,↓reduceIte,Nat.reduceLT,Nat.reduceEqDiff,Nat.reduceBEq,Nat.reduceLeDiff,Nat.reduceAdd,Nat.reduceMul]
  refine dalloc_i fun p6 hp6 => ?_
  have n6 := hp6
  simp only [upd_none] at n6
  obtain ⟨_, _, _, _, _, n6⟩ := n6
  simp (disch := first|exact Xe|fail) only [cells_IntA, ↓Xa,Xb,Xc,↓reduceIte,Nat.reduceLT,Nat.reduceEqDiff,Nat.reduceBEq,Nat.reduceLeDiff,Nat.reduceAdd,Nat.reduceMul]
  have bq := hbq (!(decide (x < 0) == decide (y < 0)))
  have br := hbr (decide (x < 0))
  have cs : (sg (!(decide (x < 0) == decide (y < 0))) (x.natAbs / y.natAbs) = x / y ∧ sg (decide (x < 0)) (x.natAbs % y.natAbs) = x % y ∧ IntB (sg (decide (x < 0)) (x.natAbs % y.natAbs)) = .bool false) ∨
      (sg (!(decide (x < 0) == decide (y < 0))) (x.natAbs / y.natAbs) - sgnI y = x / y ∧ sg (decide (x < 0)) (x.natAbs % y.natAbs) + (y.natAbs : Int) = x % y ∧ IntB (sg (decide (x < 0)) (x.natAbs % y.natAbs)) = .bool true) := by
    by_cases h : x < 0
    · obtain ⟨e1, e2⟩ := ediv_neg' hy0 h
      rw [decide_eq_true h]
      have eb : (!(true == decide (y < 0))) = !decide (y < 0) := by simp
      rw [eb]
      rcases Nat.eq_zero_or_pos (x.natAbs % y.natAbs) with hz | hz
      · left
        obtain ⟨f1, f2⟩ := e1 hz
        rw [hz, f1, f2]
        exact ⟨rfl, rfl, rfl⟩
      · right
        obtain ⟨f1, f2⟩ := e2 hz
        exact ⟨f1.symm, f2.symm, congrArg AV.bool (decide_eq_true (by simp [sg]; omega))⟩
    · left
      obtain ⟨f1, f2⟩ := ediv_pos hy0 (show 0 ≤ x by omega)
      rw [decide_eq_false h]
      have eb : (!(false == decide (y < 0))) = decide (y < 0) := by simp
      rw [eb, f1, f2]
      exact ⟨rfl, rfl, congrArg AV.bool (decide_eq_false (by simp [sg]; omega))⟩
  generalize sg (!(decide (x < 0) == decide (y < 0))) (x.natAbs / y.natAbs) = q0 at *
  generalize sg (decide (x < 0)) (x.natAbs % y.natAbs) = r0 at *
  have fin : ∀ {v a b c d e f}, Q v H → SetR Q v ((((((H.upd p a).upd p2 b).upd p3 c).upd p4 d).upd p5 e).upd p6 f) := fun {v a b c d e f} hv => SetR.dropTo (((((((Le.refl H).updB hp).updB n2).updB n3).updB n4).updB n5).updB n6) (SetR.now hv)
  rcases cs with ⟨c1, c2, c3⟩ | ⟨c1, c2, c3⟩
  · rw [← c1, ← c2] at hq
    have f0 : AV.agg [.bool false, IntD r0] = IntA r0 := by rw [IntA_eq, c3]
    simp (disch := first|exact Xe|fail) only [c3, fold_IntA, f0, cells_IntA, rs174, ↓Xa,Xb,Xc,↓reduceIte,Nat.reduceLT,Nat.reduceEqDiff,Nat.reduceBEq,Nat.reduceLeDiff,Nat.reduceAdd,Nat.reduceMul]
    exact fin hq
  · rw [← c1, ← c2] at hq
    have f0 : AV.agg [.bool true, IntD r0] = IntA r0 := by rw [IntA_eq, c3]
    simp (disch := first|exact Xe|fail) only [c3, fold_IntA, f0, foldL, foldM, ↓Xa,Xb,Xc,↓reduceIte,Nat.reduceLT,Nat.reduceEqDiff,Nat.reduceBEq,Nat.reduceLeDiff,Nat.reduceAdd,Nat.reduceMul]
    refine PFn.dcall (abs_fn hy (by omega)) ?_
    simp (disch := first|exact Xe|fail) only [fold_IntA, foldL, foldM, f0, ↓Xa,Xb,Xc,↓reduceIte,Nat.reduceLT,Nat.reduceEqDiff,Nat.reduceBEq,Nat.reduceLeDiff,Nat.reduceAdd,Nat.reduceMul]
    refine (addi_fn br (by omega) hy.abs (by omega)).call ?_
    simp (disch := first|exact Xe|fail) only [fold_IntA, foldL, foldM, f0, cells_IntA, ↓Xa,Xb,Xc,↓reduceIte,Nat.reduceLT,Nat.reduceEqDiff,Nat.reduceBEq,Nat.reduceLeDiff,Nat.reduceAdd,Nat.reduceMul]
    refine PFn.dcall (sign_fn hy (by omega)) ?_
    simp (disch := first|exact Xe|fail) only [fold_IntA, foldL, foldM, f0, ↓Xa,Xb,Xc,↓reduceIte,Nat.reduceLT,Nat.reduceEqDiff,Nat.reduceBEq,Nat.reduceLeDiff,Nat.reduceAdd,Nat.reduceMul]
    refine PFn.dcall (of_fn (sgnI_le y)) ?_
    simp (disch := first|exact Xe|fail) only [fold_IntA, foldL, foldM, f0, ↓Xa,Xb,Xc,↓reduceIte,Nat.reduceLT,Nat.reduceEqDiff,Nat.reduceBEq,Nat.reduceLeDiff,Nat.reduceAdd,Nat.reduceMul]
    refine (subi_fn bq (by omega) (Bd.i64 (sgnI_le y)) (by omega)).call ?_
    simp (disch := first|exact Xe|fail) only [fold_IntA, foldL, foldM, f0, cells_IntA, rs174, ↓Xa,Xb,Xc,↓reduceIte,Nat.reduceLT,Nat.reduceEqDiff,Nat.reduceBEq,Nat.reduceLeDiff,Nat.reduceAdd,Nat.reduceMul]
    exact fin hq

end Go.Proofs.YtanchgkiomfhhaaDoor.Fw

/- The framework, part W: a row of one's own, taken up anew at its shorter length; rows that grow, also from nothing of one's own. -/
namespace Go.Proofs.YtanchgkiomfhhaaDoor.Fw
set_option linter.unusedSimpArgs false
set_option linter.unusedVariables false
open Go Go.Proofs.YtanchgkiomfhhaaDoor.Ma

def Ctx.renew (c : Ctx) (b b' : Nat) (x : ABlk) : Ctx := { c with μ := fun i => if i = b' then c.μ b else c.μ i, U := fun i => c.U i ∨ i = b', H := (c.H.upd b none).upd b' (some x) }

theorem Ctx.renew_H {c : Ctx} {b b' i : Nat} {x y : ABlk} (h : (c.renew b b' x).H i = some y) : (i = b' ∧ y = x) ∨ (i ≠ b' ∧ i ≠ b ∧ c.H i = some y) := by
  have h2 : ((c.H.upd b none).upd b' (some x)) i = some y := h
  rcases upd_some h2 with ⟨e, e2⟩ | ⟨e, e2⟩
  · injection e2 with e2; exact .inl ⟨e, e2.symm⟩
  · rcases upd_some e2 with ⟨_, e4⟩ | ⟨e3, e4⟩
    · cases e4
    · exact .inr ⟨e, e3, e4⟩

theorem Ctx.renew_later {c : Ctx} {b b' : Nat} {x : ABlk} (hb : ABlk.mut (c.H b)) (hU : ¬ c.U b') (hR : ¬ c.R b') : Later c (c.renew b b' x) := by
  refine ⟨⟨Nat.le_refl _, rfl, rfl, rfl, fun _ h => .inl h, ?_, ?_⟩, fun i h => ⟨h, fun k => k.resolve_right fun e => hR (e ▸ h)⟩⟩
  · intro i x' hi hx
    rcases Ctx.renew_H hx with ⟨e, _⟩ | ⟨e, _, e2⟩
    · exact absurd (e ▸ hi) hU
    · refine ⟨x', e2, Nat.le_refl _, fun _ => ⟨if_neg e, fun _ _ cells e' => ⟨cells, e', fun arr h => ⟨arr, ?_, rfl⟩⟩⟩⟩
      show c.w.heap[if i = b' then c.μ b else c.μ i]? = _
      rw [if_neg e]; exact h
  · rintro k _ hm
    refine ⟨rfl, fun ⟨i, hi, e⟩ => hm ?_⟩
    have e' : (if i = b' then c.μ b else c.μ i) = k := e
    cases hy : (c.renew b b' x).H i with
    | none => rw [hy] at hi; exact hi.elim
    | some y =>
      rw [hy] at hi
      rcases Ctx.renew_H hy with ⟨e1, _⟩ | ⟨e1, _, e2⟩
      · rw [if_pos e1] at e'; exact ⟨b, hb, e'⟩
      · rw [if_neg e1] at e'; exact ⟨i, by rw [e2]; exact hi, e'⟩

theorem Ctx.renew_ok {c : Ctx} (hok : Ok c) {b b' ty es m : Nat} {cells : List AV} (hb : c.H b = some (.row ty es cells)) (hU : ¬ c.U b') (hR : ¬ c.R b') : Ok (c.renew b b' (.row ty es (cells.take m))) := by
  have hbn : c.H b ≠ none := by rw [hb]; simp
  have later := Ctx.renew_later (x := .row ty es (cells.take m)) (mut_row hb) hU hR
  have get : ∀ i, (c.renew b b' (.row ty es (cells.take m))).H i ≠ none → i = b' ∨ (i ≠ b' ∧ i ≠ b ∧ c.H i ≠ none) := by
    intro i hi
    obtain ⟨y, hy⟩ := Option.ne_none_iff_exists'.1 hi
    rcases Ctx.renew_H hy with ⟨e1, _⟩ | ⟨e1, e2, e3⟩
    · exact .inl e1
    · exact .inr ⟨e1, e2, by rw [e3]; simp⟩
  refine ⟨?_, ?_, ?_, ?_⟩
  · intro i hi
    rcases get i hi with e | ⟨_, _, e⟩
    · exact .inr e
    · exact .inl (hok.used i e)
  · obtain ⟨M, hM⟩ := hok.fin
    refine ⟨M + b' + 1, fun i hi => ?_⟩
    rcases hi with (h | h) | h
    · have := hM i (.inl h); omega
    · omega
    · have := hM i (.inr h); omega
  · intro i j hi hj e
    have e' : (if i = b' then c.μ b else c.μ i) = (if j = b' then c.μ b else c.μ j) := e
    rcases get i hi with e1 | ⟨e1, e2, e3⟩ <;> rcases get j hj with f1 | ⟨f1, f2, f3⟩
    · rw [e1, f1]
    · rw [if_pos e1, if_neg f1] at e'
      exact absurd (hok.inj j b f3 hbn e'.symm) f2
    · rw [if_neg e1, if_pos f1] at e'
      exact absurd (hok.inj i b e3 hbn e') e2
    · rw [if_neg e1, if_neg f1] at e'
      exact hok.inj i j e3 f3 e'
  · intro i y hy
    rcases Ctx.renew_H hy with ⟨rfl, rfl⟩ | ⟨e1, _, e3⟩
    · obtain ⟨arr, g1, g2, g3⟩ := hok.blk b _ hb
      refine ⟨arr, ?_, by rw [List.length_take]; omega, fun k hk hk' => ?_⟩
      · show c.w.heap[if i = i then c.μ b else c.μ i]? = _
        rw [if_pos rfl]; exact g1
      · have hk2 : k < cells.length := by rw [List.length_take] at hk; omega
        have := (g3 k hk2 hk').later later
        rw [List.getElem_take]; exact this
    · exact (hok.blk i y e3).later later (if_neg e1) rfl

theorem Settle.renew {K : St → Prop} {D : List Nat} {E : Env} {H : AHeap} (t : Nat) {b L n ty : Nat} {ti : Bool} {l : List Nat} (he : E.get t = .own b L 0 n ti) (hH : H b = some (.row ty 1 (U l))) (hL : l.length = L) (hn : n ≤ L)
    (h : ∀ b', (H.upd b none) b' = none → Settle K ⟨D, E.set t (.own b' n 0 n false), (H.upd b none).upd b' (some (.row ty 1 (U (l.take n))))⟩) : Settle K ⟨D, E, H⟩ := by
  refine Settle.join ?_
  intro N c a hc hok hr
  have hc' : c.H = H := hc
  subst hc'
  obtain ⟨M, hM⟩ := hok.fin
  have hU : ¬ c.U M := fun k => by have := hM M (.inl k); omega
  have hR : ¬ c.R M := fun k => by have := hM M (.inr k); omega
  have hbn : c.H b ≠ none := by rw [hH]; simp
  have hbM : M ≠ b := fun e => hU (e ▸ hok.used b hbn)
  have later := Ctx.renew_later (b' := M) (x := .row ty 1 ((U l).take n)) (mut_row hH) hU hR
  have hfree : (c.H.upd b none) M = none := by
    rw [upd_other _ _ hbM]
    cases e : c.H M with
    | none => rfl
    | some x => exact absurd (hok.used M (by rw [e]; simp)) hU
  have hk := h M hfree
  rw [U_take] at hk
  refine ⟨c.renew b M (.row ty 1 ((U l).take n)), _, rfl, rfl, Ctx.renew_ok hok hH hU hR, ?_, later, hk⟩
  have hr' := hr.later later
  refine ⟨hr'.size, fun u => ?_, hr'.dlen, hr'.dmark⟩
  show Enc _ (Env.get (E.set t (.own M n 0 n false)) u) _
  rw [Env.get_set]
  split
  · rename_i e; subst e
    have := hr.tmp u
    rw [show E.get u = _ from he] at this
    generalize a.tmps.getD u undef = v at this
    cases this with
    | own _ _ _ _ _ _ hs hb0 hL0 hv =>
      refine .own M n 0 n false v hs (.inr rfl) (fun x hx => ?_) (fun ty' es' cells' hx _ => ?_)
      · have hx2 : ((c.H.upd b none).upd M (some (.row ty 1 ((U l).take n)))) M = some x := hx
        rw [upd_same] at hx2
        injection hx2 with hx2
        subst hx2
        show n ≤ ((U l).take n).length
        rw [List.length_take, U_len]; omega
      · have hx2 : ((c.H.upd b none).upd M (some (.row ty 1 ((U l).take n)))) M = some (.row ty' es' cells') := hx
        rw [upd_same] at hx2
        injection hx2 with hx2
        injection hx2 with q1 q2 q3
        subst q1; subst q2
        obtain ⟨base, cap, arr, g1, g2, g3, g4, _, g6, g7⟩ := hv ty 1 (U l) hH (by rw [U_len]; exact hL)
        refine ⟨base, cap, arr, g1, ?_, g3, g4, (fun e => absurd e (by simp)), ?_, g7⟩
        · show cap = 0 ∨ base = some ⟨if M = M then c.μ b else c.μ M, 0, none⟩
          rw [if_pos rfl]; exact g2
        · show c.w.heap[if M = M then c.μ b else c.μ M]? = _
          rw [if_pos rfl]; exact g6
  · exact hr'.tmp u

def growO (H0 : AHeap) (ty : Nat) (l : List Nat) (x : AV) (H : AHeap) : Prop :=
  (l = [] ∧ x = .seq 0 [] true ∧ H = H0) ∨ (∃ b, H0 b = none ∧ x = .own b l.length 0 l.length false ∧ H = H0.upd b (some (.row ty 1 (U l))))
theorem grow.toO {H0 H : AHeap} {ty : Nat} {l : List Nat} {x : AV} (h : grow H0 ty l x H) : growO H0 ty l x H := by
  rcases h with h | ⟨_, h⟩
  · exact .inl h
  · exact .inr h
theorem appO {H0 H : AHeap} {ty n : Nat} {l m : List Nat} {x : AV} {t : Bool} {K : AV → AHeap → Prop} (h : growO H0 ty l x H) (hn : n = m.length) (hm : m ≠ []) (hb : l.length + m.length ≤ 17592186044416)
    (k : ∀ x' H', growO H0 ty (l ++ m) x' H' → K x' H') : appV H ty 1 4 x (.seq n (U m) t) K := by
  rcases h with ⟨rfl, rfl, rfl⟩ | ⟨b, hb', rfl, rfl⟩
  · exact app_grow grow_nil hn hm hb fun x' H' g => k x' H' g.toO
  · by_cases hl : l = []
    · subst hl; subst hn
      refine .inl ⟨by simp, U_cell m, ?_⟩
      dsimp only
      rw [upd_same]
      simp only [List.length_nil] at hb
      refine ⟨by simp, rfl, by simp, rfl, rfl, by simp only [List.length_nil]; omega, by simp only [List.length_nil]; omega, ?_⟩
      refine k _ _ (.inr ⟨b, hb', ?_, ?_⟩)
      · simp
      · rw [upd_upd, U_app]
    · exact app_grow (.inr ⟨hl, b, hb', rfl, rfl⟩) hn hm hb fun x' H' g => k x' H' g.toO
theorem Settle.grownO {K : St → Prop} {D : List Nat} {E : Env} {H0 H : AHeap} {ty : Nat} {l : List Nat} {x : AV} (t : Nat) (he : E.get t = x) (h : growO H0 ty l x H) (k : Settle K ⟨D, E.set t (LS l false), H0⟩) : Settle K ⟨D, E, H⟩ := by
  rcases h with ⟨rfl, rfl, rfl⟩ | ⟨b, hb, rfl, rfl⟩
  · refine Settle.loose t ?_
    rw [he]; exact k
  · refine Settle.freeze t he (upd_same _ _ _) (by simp) (.inr (by simp)) ?_
    rw [upd_upd, upd_back _ hb]
    have e : AV.seq l.length (((U l).drop 0).take (l.length * 1)) false = LS l false := by simp [LS, List.take_of_length_le]
    rw [e]; exact k
end Go.Proofs.YtanchgkiomfhhaaDoor.Fw

/- What the reference computes on rows of one's own: comparing, taking away, striking high noughts. -/
namespace Go.Proofs.YtanchgkiomfhhaaDoor.Fw
set_option linter.unusedSimpArgs false
set_option linter.unusedVariables false
open Go Go.Proofs.YtanchgkiomfhhaaDoor.Ma
set_option maxRecDepth 20000

theorem cells_o2 {b : Bool} {bb L off n : Nat} {t : Bool} : (AV.agg [.bool b, .own bb L off n t]).cells = some [.bool b, .own bb L off n t] := id rfl
theorem size_own {H : AHeap} {Q : AV → AHeap → Prop} {bb ty L : Nat} (m n : Nat) (ta tb : Bool) (hH : H bb = some (.row ty 1 (U (digs 65536 m)))) (hL : (digs 65536 m).length = L) (hq : Q (.int .i64 (cmpZ m n)) H) (hm : (digs 65536 m).length ≤ 1099511627776) (hn : (digs 65536 n).length ≤ 1099511627776) : Run Tryd.prog 194 [.own bb L 0 L ta, LS (digs 65536 n) tb] H Q := by
  subst hL
  have hx := lim_digs (B := 65536) (by omega) m
  have hy := lim_digs (B := 65536) (by omega) n
  have vx := val_digs (B := 65536) (by omega) m
  have vy := val_digs (B := 65536) (by omega) n
  have lt1 := digs_lt_len (B := 65536) (a := m) (b := n) (by omega)
  have lt2 := digs_lt_len (B := 65536) (a := n) (b := m) (by omega)
  generalize digs 65536 m = x at *
  generalize digs 65536 n = y at *
  have less : m < n → SetR Q (.int .i64 (-1)) H := fun h => by
    have : cmpZ m n = -1 := by simp [cmpZ, h]
    rw [← this]; exact SetR.now hq
  have more : n < m → SetR Q (.int .i64 ((1 : Nat) : Int)) H := fun h => by
    have : cmpZ m n = ((1 : Nat) : Int) := by simp [cmpZ, h, Nat.not_lt_of_lt h]
    rw [← this]; exact SetR.now hq
  refine enter194 (by simp) ?_
  by_cases c0 : x.length = y.length
  · have c0' := c0
    simp (disch := first|exact Xe|fail) only [ac194, c0, ↓Xa,Xb,Xc,↓reduceIte,Nat.reduceLT,Nat.reduceEqDiff,Nat.reduceBEq,Nat.reduceLeDiff,Nat.reduceAdd,Nat.reduceMul]
    refine W_loop (fun k : Nat => ⟨[], [(0, .own bb y.length 0 y.length ta), (1, LS y tb), (5, .int .i64 (dn k))], H⟩) (fun k => k ≤ x.length ∧ x.drop k = y.drop k) id y.length (Settle.now rfl) ⟨by omega, by rw [List.drop_of_length_le (by omega), List.drop_of_length_le (by omega)]⟩ ?_
    rintro k ⟨hk, hd⟩
    cases k with
    | zero =>
      simp (disch := first|exact Xe|fail) only [hH, ↓Xa,Xb,Xc,↓reduceIte,Nat.reduceLT,Nat.reduceEqDiff,Nat.reduceBEq,Nat.reduceLeDiff,Nat.reduceAdd,Nat.reduceMul]
      refine Settle.now ?_
      simp (disch := first|exact Xe|fail) only [hH, rs194, ↓Xa,Xb,Xc,↓reduceIte,Nat.reduceLT,Nat.reduceEqDiff,Nat.reduceBEq,Nat.reduceLeDiff,Nat.reduceAdd,Nat.reduceMul]
      have e : m = n := by rw [← vx, ← vy]; rw [List.drop_zero, List.drop_zero] at hd; rw [hd]
      have : cmpZ m n = ((0 : Nat) : Int) := by simp [cmpZ, e]
      rw [← this]; exact SetR.now hq
    | succ k =>
      by_cases d1 : x.getD k 0 < y.getD k 0
      · simp (disch := first|exact Xe|fail) only [hH, d1, rs194, ↓Xa,Xb,Xc,↓reduceIte,Nat.reduceLT,Nat.reduceEqDiff,Nat.reduceBEq,Nat.reduceLeDiff,Nat.reduceAdd,Nat.reduceMul]
        exact less (by rw [← vx, ← vy]; exact val_lt_high hx (by omega) k (by omega) c0 hd d1)
      by_cases d2 : y.getD k 0 < x.getD k 0
      · simp (disch := first|exact Xe|fail) only [hH, d1, d2, rs194, ↓Xa,Xb,Xc,↓reduceIte,Nat.reduceLT,Nat.reduceEqDiff,Nat.reduceBEq,Nat.reduceLeDiff,Nat.reduceAdd,Nat.reduceMul]
        exact more (by rw [← vx, ← vy]; exact val_lt_high hy (by omega) k (by omega) c0.symm hd.symm d2)
      simp (disch := first|exact Xe|fail) only [hH, d1, d2, ↓Xa,Xb,Xc,↓reduceIte,Nat.reduceLT,Nat.reduceEqDiff,Nat.reduceBEq,Nat.reduceLeDiff,Nat.reduceAdd,Nat.reduceMul]
      refine Settle.now ⟨k, Nat.lt_succ_self k, ⟨by omega, ?_⟩, rfl⟩
      rw [List.drop_eq_getElem_cons (by omega), List.drop_eq_getElem_cons (i := k) (l := y) (by omega), hd]
      congr 1
      have e1 : x.getD k 0 = x[k] := by simp [List.getD_eq_getElem?_getD, List.getElem?_eq_getElem (show k < x.length by omega)]
      have e2 : y.getD k 0 = y[k] := by simp [List.getD_eq_getElem?_getD, List.getElem?_eq_getElem (show k < y.length by omega)]
      omega
  · by_cases c1 : x.length < y.length
    · simp (disch := first|exact Xe|fail) only [hH, ac194, c0, c1, rs194, ↓Xa,Xb,Xc,↓reduceIte,Nat.reduceLT,Nat.reduceEqDiff,Nat.reduceBEq,Nat.reduceLeDiff,Nat.reduceAdd,Nat.reduceMul]
      exact less (lt1 c1)
    · simp (disch := first|exact Xe|fail) only [hH, ac194, c0, c1, rs194, ↓Xa,Xb,Xc,↓reduceIte,Nat.reduceLT,Nat.reduceEqDiff,Nat.reduceBEq,Nat.reduceLeDiff,Nat.reduceAdd,Nat.reduceMul]
      exact more (lt2 (by omega))

theorem minus_own {H : AHeap} {Q : AV → AHeap → Prop} {bb ty L : Nat} (m n : Nat) (ta tb : Bool) (hH : H bb = some (.row ty 1 (U (digs 65536 m)))) (hL : (digs 65536 m).length = L) (hq : ∀ x H', grow H 172 (pad 65536 (m - n) (digs 65536 m).length) x H' → Q x H') (hmn : n ≤ m) (hm : (digs 65536 m).length ≤ 1099511627776) : Run Tryd.prog 195 [.own bb L 0 L ta, LS (digs 65536 n) tb] H Q := by
  subst hL
  have la := lim_digs (B := 65536) (by omega) m
  have lb := lim_digs (B := 65536) (by omega) n
  have va := val_digs (B := 65536) (by omega) m
  have vb := val_digs (B := 65536) (by omega) n
  have hlb : (digs 65536 n).length ≤ (digs 65536 m).length := by
    rcases Nat.lt_or_ge (digs 65536 m).length (digs 65536 n).length with h | h
    · have := digs_lt_len (by omega) h; omega
    · exact h
  refine enter195 (by simp) ?_
  simp (disch := first|exact Xe|fail) only [ac195, ↓Xa,Xb,Xc,↓reduceIte,Nat.reduceLT,Nat.reduceEqDiff,Nat.reduceBEq,Nat.reduceLeDiff,Nat.reduceAdd,Nat.reduceMul]
  refine W_loop (fun s : Nat × Nat × List Nat × AV × AHeap => ⟨[], [(0, .own bb (digs 65536 m).length 0 (digs 65536 m).length ta), (1, LS (digs 65536 n) tb), (5, s.2.2.2.1), (6, .int .u32 s.2.1), (7, .int .i64 s.1)], s.2.2.2.2⟩)
    (fun s => s.1 ≤ (digs 65536 m).length ∧ grow H 172 s.2.2.1 s.2.2.2.1 s.2.2.2.2 ∧ MinI (digs 65536 m) (digs 65536 n) s.1 s.2.1 s.2.2.1) (fun s => (digs 65536 m).length - s.1)
    (0, 0, [], _, _) (Settle.now rfl) ⟨by simp, grow_nil, MinI.zero _ _⟩ ?_
  rintro ⟨i, c, done, x, H'⟩ ⟨g0, hg, h1⟩
  dsimp only at g0 hg h1 ⊢
  have hold := grow_old hg hH
  have hd := h1.1
  have hc := h1.2.2.1
  have hx := la.getD (by omega) i
  have hy := lb.getD (by omega) i
  by_cases hi : i < (digs 65536 m).length
  · by_cases hj : i < (digs 65536 n).length
    · by_cases hv : (digs 65536 m).getD i 0 < c + (digs 65536 n).getD i 0
      · simp (disch := first|exact Xe|fail) only [hold, hi, hj, hv, ↓Xa,Xb,Xc,↓reduceIte,Nat.reduceLT,Nat.reduceEqDiff,Nat.reduceBEq,Nat.reduceLeDiff,Nat.reduceAdd,Nat.reduceMul]
        refine app_grow (m := [(digs 65536 m).getD i 0 + 65536 - (c + (digs 65536 n).getD i 0)]) hg rfl (by simp) (by simp; omega) fun x' H2 hg2 => ?_
        have hold2 := grow_old hg2 hH
        simp (disch := first|exact Xe|fail) only [↓Xa,Xb,Xc,↓reduceIte,Nat.reduceLT,Nat.reduceEqDiff,Nat.reduceBEq,Nat.reduceLeDiff,Nat.reduceAdd,Nat.reduceMul]
        refine Settle.now ⟨(i + 1, 1, _, _, _), by dsimp only; omega, ⟨by dsimp only; omega, hg2, h1.step (c' := 1) (by omega) rfl (by omega) (by omega)⟩, rfl⟩
      · simp (disch := first|exact Xe|fail) only [hold, hi, hj, hv, ↓Xa,Xb,Xc,↓reduceIte,Nat.reduceLT,Nat.reduceEqDiff,Nat.reduceBEq,Nat.reduceLeDiff,Nat.reduceAdd,Nat.reduceMul]
        refine app_grow (m := [(digs 65536 m).getD i 0 - (c + (digs 65536 n).getD i 0)]) hg rfl (by simp) (by simp; omega) fun x' H2 hg2 => ?_
        have hold2 := grow_old hg2 hH
        simp (disch := first|exact Xe|fail) only [↓Xa,Xb,Xc,↓reduceIte,Nat.reduceLT,Nat.reduceEqDiff,Nat.reduceBEq,Nat.reduceLeDiff,Nat.reduceAdd,Nat.reduceMul]
        refine Settle.now ⟨(i + 1, 0, _, _, _), by dsimp only; omega, ⟨by dsimp only; omega, hg2, h1.step (c' := 0) (by omega) rfl (by omega) (by omega)⟩, rfl⟩
    · have b := getD_beyond (show (digs 65536 n).length ≤ i by omega)
      by_cases hv : (digs 65536 m).getD i 0 < c
      · simp (disch := first|exact Xe|fail) only [hold, hi, hj, hv, ↓Xa,Xb,Xc,↓reduceIte,Nat.reduceLT,Nat.reduceEqDiff,Nat.reduceBEq,Nat.reduceLeDiff,Nat.reduceAdd,Nat.reduceMul]
        refine app_grow (m := [(digs 65536 m).getD i 0 + 65536 - c]) hg rfl (by simp) (by simp; omega) fun x' H2 hg2 => ?_
        have hold2 := grow_old hg2 hH
        simp (disch := first|exact Xe|fail) only [↓Xa,Xb,Xc,↓reduceIte,Nat.reduceLT,Nat.reduceEqDiff,Nat.reduceBEq,Nat.reduceLeDiff,Nat.reduceAdd,Nat.reduceMul]
        refine Settle.now ⟨(i + 1, 1, _, _, _), by dsimp only; omega, ⟨by dsimp only; omega, hg2, h1.step (c' := 1) (by omega) rfl (by omega) (by omega)⟩, rfl⟩
      · simp (disch := first|exact Xe|fail) only [hold, hi, hj, hv, ↓Xa,Xb,Xc,↓reduceIte,Nat.reduceLT,Nat.reduceEqDiff,Nat.reduceBEq,Nat.reduceLeDiff,Nat.reduceAdd,Nat.reduceMul]
        refine app_grow (m := [(digs 65536 m).getD i 0 - c]) hg rfl (by simp) (by simp; omega) fun x' H2 hg2 => ?_
        have hold2 := grow_old hg2 hH
        simp (disch := first|exact Xe|fail) only [↓Xa,Xb,Xc,↓reduceIte,Nat.reduceLT,Nat.reduceEqDiff,Nat.reduceBEq,Nat.reduceLeDiff,Nat.reduceAdd,Nat.reduceMul]
        refine Settle.now ⟨(i + 1, 0, _, _, _), by dsimp only; omega, ⟨by dsimp only; omega, hg2, h1.step (c' := 0) (by omega) rfl (by omega) (by omega)⟩, rfl⟩
  · obtain rfl : i = (digs 65536 m).length := by omega
    simp (disch := first|exact Xe|fail) only [hold, hi, ↓Xa,Xb,Xc,↓reduceIte,Nat.reduceLT,Nat.reduceEqDiff,Nat.reduceBEq,Nat.reduceLeDiff,Nat.reduceAdd,Nat.reduceMul]
    refine Settle.now ?_
    simp (disch := first|exact Xe|fail) only [rs195, ↓Xa,Xb,Xc,↓reduceIte,Nat.reduceLT,Nat.reduceEqDiff,Nat.reduceBEq,Nat.reduceLeDiff,Nat.reduceAdd,Nat.reduceMul]
    have e := h1.end la hlb (by omega)
    rw [va, vb] at e
    rw [e] at hg
    exact SetR.now (hq _ _ hg)

theorem rnorm_own {H : AHeap} {Q : AV → AHeap → Prop} {bb ty L : Nat} {l : List Nat} (neg t : Bool) (hH : H bb = some (.row ty 1 (U l))) (hL : l.length = L) (hq : ∀ ti, Q (.agg [.bool (neg && decide (0 < (tr l).length)), .own bb L 0 (tr l).length ti]) H) (hl : Lim 65536 l) (hn : l.length ≤ 8796093022208) : Run Tryd.prog 139 [.bool neg, .own bb L 0 L t] H Q := by
  subst hL
  refine enter139 (by simp) ?_
  simp (disch := first|exact Xe|fail) only [ac139, ↓Xa,Xb,Xc,↓reduceIte,Nat.reduceLT,Nat.reduceEqDiff,Nat.reduceBEq,Nat.reduceLeDiff,Nat.reduceAdd,Nat.reduceMul]
  refine alloc_i fun p hp => ?_
  have hAp : Ap bb p := fun e => by rw [e, hp] at hH; cases hH
  simp (disch := first|exact Xe|fail) only [↓Xa,Xb,Xc,↓reduceIte,Nat.reduceLT,Nat.reduceEqDiff,Nat.reduceBEq,Nat.reduceLeDiff,Nat.reduceAdd,Nat.reduceMul]
  refine W_loop (fun n : Nat => ⟨[], [(0, .bool neg), (1, .own bb l.length 0 l.length t), (4, .ptr p 2 0), (5, .int .i64 n)], H.upd p (some (.row 39 0 [.bool false, .seq 0 [] true]))⟩) (fun n => n ≤ l.length ∧ ∀ i, n ≤ i → i < l.length → l.getD i 0 = 0) id l.length (Settle.now rfl) ⟨Nat.le_refl _, fun i h1 h2 => absurd h1 (by omega)⟩ ?_
  rintro n ⟨h1, hz⟩
  have fin : ∀ ti, (n = 0 ∨ l.getD (n - 1) 0 ≠ 0) → SetR Q (.agg [.bool (neg && decide (0 < n)), .own bb l.length 0 n ti]) (H.upd p (some (.row 39 0 [.bool (neg && decide (0 < n)), .own bb l.length 0 n ti]))) := fun ti h => by
    have e2 : n = (tr l).length := by
      have := congrArg List.length (tr_take h1 hz h)
      rw [List.length_take, Nat.min_eq_left h1] at this; exact this
    have := hq ti
    rw [← e2] at this
    exact SetR.dropTo ((Le.refl H).upd hp) (SetR.now this)
  have last : (n = 0 ∨ l.getD (n - 1) 0 ≠ 0) → W Tryd.prog (sndC (sndC (sndC ac139))) (retN rs139 Q) ⟨[], [(0, .bool neg), (1, .own bb l.length 0 l.length t), (4, .ptr p 2 0), (5, .int .i64 n), (17, .bool false)], H.upd p (some (.row 39 0 [.bool false, .seq 0 [] true]))⟩ := fun h => by
    have f := fun ti => fin ti h
    cases neg
    · simp (disch := first|exact Xe|fail) only [hH, cells_o2, ac139, rs139, sndC, ↓Xa,Xb,Xc,↓reduceIte,Nat.reduceLT,Nat.reduceEqDiff,Nat.reduceBEq,Nat.reduceLeDiff,Nat.reduceAdd,Nat.reduceMul]
      exact f _
    · simp (disch := first|exact Xe|fail) only [hH, cells_o2, ac139, rs139, sndC, ↓Xa,Xb,Xc,↓reduceIte,Nat.reduceLT,Nat.reduceEqDiff,Nat.reduceBEq,Nat.reduceLeDiff,Nat.reduceAdd,Nat.reduceMul]
      exact f _
  by_cases h0 : 0 < n
  · by_cases h2 : l.getD (n - 1) 0 = 0
    · simp (disch := first|exact Xe|fail) only [hH, h0, h2, ↓Xa,Xb,Xc,↓reduceIte,Nat.reduceLT,Nat.reduceEqDiff,Nat.reduceBEq,Nat.reduceLeDiff,Nat.reduceAdd,Nat.reduceMul]
      refine Settle.now ⟨n - 1, ?_, ⟨by omega, fun i hi hl' => ?_⟩, rfl⟩
      · show n - 1 < n; omega
      · rcases Nat.lt_or_ge i n with h | h
        · rw [show i = n - 1 by omega]; exact h2
        · exact hz i h hl'
    · simp (disch := first|exact Xe|fail) only [hH, h0, h2, ↓Xa,Xb,Xc,↓reduceIte,Nat.reduceLT,Nat.reduceEqDiff,Nat.reduceBEq,Nat.reduceLeDiff,Nat.reduceAdd,Nat.reduceMul]
      exact Settle.now (last (.inr h2))
  · simp (disch := first|exact Xe|fail) only [hH, h0, ↓Xa,Xb,Xc,↓reduceIte,Nat.reduceLT,Nat.reduceEqDiff,Nat.reduceBEq,Nat.reduceLeDiff,Nat.reduceAdd,Nat.reduceMul]
    exact Settle.now (last (.inl (by omega)))

end Go.Proofs.YtanchgkiomfhhaaDoor.Fw

/- The reference's division: a bit of a number; division by one digit. -/
namespace Go.Proofs.YtanchgkiomfhhaaDoor.Fw
set_option linter.unusedSimpArgs false
set_option linter.unusedVariables false
open Go Go.Proofs.YtanchgkiomfhhaaDoor.Ma
set_option maxRecDepth 20000

theorem bit_fn (n k : Nat) (t : Bool) (hn : (digs 65536 n).length ≤ 1099511627776) (hk : k / 16 < (digs 65536 n).length) : PFn Tryd.prog 193 [LS (digs 65536 n) t, .int .i64 (k : Int)] (.int .u32 ((n / 2 ^ k % 2 : Nat) : Int)) := by
  intro H Q hq
  have hd := (lim_digs (B := 65536) (by omega) n).getD (by omega) (k / 16)
  have hb := bit_of (n := n) (k := k)
  have hk2 : k < 9223372036854775808 := by omega
  have and1 : ∀ {a : Nat} {K : AV → Prop} (_ : a < 4294967296), binW .and (.int .u32 (a : Int)) (.int .u32 ((1 : Nat) : Int)) K ↔ K (.int .u32 ((a % 2 : Nat) : Int)) := fun {a K} ha => by
    rw [bin_and .u32 (by simpa [IntKind.bits] using ha) (by simp [IntKind.bits]), Nat.and_one_is_mod, wn_u32 (by omega)]
  have hdiv : (digs 65536 n).getD (k / 16) 0 / 2 ^ (k % 16) < 4294967296 := Nat.lt_of_le_of_lt (Nat.div_le_self _ _) (by omega)
  have ht : k % 16 ≤ 32 := by omega
  have hq16 : k / 16 < 9223372036854775808 := by omega
  refine enter193 (by simp) ?_
  simp (disch := first|exact Xe|fail) only [ac193, ne_eq,Nat.reduceEqDiff, and1, hb, rs193, ↓Xa,Xb,Xc,↓reduceIte,Nat.reduceLT,Nat.reduceEqDiff,Nat.reduceBEq,Nat.reduceLeDiff,Nat.reduceAdd,Nat.reduceMul]
  exact SetR.now hq

theorem rdiv_one {m n : Nat} (ta tb : Bool) (hn : 0 < n) (hn1 : n < 65536) (hm : (digs 65536 m).length ≤ 1099511627776) :
    PFn Tryd.prog 133 [LS (digs 65536 m) ta, LS (digs 65536 n) tb] (.tup [LS (digs 65536 (m / n)) false, LS (digs 65536 (m % n)) false]) := by
  intro H Q hq
  have vm := val_digs (B := 65536) (by omega) m
  have lm := lim_digs (B := 65536) (by omega) m
  have hne : (n = 0) = False := eq_false (by omega)
  have hY : digs 65536 n = [n] := by rw [digs_pos (by omega) hn, Nat.mod_eq_of_lt hn1, Nat.div_eq_of_lt hn1, digs_zero]
  rw [hY]
  generalize digs 65536 m = a at *
  refine enter133 (by simp) ?_
  have l1 : ([n] : List Nat).length = 1 := rfl
  have g1 : ([n] : List Nat).getD 0 0 = n := rfl
  simp (disch := first|exact Xe|fail) only [ac133, l1, g1, load_LS0, ↓Xa,Xb,Xc,↓reduceIte,Nat.reduceLT,Nat.reduceEqDiff,Nat.reduceBEq,Nat.reduceLeDiff,Nat.reduceAdd,Nat.reduceMul]
  refine newU_i fun o ho => ?_
  simp (disch := first|exact Xe|fail) only [↓Xa,Xb,Xc,↓reduceIte,Nat.reduceLT,Nat.reduceEqDiff,Nat.reduceBEq,Nat.reduceLeDiff,Nat.reduceAdd,Nat.reduceMul]
  refine W_loop (fun p : Nat × Nat × List Nat => ⟨[], [(0, LS a ta), (1, LS [n] tb), (6, .own o a.length 0 a.length true), (7, .int .u64 p.2.1), (8, .int .i64 (dn p.1))],
      H.upd o (some (.row 172 1 (U p.2.2)))⟩)
    (fun p => p.1 ≤ a.length ∧ DivJ a n p.1 p.2.1 p.2.2) (fun p => p.1) (a.length, 0, List.replicate a.length 0) (Settle.now rfl) ⟨by simp, DivJ.zero a hn⟩ ?_
  rintro ⟨k, r, out⟩ ⟨h1, h2⟩
  dsimp only at h1 h2 ⊢
  have hol := h2.1
  have hr := h2.2.2.1
  cases k with
  | zero =>
    simp (disch := first|exact Xe|fail) only [↓Xa,Xb,Xc,↓reduceIte,Nat.reduceLT,Nat.reduceEqDiff,Nat.reduceBEq,Nat.reduceLeDiff,Nat.reduceAdd,Nat.reduceMul]
    refine Settle.freeze 6 rfl (upd_same _ _ _) (by simp [hol]) (.inr (by simp)) ?_
    have e1 : AV.seq a.length (((U out).drop 0).take (a.length * 1)) true = LS out true := by
      rw [List.drop_zero, Nat.mul_one, ← hol, List.take_of_length_le (by simp)]; rfl
    rw [e1, upd_upd, upd_back _ ho]
    refine Settle.now ?_
    simp (disch := first|exact Xe|fail) only [↓Xa,Xb,Xc,↓reduceIte,Nat.reduceLT,Nat.reduceEqDiff,Nat.reduceBEq,Nat.reduceLeDiff,Nat.reduceAdd,Nat.reduceMul]
    refine (rnorm_fn false true h2.2.1 (by omega)).call ?_
    simp (disch := first|exact Xe|fail) only [RefA, ↓Xa,Xb,Xc,↓reduceIte,Nat.reduceLT,Nat.reduceEqDiff,Nat.reduceBEq,Nat.reduceLeDiff,Nat.reduceAdd,Nat.reduceMul]
    refine (rnorm_fn (l := [r]) false true (Lim.one (by omega)) (by simp)).call ?_
    simp (disch := first|exact Xe|fail) only [RefA, rs133, ↓Xa,Xb,Xc,↓reduceIte,Nat.reduceLT,Nat.reduceEqDiff,Nat.reduceBEq,Nat.reduceLeDiff,Nat.reduceAdd,Nat.reduceMul]
    refine SetR.now ?_
    have e2 := h2.end
    rw [tr_digs (by omega) h2.2.1, vm] at e2
    rw [sg_abs, sg_abs, val_one, e2.1, e2.2]
    exact hq
  | succ k =>
    clear l1 g1 hY vm hne ho
    have hx := lm.getD (by omega) k
    have hs : r * 65536 + a.getD k 0 < 4294967296 := by omega
    have hne : (n = 0) = False := eq_false (by omega)
    have hw : IntKind.u32.wrap (((r * 65536 + a.getD k 0) / n : Nat) : Int) = (((r * 65536 + a.getD k 0) / n : Nat) : Int) := wn_u32 (Nat.lt_of_le_of_lt (Nat.div_le_self _ _) hs)
    have hw2 : IntKind.u64.wrap (((r * 65536 + a.getD k 0) / n : Nat) : Int) = (((r * 65536 + a.getD k 0) / n : Nat) : Int) := wn_u64 (Nat.lt_trans (Nat.lt_of_le_of_lt (Nat.div_le_self _ _) hs) (by decide))
    have hwm : IntKind.u64.wrap ((r * 65536 : Nat) : Int) = ((r * 65536 : Nat) : Int) := wn_u64 (Nat.lt_trans (Nat.lt_of_le_of_lt (Nat.le_add_right _ _) hs) (by decide))
    have hwa : IntKind.u64.wrap ((r * 65536 + a.getD k 0 : Nat) : Int) = ((r * 65536 + a.getD k 0 : Nat) : Int) := wn_u64 (Nat.lt_trans hs (by decide))
    have hd66 : (r * 65536 + a.getD k 0) / n < 65536 := by
      apply Nat.div_lt_of_lt_mul
      have : (r + 1) * 65536 ≤ n * 65536 := Nat.mul_le_mul_right _ hr
      omega
    have hst := h2.step (s := r * 65536 + a.getD k 0) (by omega) lm hn1 rfl
    rw [Nat.mod_eq_of_lt hd66] at hst
    have hqm : (r * 65536 + a.getD k 0) / n % 18446744073709551616 % 4294967296 = (r * 65536 + a.getD k 0) / n := by
      rw [Nat.mod_eq_of_lt (Nat.lt_trans hd66 (by decide)), Nat.mod_eq_of_lt (Nat.lt_trans hd66 (by decide))]
    clear hd66
    generalize hqd : (r * 65536 + a.getD k 0) / n = qd at *
    generalize hrd : (r * 65536 + a.getD k 0) % n = rd at *
    generalize hsd : r * 65536 + a.getD k 0 = sd at *
    simp (disch := first|exact Xe|fail) only [hne, ne_eq, List.getD_cons_zero, load_LS0, ↓hwm, ↓hwa, hsd, hqd, hrd, ↓hw, ↓hw2, ↓Xa,Xb,Xc,↓reduceIte,Nat.reduceLT,Nat.reduceEqDiff,Nat.reduceBEq,Nat.reduceLeDiff,Nat.reduceAdd,Nat.reduceMul]
    exact Settle.now ⟨(k, _, _), by dsimp only; omega, ⟨by dsimp only; omega, hst⟩, rfl⟩
end Go.Proofs.YtanchgkiomfhhaaDoor.Fw
