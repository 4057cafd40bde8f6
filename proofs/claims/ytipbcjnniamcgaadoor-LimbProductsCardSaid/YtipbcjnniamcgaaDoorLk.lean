/- What package limb computes: shifts. -/
import Derived.Test.YtipbcjnniamcgaaDoorLb
import Derived.Test.YtipbcjnniamcgaaDoorNa
namespace Go.Proofs.YtipbcjnniamcgaaDoor.Fw
set_option linter.unusedSimpArgs false
set_option linter.unusedVariables false
open Go Go.Proofs.YtipbcjnniamcgaaDoor.Ma
set_option maxRecDepth 20000

theorem lz_fn {x : Nat} (hx : x < 4294967296) : PFn Tryd.prog 91 [.int .u32 (x : Int)] (.int .i64 ((32 - blen x : Nat) : Int)) := by
  intro H Q hq
  have hb : blen x ≤ 32 := blen_le.2 (by omega)
  refine enter91 (by simp) ?_
  simp (disch := first | assumption | (apply Ap.symm; assumption) | omega | decide | (simp only [U_len, List.length_append, List.length_replicate, List.length_cons, List.length_nil, List.length_set] <;> omega) | fail) only [ac91, ↓Xa, Xb, Xc, ↓reduceIte, Nat.reduceLT, Nat.reduceEqDiff, Nat.reduceBEq, Nat.reduceLeDiff, Nat.reduceAdd, Nat.reduceMul]
  refine (len32_fn hx).call ?_
  simp (disch := first | assumption | (apply Ap.symm; assumption) | omega | decide | (simp only [U_len, List.length_append, List.length_replicate, List.length_cons, List.length_nil, List.length_set] <;> omega) | fail) only [rs91, ↓Xa, Xb, Xc, ↓reduceIte, Nat.reduceLT, Nat.reduceEqDiff, Nat.reduceBEq, Nat.reduceLeDiff, Nat.reduceAdd, Nat.reduceMul]
  exact SetR.now hq

theorem shl_fn {a : List Nat} {s : Nat} (t : Bool) (ha : Lim 4294967296 a) (hs : s ≤ 65536) (hn : a.length ≤ 1099511627776) : PFn Tryd.prog 59 [LS a t, .int .i64 (s : Int)] (.tup [LS (digs 4294967296 (val 4294967296 a * 2 ^ s)) true, .int .i64 ((0 : Nat) : Int)]) := by
  intro H Q hq
  have hnl : ¬ 65536 < s := by omega
  refine enter59 (by simp) ?_
  simp (disch := first | assumption | (apply Ap.symm; assumption) | omega | decide | (simp only [U_len, List.length_append, List.length_replicate, List.length_cons, List.length_nil, List.length_set] <;> omega) | fail) only [ac59, lss_f, hnl, ne_eq, Nat.reduceEqDiff, ↓Xa, Xb, Xc, ↓reduceIte, Nat.reduceLT, Nat.reduceEqDiff, Nat.reduceBEq, Nat.reduceLeDiff, Nat.reduceAdd, Nat.reduceMul]
  refine newU_i fun o ho => ?_
  simp (disch := first | assumption | (apply Ap.symm; assumption) | omega | decide | (simp only [U_len, List.length_append, List.length_replicate, List.length_cons, List.length_nil, List.length_set] <;> omega) | fail) only [ne_eq, Nat.reduceEqDiff, ↓Xa, Xb, Xc, ↓reduceIte, Nat.reduceLT, Nat.reduceEqDiff, Nat.reduceBEq, Nat.reduceLeDiff, Nat.reduceAdd, Nat.reduceMul]
  have hr : s % 32 < 32 := Nat.mod_lt _ (by omega)
  have hse : 32 * (s / 32) + s % 32 = s := Nat.div_add_mod s 32
  generalize hq32 : s / 32 = q at *
  generalize hp32 : s % 32 = p at *
  refine W_loop (fun x : Nat × Nat × List Nat => ⟨[], [(1, .int .i64 s), (6, .own o (a.length + q + 1) 0 (a.length + q + 1) true), (7, .int .i64 p), (24, LS a t), (25, .int .i64 a.length), (26, .int .i64 x.1)],
      H.upd o (some (.row 45 1 (U (rowS q x.2.2 x.2.1 (a.length - x.1)))))⟩)
    (fun x => x.1 ≤ a.length ∧ ShlI a p x.1 x.2.1 x.2.2) (fun x => a.length - x.1) (0, 0, []) (Settle.now (by rw [Nat.sub_zero, rowS_zero, show q + (a.length + 1) = a.length + q + 1 by omega])) ⟨by simp, ShlI.zero a p⟩ ?_
  rintro ⟨i, c, done⟩ ⟨h1, h2⟩
  dsimp only at h1 h2 ⊢
  have hd := h2.1
  by_cases hi : i < a.length
  · have hx := ha.getD (by omega) i
    subst hd
    obtain ⟨k1, k2, k3⟩ := h2.step hr ha rfl
    have hc := h2.2.2.1
    obtain ⟨m, hm⟩ : ∃ m, a.length - done.length = m + 1 := ⟨a.length - done.length - 1, by omega⟩
    have hy : a.getD done.length 0 * 2 ^ p < 18446744073709551616 := by
      have : a.getD done.length 0 * 2 ^ p ≤ 4294967295 * 2 ^ 31 := Nat.mul_le_mul (by omega) (Nat.pow_le_pow_right (by omega) (by omega))
      omega
    have hp64 : p ≤ 64 := by omega
    have hpl : (2 : Nat) ^ p ≤ 2 ^ 31 := Nat.pow_le_pow_right (by omega) (by omega)
    have lo := or_low (m := a.getD done.length 0 * 2 ^ p % 4294967296) hc (shl_low hr)
    generalize hY : a.getD done.length 0 * 2 ^ p = y at *
    have len1 : ∀ c, (rowS q done c (m + 1)).length = a.length + q + 1 := fun c => by rw [rowS_len]; omega
    have len2 := len1 c
    have len3 := len1 (c + y % 4294967296)
    have or1 : ∀ K, binW .or (.int .u32 (c : Int)) (.int .u32 ((y % 4294967296 : Nat) : Int)) K ↔ K (.int .u32 ((c + y % 4294967296 : Nat) : Int)) := fun K => by
      rw [bin_or .u32 (by simp only [IntKind.bits]; omega) (by simp only [IntKind.bits]; omega), lo, wn_u32 k1]
    have or2 : ∀ K, binW .or (.int .u32 ((0 : Nat) : Int)) (.int .u32 ((y / 2 ^ 32 : Nat) : Int)) K ↔ K (.int .u32 ((y / 2 ^ 32 : Nat) : Int)) := fun K => by
      rw [bin_or .u32 (by simp [IntKind.bits]) (by simp only [IntKind.bits]; omega), Nat.zero_or, wn_u32 (by omega)]
    rw [hm]
    simp (disch := first | assumption | (apply Ap.symm; assumption) | omega | decide | (simp only [U_len, List.length_append, List.length_replicate, List.length_cons, List.length_nil, List.length_set] <;> omega) | fail) only [hi, hq32, hp32, hY, bin_shl64, rowS_get, rowS_set, rowS_get1, rowS_set1, or1, or2, ne_eq, Nat.reduceEqDiff, ↓Xa, Xb, Xc, ↓reduceIte, Nat.reduceLT, Nat.reduceEqDiff, Nat.reduceBEq, Nat.reduceLeDiff, Nat.reduceAdd, Nat.reduceMul]
    refine Settle.now ⟨(done.length + 1, _, _), by dsimp only; omega, ⟨by dsimp only; omega, k3⟩, ?_⟩
    rw [show a.length - (done.length + 1) = m by omega]
  · obtain rfl : i = a.length := by omega
    simp (disch := first | assumption | (apply Ap.symm; assumption) | omega | decide | (simp only [U_len, List.length_append, List.length_replicate, List.length_cons, List.length_nil, List.length_set] <;> omega) | fail) only [hi, Nat.sub_self, ↓Xa, Xb, Xc, ↓reduceIte, Nat.reduceLT, Nat.reduceEqDiff, Nat.reduceBEq, Nat.reduceLeDiff, Nat.reduceAdd, Nat.reduceMul]
    refine Settle.now ?_
    have len0 : (rowS q done c 0).length = a.length + q + 1 := by rw [rowS_len]; omega
    simp (disch := first | assumption | (apply Ap.symm; assumption) | omega | decide | (simp only [U_len, List.length_append, List.length_replicate, List.length_cons, List.length_nil, List.length_set] <;> omega) | fail) only [↓Xa, Xb, Xc, ↓reduceIte, Nat.reduceLT, Nat.reduceEqDiff, Nat.reduceBEq, Nat.reduceLeDiff, Nat.reduceAdd, Nat.reduceMul]
    refine trim_call (upd_same _ _ _) len0 ?_
    simp (disch := first | assumption | (apply Ap.symm; assumption) | omega | decide | (simp only [U_len, List.length_append, List.length_replicate, List.length_cons, List.length_nil, List.length_set] <;> omega) | fail) only [rs59, ↓Xa, Xb, Xc, ↓reduceIte, Nat.reduceLT, Nat.reduceEqDiff, Nat.reduceBEq, Nat.reduceLeDiff, Nat.reduceAdd, Nat.reduceMul]
    have e := h2.end (q := q) hr
    rw [hse] at e
    exact fin_tr2 ho len0 (by rw [e]; exact hq)

theorem shr_fn {a : List Nat} {s : Nat} (t : Bool) (ha : Lim 4294967296 a) (hs : s < 9223372036854775808) (hn : a.length ≤ 1099511627776) : PFn Tryd.prog 60 [LS a t, .int .i64 (s : Int)] (.tup [LS (digs 4294967296 (val 4294967296 a / 2 ^ s)) true, .int .i64 ((0 : Nat) : Int)]) := by
  intro H Q hq
  refine enter60 (by simp) ?_
  simp (disch := first | assumption | (apply Ap.symm; assumption) | omega | decide | (simp only [U_len, List.length_append, List.length_replicate, List.length_cons, List.length_nil, List.length_set] <;> omega) | fail) only [ac60, lss_f, ne_eq, Nat.reduceEqDiff, ↓Xa, Xb, Xc, ↓reduceIte, Nat.reduceLT, Nat.reduceEqDiff, Nat.reduceBEq, Nat.reduceLeDiff, Nat.reduceAdd, Nat.reduceMul]
  refine (trim_fn a t).call ?_
  have ht := tr_len a
  rw [tr_digs (by omega) ha] at ht ⊢
  generalize val 4294967296 a = N at *
  have hse : 32 * (s / 32) + s % 32 = s := Nat.div_add_mod s 32
  have hr : s % 32 < 32 := Nat.mod_lt _ (by omega)
  have hsq : s / 32 < 9223372036854775808 := by omega
  generalize hq32 : s / 32 = q at *
  generalize hp32 : s % 32 = p at *
  have hN := val_digs (B := 4294967296) (by omega) N
  have hX := lim_digs (B := 4294967296) (by omega) N
  have hpow : (2 : Nat) ^ s = 4294967296 ^ q * 2 ^ p := by rw [← hse, Nat.pow_add, Nat.pow_mul]
  by_cases hql : (digs 4294967296 N).length ≤ q
  · simp (disch := first | assumption | (apply Ap.symm; assumption) | omega | decide | (simp only [U_len, List.length_append, List.length_replicate, List.length_cons, List.length_nil, List.length_set] <;> omega) | fail) only [hq32, hql, ne_eq, Nat.reduceEqDiff, rs60, ↓Xa, Xb, Xc, ↓reduceIte, Nat.reduceLT, Nat.reduceEqDiff, Nat.reduceBEq, Nat.reduceLeDiff, Nat.reduceAdd, Nat.reduceMul]
    have h0 : N / 2 ^ s = 0 := by
      apply Nat.div_eq_of_lt
      have h1 := val_lt hX
      rw [hN] at h1
      have h2 : (4294967296 : Nat) ^ (digs 4294967296 N).length ≤ 4294967296 ^ q := Nat.pow_le_pow_right (by omega) hql
      have h3 : 4294967296 ^ q * 1 ≤ 4294967296 ^ q * 2 ^ p := Nat.mul_le_mul_left _ (Nat.pow_pos (by omega))
      omega
    rw [h0, digs_zero] at hq
    exact SetR.now hq
  · have hvd := val_drop_div (B := 4294967296) (by omega) hX (q := q) (by omega)
    rw [hN] at hvd
    have hXd := hX.drop q
    have hdl : ((digs 4294967296 N).drop q).length ≤ a.length := by rw [List.length_drop]; omega
    simp (disch := first | assumption | (apply Ap.symm; assumption) | omega | decide | (simp only [U_len, List.length_append, List.length_replicate, List.length_cons, List.length_nil, List.length_set] <;> omega) | fail) only [hq32, hql, ne_eq, Nat.reduceEqDiff, ↓Xa, Xb, Xc, ↓reduceIte, Nat.reduceLT, Nat.reduceEqDiff, Nat.reduceBEq, Nat.reduceLeDiff, Nat.reduceAdd, Nat.reduceMul]
    generalize (digs 4294967296 N).drop q = x at *
    simp (disch := first | assumption | (apply Ap.symm; assumption) | omega | decide | (simp only [U_len, List.length_append, List.length_replicate, List.length_cons, List.length_nil, List.length_set] <;> omega) | fail) only [hq32, hp32, ne_eq, Nat.reduceEqDiff, ↓Xa, Xb, Xc, ↓reduceIte, Nat.reduceLT, Nat.reduceEqDiff, Nat.reduceBEq, Nat.reduceLeDiff, Nat.reduceAdd, Nat.reduceMul]
    refine newU_i fun o ho => ?_
    simp (disch := first | assumption | (apply Ap.symm; assumption) | omega | decide | (simp only [U_len, List.length_append, List.length_replicate, List.length_cons, List.length_nil, List.length_set] <;> omega) | fail) only [↓Xa, Xb, Xc, ↓reduceIte, Nat.reduceLT, Nat.reduceEqDiff, Nat.reduceBEq, Nat.reduceLeDiff, Nat.reduceAdd, Nat.reduceMul]
    refine W_loop (fun z : Nat × List Nat => ⟨[], [(0, LS x true), (6, .int .i64 p), (7, .own o x.length 0 x.length true), (29, LS x true), (30, .int .i64 x.length), (31, .int .i64 z.1)],
        H.upd o (some (.row 45 1 (U (z.2 ++ List.replicate (x.length - z.1) 0))))⟩)
      (fun z => z.1 ≤ x.length ∧ ShrI (val 4294967296 x) p z.1 z.2) (fun z => x.length - z.1) (0, []) (Settle.now rfl) ⟨by simp, rfl, Lim.nil _, by simp [val, Nat.mod_one]⟩ ?_
    rintro ⟨i, done⟩ ⟨h1, h2⟩
    dsimp only at h1 h2 ⊢
    have hd := h2.1
    by_cases hi : i < x.length
    · have hx0 := hXd.getD (by omega) i
      have hx1 := hXd.getD (by omega) (i + 1)
      have hp64 : p ≤ 64 := by omega
      by_cases hj : i + 1 < x.length
      · have hyb : (x.getD i 0 + x.getD (i + 1) 0 * 2 ^ 32) / 2 ^ p < 18446744073709551616 := Nat.lt_of_le_of_lt (Nat.div_le_self _ _) (by omega)
        simp (disch := first | assumption | (apply Ap.symm; assumption) | omega | decide | (simp only [U_len, List.length_append, List.length_replicate, List.length_cons, List.length_nil, List.length_set] <;> omega) | fail) only [hi, hj, ↓Xa, Xb, Xc, ↓reduceIte, Nat.reduceLT, Nat.reduceEqDiff, Nat.reduceBEq, Nat.reduceLeDiff, Nat.reduceAdd, Nat.reduceMul]
        refine Settle.now ⟨(i + 1, done ++ [_]), by dsimp only; omega, ⟨by dsimp only; omega, h2.step hr hXd hi rfl⟩, ?_⟩
        rw [set_zeros' _ _ _ _ hd hi]
      · have h0 := getD_beyond (show x.length ≤ i + 1 by omega)
        have e0 : x.getD i 0 / 2 ^ p < 18446744073709551616 := Nat.lt_of_le_of_lt (Nat.div_le_self _ _) (by omega)
        simp (disch := first | assumption | (apply Ap.symm; assumption) | omega | decide | (simp only [U_len, List.length_append, List.length_replicate, List.length_cons, List.length_nil, List.length_set] <;> omega) | fail) only [hi, hj, ↓Xa, Xb, Xc, ↓reduceIte, Nat.reduceLT, Nat.reduceEqDiff, Nat.reduceBEq, Nat.reduceLeDiff, Nat.reduceAdd, Nat.reduceMul]
        refine Settle.now ⟨(i + 1, done ++ [_]), by dsimp only; omega, ⟨by dsimp only; omega, h2.step hr hXd hi (y := x.getD i 0) (by rw [h0]; omega)⟩, ?_⟩
        rw [set_zeros' _ _ _ _ hd hi]
    · obtain rfl : i = x.length := by omega
      simp (disch := first | assumption | (apply Ap.symm; assumption) | omega | decide | (simp only [U_len, List.length_append, List.length_replicate, List.length_cons, List.length_nil, List.length_set] <;> omega) | fail) only [hi, Nat.sub_self, List.replicate_zero, ↓Xa, Xb, Xc, ↓reduceIte, Nat.reduceLT, Nat.reduceEqDiff, Nat.reduceBEq, Nat.reduceLeDiff, Nat.reduceAdd, Nat.reduceMul]
      refine Settle.now ?_
      simp (disch := first | assumption | (apply Ap.symm; assumption) | omega | decide | (simp only [U_len, List.length_append, List.length_replicate, List.length_cons, List.length_nil, List.length_set] <;> omega) | fail) only [↓Xa, Xb, Xc, ↓reduceIte, Nat.reduceLT, Nat.reduceEqDiff, Nat.reduceBEq, Nat.reduceLeDiff, Nat.reduceAdd, Nat.reduceMul]
      refine trim_call (upd_same _ _ _) hd ?_
      simp (disch := first | assumption | (apply Ap.symm; assumption) | omega | decide | (simp only [U_len, List.length_append, List.length_replicate, List.length_cons, List.length_nil, List.length_set] <;> omega) | fail) only [rs60, ↓Xa, Xb, Xc, ↓reduceIte, Nat.reduceLT, Nat.reduceEqDiff, Nat.reduceBEq, Nat.reduceLeDiff, Nat.reduceAdd, Nat.reduceMul]
      refine fin_tr2 ho hd ?_
      rw [h2.end hXd, hvd, Nat.div_div_eq_div_mul, ← hpow]; exact hq
end Go.Proofs.YtipbcjnniamcgaaDoor.Fw
